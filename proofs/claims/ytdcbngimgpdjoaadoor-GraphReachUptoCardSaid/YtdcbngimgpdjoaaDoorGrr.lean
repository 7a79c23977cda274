/- The law GraphReach. Conditions: utf8's tables lie in the world; the graph's texts and rows hold no more than a million million. -/
import Derived.Test.YtdcbngimgpdjoaaDoorGb
import Derived.Deep.RegionHeld3
namespace Go.Proofs.YtdcbngimgpdjoaaDoor
open Go.RowKit
theorem met_leads {G : Gr} {a : Nat} : ∀ b ∈ metL G a, Leads (kidN G) a b := metL_least .refl fun _ h _ hy => h.step hy
theorem cyc_up {G : Gr} (h : RightG G) {a b : Nat} (ha : a < G.nodes.length) (hb : b ∈ metL G a) (hc : cycL G b = true) : cycL G a = true := by
  have hbn := (h.met ha).lt b hb
  exact (h.cyc ha).2 fun hacc => (h.cyc hbn).1 hc ((met_leads b hb).acc hacc)
def natI (l : List Nat) : List Int := l.map Int.ofNat
theorem natI_has (l : List Nat) (n : Nat) : ((natI l).any fun x => x == (n : Int)) = decide (n ∈ l) := by
  rw [Bool.eq_iff_iff]
  simp [natI]
  constructor
  · rintro ⟨x, hx, he⟩
    have : x = n := by omega
    exact this ▸ hx
  · intro h; exact ⟨n, h, rfl⟩
theorem nth_natI {l : List Nat} {k : Nat} (h : k < l.length) : nth (natI l) k = (l[k] : Nat) := by simp [nth, natI, h]
set_option maxRecDepth 100000 in
set_option maxHeartbeats 4000000 in
theorem graphReach_out (w : World) (hT : Tabs w) (G : Gr) (v : Value) (hG : GrAt w w.heap.size G v) (hokB : G.okB) (a b : Int) (h : bigB G = true ∨ (bigB G = false ∧ isB G a = false) ∨ (bigB G = false ∧ isB G a = true ∧ isB G b = false)) :
    Calls Tryd.prog 4 #[v, .int .i64 a, .int .i64 b] w fun e w' => e = .returned (.bool true) ∧ Below w.heap.size w w' := by
  have HM : Hid (bigB G = false → ∀ W (z : Int), Below w.heap.size w W → Calls Tryd.prog 27 #[v, .int .i64 z] W fun e w' => e = .returned (.bool (isB G z)) ∧ Below W.heap.size W w') := fun hb W z hW => RMay_any G v z W ((hG.below hW (Nat.le_refl _)).more hW.size) (hokB.okR hb)
  have HBg : Hid (∀ W, Below w.heap.size w W → Calls Tryd.prog 17 #[v] W fun e w' => e = .returned (.bool (bigB G)) ∧ Below W.heap.size W w') := fun W hW => Big_any G v W ((hG.below hW (Nat.le_refl _)).more hW.size) hokB
  obtain ⟨NA, nc, RA, rc, rfl, hN, hR⟩ := hG.ex
  obtain ⟨V, hV, hbV, hrow, hsz⟩ := box2 w (.slice NA G.nodes.length nc) (.slice RA G.roots.length rc) 25
  have HA : Hid (Calls Tryd.prog 16 #[] V fun e w' => e = .returned (.bool true) ∧ Below V.heap.size V w') := alive_any V (hT.below hbV)
  have HC : Hid (∀ W, Below V.heap.size V W → W.cell? ⟨w.heap.size, 0, none⟩ = some (.slice NA G.nodes.length nc) ∧ W.cell? ⟨w.heap.size, 1, none⟩ = some (.slice RA G.roots.length rc) ∧ Below w.heap.size w W) := fun W h => by
    have hr := (h.block w.heap.size (by omega)).trans hrow
    exact ⟨Lib.cell_of_heap hr 0, Lib.cell_of_heap hr 1, below_then hbV h⟩
  obtain ⟨v0, v1, _⟩ := HC.out V (Below.refl _ _)
  clear hT hG hokB hN hR hbV hrow hsz
  obtain ⟨bg, hbg⟩ : ∃ x, bigB G = x := ⟨_, rfl⟩
  rw [hbg] at h HM HBg
  clear hbg
  rcases h with h | ⟨h, h2⟩ | ⟨h, h2, h3⟩
  · subst h
    go_enter Tryd.func4, Tryd.ntmps4
    go_wp2_with (first
      | (go_at_call 16; refine HA.out.mono ?_; rintro e w1 ⟨rfl, hb1⟩; obtain ⟨x0, x1, x2⟩ := HC.out w1 hb1; have Hb1 := Lib.hid hb1; have X2 := Lib.hid x2; clear hb1 x2)
      | (go_at_call 17; refine (HBg.out w1 X2.out).mono ?_; rintro e w2 ⟨rfl, hb2⟩; have X3 := Lib.hid (X2.out.trans (hb2.mono X2.out.size)); clear hb2))
    go_ret
    exact ⟨by first | rfl | simp, X3.out⟩
  · subst h
    have HM1 := Lib.hid (fun W hW => by have := HM.out rfl W a hW; rwa [h2] at this)
    clear HM h2
    go_enter Tryd.func4, Tryd.ntmps4
    go_wp2_with (first
      | (go_at_call 16; refine HA.out.mono ?_; rintro e w1 ⟨rfl, hb1⟩; obtain ⟨x0, x1, x2⟩ := HC.out w1 hb1; have Hb1 := Lib.hid hb1; have X2 := Lib.hid x2; clear hb1 x2)
      | (go_at_call 17; refine (HBg.out w1 X2.out).mono ?_; rintro e w2 ⟨rfl, hb2⟩; have Hb2 := Lib.hid (Hb1.out.trans (hb2.mono Hb1.out.size)); obtain ⟨y0, y1, y2⟩ := HC.out w2 Hb2.out; have Y2 := Lib.hid y2; clear hb2 y2)
      | (go_at_call 27; refine (HM1.out w2 Y2.out).mono ?_; rintro e w3 ⟨rfl, hb3⟩; have X3 := Lib.hid (Y2.out.trans (hb3.mono Y2.out.size)); clear hb3))
    go_ret
    exact ⟨by first | rfl | simp, X3.out⟩
  · subst h
    have HM1 := Lib.hid (fun W hW => by have := HM.out rfl W a hW; rwa [h2] at this)
    have HM2 := Lib.hid (fun W hW => by have := HM.out rfl W b hW; rwa [h3] at this)
    clear HM h2 h3
    go_enter Tryd.func4, Tryd.ntmps4
    go_wp2_with (first
      | (go_at_call 16; refine HA.out.mono ?_; rintro e w1 ⟨rfl, hb1⟩; obtain ⟨x0, x1, x2⟩ := HC.out w1 hb1; have Hb1 := Lib.hid hb1; have X2 := Lib.hid x2; clear hb1 x2)
      | (go_at_call 17; refine (HBg.out w1 X2.out).mono ?_; rintro e w2 ⟨rfl, hb2⟩; have Hb2 := Lib.hid (Hb1.out.trans (hb2.mono Hb1.out.size)); obtain ⟨y0, y1, y2⟩ := HC.out w2 Hb2.out; have Y2 := Lib.hid y2; clear hb2 y2)
      | (go_at_call 27; have _ := Hb3; refine (HM2.out w3 Z2.out).mono ?_; rintro e w4 ⟨rfl, hb4⟩; have X4 := Lib.hid (Z2.out.trans (hb4.mono Z2.out.size)); clear hb4)
      | (go_at_call 27; refine (HM1.out w2 Y2.out).mono ?_; rintro e w3 ⟨rfl, hb3⟩; have Hb3 := Lib.hid (Hb2.out.trans (hb3.mono Hb2.out.size)); obtain ⟨z0, z1, z2⟩ := HC.out w3 Hb3.out; have Z2 := Lib.hid z2; clear hb3 z2))
    go_ret
    exact ⟨by first | rfl | simp, X4.out⟩
set_option maxRecDepth 100000 in
set_option maxHeartbeats 8000000 in
theorem graphReach_in (w : World) (hT : Tabs w) (G : Gr) (v : Value) (hG : GrAt w w.heap.size G v) (hok : G.ok) (hokB : G.okB) (a b : Nat) (hb : bigB G = false) (ha : isB G a = true) (hbb : isB G b = true) :
    Calls Tryd.prog 4 #[v, .int .i64 (a : Int), .int .i64 (b : Int)] w fun e w' => e = .returned (.bool true) ∧ Below w.heap.size w w' := by
  have HM : Hid (∀ W (z : Nat), isB G z = true → Below w.heap.size w W → Calls Tryd.prog 27 #[v, .int .i64 (z : Int)] W fun e w' => e = .returned (.bool true) ∧ Below W.heap.size W w') := fun W z hz hW => by
    have := RMay_any G v z W ((hG.below hW (Nat.le_refl _)).more hW.size) (hokB.okR hb)
    rwa [show (decide (0 ≤ (z : Int)) && decide ((z : Int) < G.nodes.length) && rightB G) = true from hz] at this
  have HM1 := Lib.hid (fun W hW => HM.out W a ha hW)
  have HM2 := Lib.hid (fun W hW => HM.out W b hbb hW)
  have HBg : Hid (∀ W, Below w.heap.size w W → Calls Tryd.prog 17 #[v] W fun e w' => e = .returned (.bool false) ∧ Below W.heap.size W w') := fun W hW => by
    have := Big_any G v W ((hG.below hW (Nat.le_refl _)).more hW.size) hokB
    rwa [hb] at this
  have HRe : Hid (∀ W (z : Nat), isB G z = true → Below w.heap.size w W → Calls Tryd.prog 21 #[v, .int .i64 (z : Int)] W fun e w' => ∃ A c, e = .returned (.slice A (List.length (natI (metL G z))) c) ∧ IntsAt w' w'.heap.size A (natI (metL G z)) ∧ (List.length (natI (metL G z))) ≤ c ∧ Below W.heap.size W w') := fun W z hz hW => by
    refine (Reach_any G v z W ((hG.below hW (Nat.le_refl _)).more hW.size) hok (hT.below hW)).mono ?_
    rintro e w' ⟨u, rfl, ⟨A, c, rfl, hI, hc, _⟩, hb⟩
    rw [show reachL G z = metL G z by rw [reachL, hz]; simp] at hI hc ⊢
    exact ⟨A, c, by simp [natI], hI, by simpa [natI] using hc, hb⟩
  have HCy : Hid (∀ W (z : Nat), isB G z = true → Below w.heap.size w W → Calls Tryd.prog 23 #[v, .int .i64 (z : Int)] W fun e w' => e = .returned (.bool (cycL G z)) ∧ Below W.heap.size W w') := fun W z hz hW => by
    have := Cyclic_any G v z W ((hG.below hW (Nat.le_refl _)).more hW.size) hok (hT.below hW)
    rwa [cyclicB, hz, Bool.true_and, Int.toNat_natCast] at this
  have hRG : RightG G := by
    simp only [isB, Bool.and_eq_true] at ha
    exact .of ha.2
  have han : a < G.nodes.length := by simp [isB] at ha; omega
  have hbn : b < G.nodes.length := by simp [isB] at hbb; omega
  have hma := hRG.met han
  have hmb := hRG.met hbn
  obtain ⟨NA, nc, RA, rc, rfl, hN, hR⟩ := hG.ex
  obtain ⟨V, hV, hbV, hrow, hsz⟩ := box2 w (.slice NA G.nodes.length nc) (.slice RA G.roots.length rc) 25
  have HA : Hid (Calls Tryd.prog 16 #[] V fun e w' => e = .returned (.bool true) ∧ Below V.heap.size V w') := alive_any V (hT.below hbV)
  have HC : Hid (∀ W, Below V.heap.size V W → W.cell? ⟨w.heap.size, 0, none⟩ = some (.slice NA G.nodes.length nc) ∧ W.cell? ⟨w.heap.size, 1, none⟩ = some (.slice RA G.roots.length rc) ∧ Below w.heap.size w W) := fun W h => by
    have hr := (h.block w.heap.size (by omega)).trans hrow
    exact ⟨Lib.cell_of_heap hr 0, Lib.cell_of_heap hr 1, below_then hbV h⟩
  obtain ⟨v0, v1, _⟩ := HC.out V (Below.refl _ _)
  have Ha := Lib.hid ha
  have Hbb := Lib.hid hbb
  have HN := Lib.hid hN
  have Hma := Lib.hid hma
  have Hmb := Lib.hid hmb
  have HRG := Lib.hid hRG
  have Hhan := Lib.hid han
  have Hhbn := Lib.hid hbn
  clear hT hG hokB hN hR hbV hrow hsz hok hb ha hbb HM hma hmb hRG han hbn
  obtain ⟨X, hX⟩ : ∃ X, natI (metL G a) = X := ⟨_, rfl⟩
  obtain ⟨Z, hZ⟩ : ∃ Z, natI (metL G b) = Z := ⟨_, rfl⟩
  have HR1 := Lib.hid (fun W hW => HRe.out W a Ha.out hW)
  have HR2 := Lib.hid (fun W hW => HRe.out W b Hbb.out hW)
  rw [hX] at HR1
  rw [hZ] at HR2
  have HX := Lib.hid hX
  have HZ := Lib.hid hZ
  clear hX hZ HRe
  go_enter Tryd.func4, Tryd.ntmps4
  go_wp2_with (first
    | (go_at_call 16; refine HA.out.mono ?_; rintro e w1 ⟨rfl, hb1⟩; obtain ⟨x0, x1, x2⟩ := HC.out w1 hb1; have Hb1 := Lib.hid hb1; have X2 := Lib.hid x2; clear hb1 x2)
    | (go_at_call 17; refine (HBg.out w1 X2.out).mono ?_; rintro e w2 ⟨rfl, hb2⟩; have Hb2 := Lib.hid (Hb1.out.trans (hb2.mono Hb1.out.size)); obtain ⟨y0, y1, y2⟩ := HC.out w2 Hb2.out; have Y2 := Lib.hid y2; clear hb2 y2)
    | (go_at_call 27; have _ := Hb3; refine (HM2.out w3 Z2.out).mono ?_; rintro e w4 ⟨rfl, hb4⟩; have Hb4 := Lib.hid (Hb3.out.trans (hb4.mono Hb3.out.size)); obtain ⟨t0, t1, t2⟩ := HC.out w4 Hb4.out; have T2 := Lib.hid t2; clear hb4 t2)
    | (go_at_call 27; refine (HM1.out w2 Y2.out).mono ?_; rintro e w3 ⟨rfl, hb3⟩; have Hb3 := Lib.hid (Hb2.out.trans (hb3.mono Hb2.out.size)); obtain ⟨z0, z1, z2⟩ := HC.out w3 Hb3.out; have Z2 := Lib.hid z2; clear hb3 z2)
    | (go_at_call 21; have _ := Hb5; refine (HR2.out w5 S2.out).mono ?_; rintro e w6 ⟨A6, c6, rfl, hI6, hc6, hb6⟩; have HI5b := Lib.hid ((HI5.out.below hb6 (Nat.le_refl _)).more hb6.size); have HI6 := Lib.hid hI6; have Hb6 := Lib.hid (Hb5.out.trans (hb6.mono Hb5.out.size)); obtain ⟨r0, r1, r2⟩ := HC.out w6 Hb6.out; have R2 := Lib.hid r2; clear hI6 hc6 hb6 r2)
    | (go_at_call 21; refine (HR1.out w4 T2.out).mono ?_; rintro e w5 ⟨A5, c5, rfl, hI5, hc5, hb5⟩; have HI5 := Lib.hid hI5; have Hc5 := Lib.hid hc5; have Hb5 := Lib.hid (Hb4.out.trans (hb5.mono Hb4.out.size)); obtain ⟨s0, s1, s2⟩ := HC.out w5 Hb5.out; have S2 := Lib.hid s2; clear hI5 hc5 hb5 s2)
    | (go_at_call 28; refine (has_any A5 c5 X b w6 (by rw [← HX.out]; simp [natI]; have := nodup_short _ _ Hma.out.nodup Hma.out.lt; have := HRG.out.nodes; omega) HI5b.out).mono ?_; rintro e w7 ⟨rfl, rfl⟩))
  have HXs : Hid (X.length ≤ 20000 ∧ 0 < X.length ∧ nth X 0 = a ∧ (∀ k, k < X.length → ∃ n : Nat, nth X k = n ∧ n ∈ metL G a ∧ n < G.nodes.length) ∧ (∀ n : Nat, (X.any fun x => x == (n : Int)) = decide (n ∈ metL G a)) ∧ Z.length ≤ 20000 ∧ (∀ k, k < Z.length → ∃ n : Nat, nth Z k = n ∧ n ∈ metL G b)) := by
    have h1 := nodup_short _ _ Hma.out.nodup Hma.out.lt
    have h2 := nodup_short _ _ Hmb.out.nodup Hmb.out.lt
    have h3 := HRG.out.nodes
    rw [← HX.out, ← HZ.out]
    obtain ⟨tl, htl⟩ := Hma.out.head
    refine ⟨by simp [natI]; omega, by simp [natI]; rw [← htl]; simp, by rw [← htl]; rfl, fun k hk => ?_, fun n => natI_has _ n, by simp [natI]; omega, fun k hk => ?_⟩
    · have hk' : k < (metL G a).length := by simpa [natI] using hk
      exact ⟨_, nth_natI hk', List.getElem_mem hk', Hma.out.lt _ (List.getElem_mem hk')⟩
    · have hk' : k < (metL G b).length := by simpa [natI] using hk
      exact ⟨_, nth_natI hk', List.getElem_mem hk'⟩
  rw [HXs.out.2.2.2.2.1 b]
  have HHas : Hid (∀ n : Nat, Calls Tryd.prog 28 #[.slice A5 X.length c5, .int .i64 (n : Int)] w6 fun e w' => e = .returned (.bool (decide (n ∈ metL G a))) ∧ w6 = w') := fun n => by
    have := has_any A5 c5 X n w6 (by have := HXs.out.1; omega) HI5b.out
    rwa [HXs.out.2.2.2.2.1 n] at this
  obtain ⟨th, hth⟩ : ∃ x, decide (b ∈ metL G a) = x := ⟨_, rfl⟩
  rw [hth]
  have HTh := Lib.hid hth
  clear hth
  go_loop [12] (fun i => ∃ k : Nat, k ≤ Z.length ∧ i = .int .i64 (k : Int)) (fun i => Z.length - (intOf i).toNat)
  case atStart => exact ⟨0, Nat.zero_le _, rfl⟩
  case round =>
    obtain ⟨k, hk, rfl⟩ := hrel
    by_cases hgo : k < Z.length ∧ th = true
    · obtain ⟨hkz, rfl⟩ := hgo
      have hkz' : (k : Int) < (Z.length : Int) := by omega
      obtain ⟨bz, oz, rfl, _, hcz⟩ := HI6.out (by omega)
      have hcj := hcz k hkz
      obtain ⟨n, hn, hnm⟩ := HXs.out.2.2.2.2.2.2 k hkz
      have hH := HHas.out n
      rw [decide_eq_true (metL_sub HRG.out Hhan.out (of_decide_eq_true HTh.out) n hnm)] at hH
      have HH := Lib.hid hH
      rw [hn] at hcj
      have Hkz := Lib.hid hkz
      have hmz : ∀ z : Int, z = k + 1 → Z.length - (intOf (.int .i64 z)).toNat < Z.length - (intOf (.int .i64 (k : Int))).toNat := by intro z hz; subst hz; have := Hkz.out; simp only [intOf]; omega
      have HW : Hid (wrap64 ((k : Int) + 1) = k + 1) := IntWalk.wrap64_in _ (by have := Hkz.out; have := HXs.out.2.2.2.2.2.1; omega)
      clear hcz hn hH hkz hk hnm
      go_wp2_with (go_at_call 28; refine HH.out.mono ?_; rintro e w7 ⟨rfl, rfl⟩)
      first
        | exact ⟨⟨k + 1, Hkz.out, by simp⟩, hmz _ rfl⟩
        | exact ⟨⟨k + 1, Hkz.out, congrArg (Value.int .i64) (HW.out.trans (by simp))⟩, hmz _ HW.out⟩
    · have hend : (¬ (k : Int) < (Z.length : Int)) ∨ ((k : Int) < (Z.length : Int) ∧ th = false) := by
        by_cases h1 : k < Z.length
        · exact .inr ⟨by omega, by cases th; rfl; exact absurd ⟨h1, rfl⟩ hgo⟩
        · exact .inl (by omega)
      have hx0 := HXs.out.2.2.1
      obtain ⟨bx, ox, rfl, _, hcx⟩ := HI5b.out HXs.out.2.1
      have hc0 : w6.cell? ⟨bx, ox, none⟩ = some (.int .i64 (a : Int)) := by
        have := hcx 0 HXs.out.2.1
        rwa [hx0, Nat.add_zero] at this
      have hxl : ((X.length : Int) == 0) = false := beq_eq_false_iff_ne.2 (by have := HXs.out.2.1; omega)
      have hxl2 : (0 : Int) < (X.length : Int) := by have := HXs.out.2.1; omega
      clear hgo hk hx0 hcx
      have HTake : Hid (∀ (m : Nat) (n : Nat) W, m < X.length → nth X m = n → Below w6.heap.size w6 W → Calls Tryd.prog 28 #[.slice (some ⟨bx, ox, none⟩) m c5, .int .i64 (n : Int)] W fun e w' => e = .returned (.bool false) ∧ W = w') := fun m n W hm hn hW => by
        have hI : IntsAt W W.heap.size (some ⟨bx, ox, none⟩) (X.take m) := fun hz => by
          obtain ⟨b', o', hb', hlt', hc'⟩ := ((HI5b.out.below hW (Nat.le_refl _)).more hW.size) HXs.out.2.1
          refine ⟨b', o', hb', hlt', fun j hj => ?_⟩
          simp only [List.length_take] at hj
          rw [hc' j (by omega)]
          simp [nth, show j < m by omega, show j < X.length by omega]
        have hl : (X.take m).length = m := by rw [List.length_take]; omega
        have h := has_any (some ⟨bx, ox, none⟩) c5 (X.take m) n W (by have := HXs.out.1; omega) hI
        rw [hl] at h
        have hany : ((X.take m).any fun x => x == (n : Int)) = false := by
          have h2 : X.take m = natI ((metL G a).take m) := by rw [← HX.out]; simp [natI]
          rw [h2, natI_has]
          refine decide_eq_false fun hin => ?_
          have hml : m < (metL G a).length := by have := hm; rw [← HX.out] at this; simpa [natI] using this
          have hnm : (metL G a)[m] = n := by
            have := hn
            rw [← HX.out, nth_natI hml] at this
            omega
          obtain ⟨j, hj, he⟩ := List.mem_iff_getElem.1 hin
          rw [List.length_take] at hj
          rw [List.getElem_take] at he
          have := (List.getElem_inj (h₀ := by omega) (h₁ := hml) Hma.out.nodup).1 (he.trans hnm.symm)
          omega
        rwa [hany] at h
      have HF6 : Hid (∀ W, Below w6.heap.size w6 W → W.cell? ⟨w.heap.size, 0, none⟩ = some (.slice NA G.nodes.length nc) ∧ W.cell? ⟨w.heap.size, 1, none⟩ = some (.slice RA G.roots.length rc) ∧ Below w.heap.size w W) := fun W hW => HC.out W (Hb6.out.trans (hW.mono Hb6.out.size))
      have HXc : Hid (∀ W m, Below w6.heap.size w6 W → m < X.length → W.cell? ⟨bx, ox + m, none⟩ = some (.int .i64 (nth X m))) := fun W m hW hm => by
        obtain ⟨b', o', hb', hlt', hc'⟩ := ((HI5b.out.below hW (Nat.le_refl _)).more hW.size) HXs.out.2.1
        cases hb'
        exact hc' m hm
      rcases hend with h1 | ⟨h1, rfl⟩
      all_goals
        try have h1d := decide_eq_false h1
        go_wp2_with fail
        clear hxl hxl2 hc0
        go_loopw [13] (fun i wr => ∃ m : Nat, m ≤ X.length ∧ i = .int .i64 (m : Int) ∧ Below w6.heap.size w6 wr) (fun i _ => X.length - (intOf i).toNat)
        case atStart => exact ⟨0, Nat.zero_le _, rfl, Below.refl _ _⟩
        case round =>
          obtain ⟨m, hm, rfl, hbl⟩ := hrel
          by_cases hmx : m < X.length
          · have hmx' : (m : Int) < (X.length : Int) := by omega
            obtain ⟨n, hn, hnm, hnn⟩ := HXs.out.2.2.2.1 m hmx
            have hn0 : ¬ (n : Int) < 0 := by omega
            have hn1 : ¬ (G.nodes.length : Int) ≤ (n : Int) := by omega
            have hn0d := decide_eq_false hn0
            have hn1d := decide_eq_false hn1
            have hn1N : ¬ G.nodes.length ≤ n := by omega
            have hn1n : decide (G.nodes.length ≤ n) = false := decide_eq_false hn1N
            have HTk : Hid (∀ W, Below w6.heap.size w6 W → Calls Tryd.prog 28 #[.slice (some ⟨bx, ox, none⟩) m c5, .int .i64 (n : Int)] W fun e w' => e = .returned (.bool false) ∧ W = w') := fun W hW => HTake.out m n W hmx hn hW
            have hmc : m ≤ c5 := by have := Hc5.out; omega
            have hbd : Below w6.heap.size w6 wr.drew := hbl.drew
            have hbd2 : Below w6.heap.size w6 wr.drew.drew := hbd.drew
            obtain ⟨kl, hkl⟩ : ∃ l, (nd G.nodes n).kids = l := ⟨_, rfl⟩
            obtain ⟨bn, on, hNA, hlt, hcn⟩ := HN.out (by omega)
            obtain ⟨K, kc, hnd⟩ := hcn n hnn
            subst hNA
            have HK : Hid (∀ W, Below w6.heap.size w6 W → W.cell? ⟨bn, on + n * 5 + 3, none⟩ = some (.slice K kl.length kc) ∧ IntsAt W W.heap.size K kl) := fun W hW => by
              have h := (hnd.below (HF6.out W hW).2.2 (Nat.le_refl _) hlt)
              have hc := h.c3
              have hk := h.kids
              rw [hkl] at hc hk
              exact ⟨hc, hk.more (HF6.out W hW).2.2.size⟩
            have HKl : Hid (∀ q, q < kl.length → ∃ n2 : Nat, nth kl q = n2 ∧ n2 ∈ metL G a) := fun q hq => by
              have h0 : 0 ≤ nth kl q := (HRG.out.kids n hnn (nth kl q) (by rw [hkl]; exact nth_mem hq)).1
              refine ⟨(nth kl q).toNat, by omega, Hma.out.kids n hnm _ ?_⟩
              rw [kidN, hkl]
              exact List.mem_map.2 ⟨_, nth_mem hq, rfl⟩
            have HKs : Hid (kl.length ≤ 20000) := by
              have h1 := restK_all (kids := kidN G) [n] [] (by simp) (by simpa using hnn)
              rw [restK_sum G _ (Nat.le_refl _), List.take_length] at h1
              have := HRG.out.sum
              simp [kidN, hkl] at h1
              show _ ≤ _; omega
            clear hcn hnd hkl
            have s0 := (HF6.out wr.drew hbd).1
            have s1 := HXc.out wr.drew m hbd hmx
            rw [hn] at s1
            have Hmx := Lib.hid hmx
            have Hnm := Lib.hid hnm
            have Hnn := Lib.hid hnn
            have Hnx := Lib.hid hn
            clear hn hnm hmx hm
            go_wp2_with fail
            go_region_held3 (fun W' => Below w6.heap.size w6 W' ∧ W'.cell? ⟨w.heap.size, 0, none⟩ = some (.slice (some ⟨bn, on, none⟩) G.nodes.length nc) ∧ W'.cell? ⟨bx, ox + m, none⟩ = some (.int .i64 (n : Int))) (exact ⟨by assumption, by assumption, by assumption⟩) (first | (go_at_call 28; refine (HTk.out _ (by assumption)).mono ?_; rintro e W1 ⟨rfl, rfl⟩))
            have q0 := (HF6.out wr.drew.drew hbd2).1
            have q1 := HXc.out wr.drew.drew m hbd2 Hmx.out
            rw [Hnx.out] at q1
            have q2 := (HK.out wr.drew.drew hbd2).1
            clear s0 s1
            go_wp2_with fail
            go_region_held3 (fun W' => Below w6.heap.size w6 W' ∧ W'.cell? ⟨w.heap.size, 0, none⟩ = some (.slice (some ⟨bn, on, none⟩) G.nodes.length nc) ∧ W'.cell? ⟨bx, ox + m, none⟩ = some (.int .i64 (n : Int)) ∧ W'.cell? ⟨bn, on + n * 5 + 3, none⟩ = some (.slice K kl.length kc)) (exact ⟨by assumption, by assumption, by assumption, by assumption⟩) (first | fail)
            go_wp2_with fail
            have Hbd2 := Lib.hid hbd2
            clear q0 q1 q2 hbd hbd2 hbl hn0 hn1 hn0d hn1d hn1N hn1n hmx' hmc hlt
            go_loopw [15] (fun jv W2 => ∃ q : Nat, q ≤ kl.length ∧ jv = .int .i64 (q : Int) ∧ Below w6.heap.size w6 W2) (fun jv _ => kl.length - (intOf jv).toNat)
            case atStart => exact ⟨0, Nat.zero_le _, rfl, Hbd2.out⟩
            case round =>
              obtain ⟨q, hq, rfl, hb2⟩ := hrel
              by_cases hqk : q < kl.length
              · have hqk' : (q : Int) < (kl.length : Int) := by omega
                obtain ⟨n2, hn2, hn2m⟩ := HKl.out q hqk
                obtain ⟨bk, ok, rfl, _, hck⟩ := (HK.out wr hb2).2 (by omega)
                have hcq := hck q hqk
                rw [hn2] at hcq
                have HH2 : Hid (Calls Tryd.prog 28 #[.slice (some ⟨bx, ox, none⟩) X.length c5, .int .i64 (n2 : Int)] wr fun e w' => e = .returned (.bool true) ∧ wr = w') := by
                  have h := has_any (some ⟨bx, ox, none⟩) c5 X n2 wr (by have := HXs.out.1; omega) ((HI5b.out.below hb2 (Nat.le_refl _)).more hb2.size)
                  rw [HXs.out.2.2.2.2.1 n2, decide_eq_true hn2m] at h
                  exact h
                have Hqk := Lib.hid hqk
                have Hb2 := Lib.hid hb2
                have hmz : ∀ z : Int, z = q + 1 → kl.length - (intOf (.int .i64 z)).toNat < kl.length - (intOf (.int .i64 (q : Int))).toNat := by intro z hz; subst hz; have := Hqk.out; simp only [intOf]; omega
                have HW : Hid (wrap64 ((q : Int) + 1) = q + 1) := IntWalk.wrap64_in _ (by have := Hqk.out; have := HKs.out; omega)
                clear hck hn2 hn2m hqk hq hb2
                go_wp2_with (first | (go_at_call 28; refine HH2.out.mono ?_; rintro e w7 ⟨rfl, rfl⟩))
                first
                  | exact ⟨⟨q + 1, Hqk.out, by simp, Hb2.out⟩, hmz _ rfl⟩
                  | exact ⟨⟨q + 1, Hqk.out, congrArg (Value.int .i64) (HW.out.trans (by simp)), Hb2.out⟩, hmz _ HW.out⟩
              · have hqk' : ¬ (q : Int) < (kl.length : Int) := by omega
                have Hb2 := Lib.hid hb2
                have hmz : ∀ z : Int, z = m + 1 → X.length - (intOf (.int .i64 z)).toNat < X.length - (intOf (.int .i64 (m : Int))).toNat := by intro z hz; subst hz; have := Hmx.out; simp only [intOf]; omega
                have HW : Hid (wrap64 ((m : Int) + 1) = m + 1) := IntWalk.wrap64_in _ (by have := Hmx.out; have := HXs.out.1; omega)
                clear hqk hq hb2
                go_wp2_with fail
                first
                  | exact ⟨⟨m + 1, Hmx.out, by simp, Hb2.out⟩, hmz _ rfl⟩
                  | exact ⟨⟨m + 1, Hmx.out, congrArg (Value.int .i64) (HW.out.trans (by simp)), Hb2.out⟩, hmz _ HW.out⟩
          · have hmx' : ¬ (m : Int) < (X.length : Int) := by omega
            have Hbl := Lib.hid hbl
            clear hmx hm hbl
            obtain ⟨g0, g1, g2⟩ := HF6.out wr Hbl.out
            have G2 := Lib.hid g2
            clear g2
            have HCb := Lib.hid (fun W hW => HCy.out W b Hbb.out hW)
            have HCa := Lib.hid (fun W hW => HCy.out W a Ha.out hW)
            have HCC : Hid (∀ W, Below wr.heap.size wr W → W.cell? ⟨w.heap.size, 0, none⟩ = some (.slice NA G.nodes.length nc) ∧ W.cell? ⟨w.heap.size, 1, none⟩ = some (.slice RA G.roots.length rc) ∧ Below w.heap.size w W) := fun W hW => HF6.out W (Hbl.out.trans (hW.mono Hbl.out.size))
            have HUp : Hid (decide (b ∈ metL G a) = true → cycL G b = true → cycL G a = true) := fun h1 h2 => cyc_up HRG.out Hhan.out (of_decide_eq_true h1) h2
            clear HCy
            first
              | (go_wp2_with fail
                 go_ret
                 exact ⟨rfl, G2.out⟩)
              | (cases th with
                 | false =>
                   go_wp2_with fail
                   go_ret
                   exact ⟨rfl, G2.out⟩
                 | true =>
                   have HUp2 := Lib.hid (HUp.out HTh.out)
                   obtain ⟨cb, hcb⟩ : ∃ x, cycL G b = x := ⟨_, rfl⟩
                   rw [hcb] at HCb HUp2
                   cases cb with
                   | false =>
                     go_wp2_with (first | (go_at_call 23; refine (HCb.out wr G2.out).mono ?_; rintro e w8 ⟨rfl, hb8⟩; have H8 := Lib.hid (G2.out.trans (hb8.mono G2.out.size)); clear hb8))
                     go_ret
                     exact ⟨by first | rfl | simp, H8.out⟩
                   | true =>
                     have hca := HUp2.out rfl
                     rw [hca] at HCa
                     clear hca
                     go_wp2_with (first
                       | (go_at_call 23; have _ := H8; refine (HCa.out w8 H8.out).mono ?_; rintro e w9 ⟨rfl, hb9⟩; have H9 := Lib.hid (H8.out.trans (hb9.mono H8.out.size)); clear hb9)
                       | (go_at_call 23; refine (HCb.out wr G2.out).mono ?_; rintro e w8 ⟨rfl, hb8⟩; obtain ⟨p0, p1, p2⟩ := HCC.out w8 hb8; have H8 := Lib.hid p2; clear hb8 p2))
                     go_ret
                     exact ⟨by first | rfl | simp, H9.out⟩)
theorem graphReach_walk (w : World) (hT : Tabs w) (G : Gr) (v : Value) (hG : GrAt w w.heap.size G v) (hok : G.ok) (hokB : G.okB) (a b : Int) :
    Calls Tryd.prog 4 #[v, .int .i64 a, .int .i64 b] w fun e w' => e = .returned (.bool true) ∧ Below w.heap.size w w' := by
  cases hbg : bigB G with
  | true => exact graphReach_out w hT G v hG hokB a b (.inl hbg)
  | false =>
    cases ha : isB G a with
    | false => exact graphReach_out w hT G v hG hokB a b (.inr (.inl ⟨hbg, ha⟩))
    | true =>
      cases hb : isB G b with
      | false => exact graphReach_out w hT G v hG hokB a b (.inr (.inr ⟨hbg, ha, hb⟩))
      | true =>
        have h1 : 0 ≤ a := by simp [isB] at ha; omega
        have h2 : 0 ≤ b := by simp [isB] at hb; omega
        obtain ⟨na, rfl⟩ : ∃ n : Nat, a = n := ⟨a.toNat, by omega⟩
        obtain ⟨nb, rfl⟩ : ∃ n : Nat, b = n := ⟨b.toNat, by omega⟩
        exact graphReach_in w hT G v hG hok hokB na nb hbg ha hb
end Go.Proofs.YtdcbngimgpdjoaaDoor
