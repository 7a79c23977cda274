/- The reference's Compose. Condition: a row of at most 1500000 events. -/
import Derived.Test.YtiblamapjekdeaaGreatFl
import Derived.Deep.CutBlock
namespace Go.Proofs.YtiblamapjekdeaaGreat
open Go.RowKit
attribute [local go_sem] Oper.semAt_some
/-- What stands where the ways of an event meet. -/
structure MidP (D M : Nat) (s s2 : Mk) (x : Ev) (i : Nat) : Prop where
  way : s2.way = s.way
  ok : s2.Ok
  sz : s2.Sz 1800000
  lt : i ≤ 1800000
  step : mkStep D M s x = .ok (if x.kind = 3 ∨ x.kind = 5 then { place i s2 with way := s2.way ++ [i] } else place i s2)
theorem mkStep_1 {d n : Nat} {s : Mk} {x : Ev} (e : x.kind = 1) : mkStep d n s x = .ok { s with names := [] } := by unfold mkStep; rw [if_pos e]
theorem mkStep_2 {d n : Nat} {s : Mk} {x : Ev} (e : x.kind = 2) : mkStep d n s x = .ok s := by unfold mkStep; rw [if_neg (by omega), if_neg (by omega), if_neg (by omega), if_neg (by omega), if_neg (by omega)]
theorem mkStep_46 {d n : Nat} {s : Mk} {x : Ev} (e : x.kind = 4 ∨ x.kind = 6) : mkStep d n s x = .ok { s with way := s.way.dropLast } := by unfold mkStep; rw [if_neg (by omega), if_neg (by omega), if_pos e]
theorem mkStep_8 {d n : Nat} {s : Mk} {x : Ev} (e : x.kind = 8) : mkStep d n s x = match look s.names x.anchor with | none => .error 10 | some i => .ok (place i s) := by unfold mkStep; rw [if_neg (by omega), if_neg (by omega), if_neg (by omega), if_neg (by omega), if_pos e]; rfl
theorem mkStep_35 {d n : Nat} {s : Mk} {x : Ev} (e : x.kind = 3 ∨ x.kind = 5) : mkStep d n s x = if d ≤ s.way.length then .error 8 else if n ≤ s.nodes.length then .error 9 else .ok { newNode (nodeK x) x.anchor s with way := s.way ++ [s.nodes.length] } := by unfold mkStep; rw [if_neg (by omega), if_pos e]
theorem mkStep_7 {d n : Nat} {s : Mk} {x : Ev} (e : x.kind = 7) : mkStep d n s x = if n ≤ s.nodes.length then .error 9 else .ok (newNode (nodeK x) x.anchor s) := by unfold mkStep; rw [if_neg (by omega), if_neg (by omega), if_neg (by omega), if_pos e]
theorem MidP.fresh {D M k : Nat} {s : Mk} {x : Ev} {e : Nd} (ok : s.Ok) (sz : s.Sz k) (hk : k ≤ 1700000) (he : e.kids = []) (hz : x.anchor.size = 0) (hst : mkStep D M s x = .ok (if x.kind = 3 ∨ x.kind = 5 then { newNode e x.anchor s with way := s.way ++ [s.nodes.length] } else newNode e x.anchor s)) :
    MidP D M s { s with nodes := s.nodes ++ [e] } x s.nodes.length := by
  refine ⟨rfl, ok.more e, (sz.more e he).mono (by omega), by have := sz.nodes; omega, ?_⟩
  rw [hst]
  unfold newNode
  simp only [if_pos hz]
theorem place_name (i : Nat) (s : Mk) (l : List (ByteArray × Nat)) : place i { s with names := l } = { place i s with names := l } := by
  unfold place
  simp only
  split <;> rfl
theorem MidP.freshN {D M k : Nat} {s : Mk} {x : Ev} {e : Nd} (ok : s.Ok) (sz : s.Sz k) (hk : k ≤ 1700000) (he : e.kids = []) (hz : ¬ x.anchor.size = 0) (hst : mkStep D M s x = .ok (if x.kind = 3 ∨ x.kind = 5 then { newNode e x.anchor s with way := s.way ++ [s.nodes.length] } else newNode e x.anchor s)) :
    MidP D M s { s with nodes := s.nodes ++ [e], names := s.names ++ [(x.anchor, s.nodes.length)] } x s.nodes.length := by
  have ok2 := ok.more e
  refine ⟨rfl, ⟨ok2.way, fun p hp => ?_⟩, ((sz.more e he).named (x.anchor, s.nodes.length)).mono (by omega), by have := sz.nodes; omega, ?_⟩
  · rcases List.mem_append.1 hp with hp | hp
    · exact ok2.names p hp
    · simp at hp; subst hp; show s.nodes.length < (s.nodes ++ [e]).length; simp
  · rw [hst, place_name s.nodes.length { s with nodes := s.nodes ++ [e] }]
    unfold newNode
    simp only [if_neg hz, place_names]
theorem look_take {l : List (ByteArray × Nat)} {m : Nat} (h : m < l.length) (a : ByteArray) : look (l.take (m + 1)) a = if l[m].1 = a then some l[m].2 else look (l.take m) a := by
  rw [List.take_succ_eq_append_getElem h, look_snoc]
theorem toList_neF {s s' : ByteArray} (h : s ≠ s') : (s.toList == s'.toList) = false := beq_eq_false_iff_ne.2 fun e => h (by
  rw [Lib.toList_data, Lib.toList_data] at e
  cases s; cases s'
  congr
  exact Array.toList_inj.1 e)
theorem nodeK_tag (x : Ev) : (nodeK x).tag = x.tag := rfl
theorem right_bare {x : Ev} (h : rightB x = true) (hk : x.kind = 3 ∨ x.kind = 5) : x.text.size = 0 ∧ x.style = 0 := by
  have h1 : emp x.text = true ∧ x.style = 0 := by
    unfold rightB at h
    rcases hk with hk | hk <;> simp [hk] at h <;> exact ⟨h.1, h.2⟩
  refine ⟨?_, h1.2⟩
  have := h1.1
  unfold emp at this
  rw [empty_strF] at this
  simpa using this
theorem bytes_empty {s : ByteArray} (h : s.size = 0) : s = ⟨#[]⟩ := by
  cases s with
  | mk a => congr; exact Array.eq_empty_of_size_eq_zero h
/-- What the node of a right event has. -/
theorem nodeK_right {x : Ev} (h : rightB x = true) (hk : x.kind = 3 ∨ x.kind = 5 ∨ x.kind = 7) : (nodeK x).text = x.text ∧ (nodeK x).plain = (x.style == 1) := by
  by_cases k7 : x.kind = 7
  · simp [nodeK, k7]
  · obtain ⟨h1, h2⟩ := right_bare h (by omega)
    refine ⟨?_, ?_⟩
    · show (if x.kind = 7 then x.text else ⟨#[]⟩) = x.text
      rw [if_neg k7, bytes_empty h1]
    · show (x.kind == 7 && x.style == 1) = (x.style == 1)
      rw [h2]; simp
set_option maxRecDepth 100000 in
set_option maxHeartbeats 2000000 in
theorem Compose_any (A : Option Addr) (c : Nat) (L : List Ev) (d n : Int) (w : World) (hl : L.length ≤ 1500000) (hcap : L.length ≤ c) (hE : EvsAt w w.heap.size A L) (hok : ∀ x ∈ L, Ev.ok x) :
    Calls Tryz.prog 9 #[.slice A L.length c, .int .i64 d, .int .i64 n] w (DidM w (mkG L (min d 200).toNat (min n 20000).toNat)) := by
  obtain ⟨V, hV, hbV, hrV, hsV⟩ := box2 w (.slice none 0 0) (.slice none 0 0) 28
  have hEV := hE.below hbV (Nat.le_refl _)
  have HR : Hid (Calls Tryz.prog 20 #[.slice A L.length c] V fun e w' => e = .returned (.bool (rightsB L)) ∧ Below V.heap.size V w') := RRight_any A c L V (by omega) hcap (hEV.more hbV.size)
  have HB : Hid (∀ W, Below V.heap.size V W → W.heap[w.heap.size]? = some (.cells #[.slice none 0 0, .slice none 0 0] 28 (0, 0)) ∧ Below w.heap.size w W) := fun W hW => ⟨(hW.block _ (by omega)).trans hrV, below_then hbV hW⟩
  obtain ⟨dm, hdm⟩ : ∃ dm, (min d 200).toNat = dm := ⟨_, rfl⟩
  obtain ⟨nm, hnm⟩ : ∃ nm, (min n 20000).toNat = nm := ⟨_, rfl⟩
  have HC1 : Hid (∀ w, Calls Tryz.prog 21 #[.int .i64 d, .int .i64 200] w fun e w' => e = .returned (.int .i64 (dm : Int)) ∧ w = w') := fun w => by rw [← hdm]; exact cut_any d 200 w (by decide)
  have HC2 : Hid (∀ w, Calls Tryz.prog 21 #[.int .i64 n, .int .i64 20000] w fun e w' => e = .returned (.int .i64 (nm : Int)) ∧ w = w') := fun w => by rw [← hnm]; exact cut_any n 20000 w (by decide)
  have hdm2 : dm ≤ 200 := by omega
  have hnm2 : nm ≤ 20000 := by omega
  rw [hdm, hnm]
  cases hr : rightsB L with
  | false =>
    rw [hr] at HR
    have hG : mkG L dm nm = (⟨[], []⟩, 1) := by rw [mkG, hr]; rfl
    have HG := Lib.hid hG
    clear hbV hrV hE hEV hr hG hdm hnm hok HC1 HC2
    go_enter Tryz.func9, Tryz.ntmps9
    go_wp2_with (first
      | (go_at_call 20; refine HR.out.mono ?_; rintro e w1 ⟨rfl, hb1⟩; obtain ⟨hr1, hbw1⟩ := HB.out w1 hb1; have a0 := Lib.cell_of_heap hr1 0; have a1 := Lib.cell_of_heap hr1 1; have g0 := Go.Joins.unfrozen_of_block hr1 0; have g1 := Go.Joins.unfrozen_of_block hr1 1; have H1 := Lib.hid (And.intro hr1 hbw1); clear hb1 hr1 hbw1))
    obtain ⟨hr1, hbw1⟩ := H1.out
    obtain ⟨Z, hZ⟩ : ∃ Z, (w1.setCell ⟨w.heap.size, 0, none⟩ (.slice none 0 0)).setCell ⟨w.heap.size, 1, none⟩ (.slice none 0 0) = Z := ⟨_, rfl⟩
    have hz : Z.heap[w.heap.size]? = some (.cells #[.slice none 0 0, .slice none 0 0] 28 (0, 0)) := by rw [← hZ]; exact Go.Joins.block_setCell (i := 1) (Go.Joins.block_setCell (i := 0) hr1 _) _
    have hbz : Below w.heap.size w Z := by rw [← hZ]; exact (hbw1.setCell (p := ⟨w.heap.size, 0, none⟩) (Nat.le_refl _) _).setCell (p := ⟨w.heap.size, 1, none⟩) (Nat.le_refl _) _
    rw [hZ]
    refine bodyPost_ret (results_row_tmpF rfl _ _ w.heap.size _ _ (0, 0) _ rfl hz Tryz.underlying28 rfl (by kernel_rfl)) rfl ?_
    rw [HG.out]
    exact ⟨_, rfl, grAt_nil _ _, hbz⟩
  | true =>
    rw [hr] at HR
    have Hr := Lib.hid hr
    clear hbV hrV hr hdm hnm hEV
    go_enter Tryz.func9, Tryz.ntmps9
    go_wp2_with (first
      | (go_at_call 20; refine HR.out.mono ?_; rintro e w1 ⟨rfl, hb1⟩; have H1 := Lib.hid (HB.out w1 hb1); clear hb1)
      | (go_at_call 21; (with_reducible refine (HC1.out w1).mono ?_); rintro e w2 ⟨rfl, rfl⟩)
      | (go_at_call 21; (with_reducible refine (HC2.out w1).mono ?_); rintro e w2 ⟨rfl, rfl⟩))
    obtain ⟨U, hU, hbU, hrU, hsU⟩ := box2 w1 (.slice none 0 0) (.slice none 0 0) 28
    obtain ⟨gb, hgb⟩ : ∃ gb, w1.heap.size = gb := ⟨_, rfl⟩
    rw [hU]
    rw [hgb] at hrU hsU ⊢
    have HU := Lib.hid (And.intro hbU (And.intro hrU hsU))
    have HE := Lib.hid hE
    have HOk := Lib.hid hok
    have Hgb : Hid (w1.heap.size = gb) := hgb
    clear hbU hU hE hok HB hrU hsU hgb
    go_loopg [9, 10, 11] (L.length) (fun g o nn i wr => ∃ k, k ≤ L.length ∧ g = L.length - k ∧ i = .int .i64 (k : Int) ∧ ∃ s R, o = ORow.v (R 2) ∧ nn = ORow.v (R 3) ∧ Hid (mkAll dm nm mk0 (L.take k) = .ok s) ∧ Hid (RfAt U wr gb s R))
    case atStart =>
      exact ⟨0, Nat.zero_le _, rfl, rfl, mk0, R0f, rfl, rfl, rfl, RfAt.new HU.out.2.1⟩
    case round =>
      obtain ⟨k, hk, hg, rfl, s, R, ho, hn, HM, HRf⟩ := hrel
      have hgw : w.heap.size < gb := by
        have h1 := H1.out.1
        have := Hgb.out
        have := (Array.getElem?_eq_some_iff.1 h1).1
        omega
      have HWr : Hid (∀ W, Below gb U W → Below w.heap.size w W ∧ W.heap[w.heap.size]? = some (.cells #[.slice none 0 0, .slice none 0 0] 28 (0, 0))) := fun W hW => by
        have hbg : Below gb w1 U := by have := HU.out.1; rw [Hgb.out] at this; exact this
        have hb := hbg.trans hW
        exact ⟨H1.out.2.trans (hb.mono (Nat.le_of_lt hgw)), (hb.block _ hgw).trans H1.out.1⟩
      by_cases hlt : k < L.length
      · have hlt' : (k : Int) < (L.length : Int) := by omega
        obtain ⟨b, off, rfl, hbw, hc⟩ := HE.out (by omega)
        have hx := (hc k hlt).below (HWr.out wr HRf.out.bel).1 hbw
        have hxo := HOk.out _ (evs_mem hlt)
        have hcl := fun h => levN_pos Hr.out hlt h
        have hrb : rightB (evs L k) = true := by
          have := Hr.out
          simp only [rightsB, Bool.and_eq_true, List.all_eq_true] at this
          exact this.1 _ (evs_mem hlt)
        obtain ⟨w1', w2'⟩ := mkAll_way Hr.out k s hk HM.out
        obtain ⟨ok, sz⟩ := mkAll_good k s hk HM.out
        have htk := mkAll_take (d := dm) (n := nm) hlt
        rw [HM.out] at htk
        have HTk : Hid (mkAll dm nm mk0 (L.take (k + 1)) = mkStep dm nm s (evs L k)) := htk
        obtain ⟨x, hxe⟩ : ∃ x, evs L k = x := ⟨_, rfl⟩
        rw [hxe] at hx hxo hcl HTk hrb
        obtain ⟨c0, c1, c2, c3, c4, c5⟩ := hx
        have hway : (x.kind = 4 ∨ x.kind = 6) → s.way ≠ [] := fun k46 e => by
          have h1 := hcl (by simpa [Ev.closes] using k46)
          rw [← w1', e] at h1
          exact absurd h1 (by decide)
        obtain ⟨X, hX, hbX, hrX, hsX⟩ := boxV wr x
        obtain ⟨xb, hxb⟩ : ∃ xb, wr.heap.size = xb := ⟨_, rfl⟩
        have HS0 : RSt U X gb xb x s R := ⟨HRf.out.below hbX, by rw [← hxb]; exact hrX, by rw [← hxb]; exact HRf.out.made.fam.fresh (Nat.le_refl _), by have := HRf.out.lt; omega⟩
        have hRc := HS0.cells
        have hg0 := HRf.out.g0
        obtain ⟨NA, nc, hnv, _⟩ := HRf.out.made.nodesForm
        obtain ⟨WA, wcp, hwv, _⟩ := HRf.out.made.wayForm
        obtain ⟨TA, tc, htv, _⟩ : ∃ TA tc, (R 3).v = .slice TA s.names.length tc ∧ s.names.length ≤ tc := HRf.out.made.fam.formA 3 (by rw [HRf.out.nms])
        obtain ⟨y0, y1, yf0, yf1, x0, x1, x2, x3, x4⟩ := hRc
        rw [hnv] at y0
        rw [hwv] at ho
        rw [htv] at hn
        subst ho hn
        have HS := Lib.hid HS0
        have HP := Lib.hid (And.intro ok (And.intro sz (And.intro hway (And.intro hrb (And.intro hxo hk)))))
        have HV := Lib.hid (And.intro hnv (And.intro hwv htv))
        clear hc hxo hcl w1' w2' ok sz htk hxe hbX hrX hsX hk hway hrb HS0 hnv hwv htv hg0
        go_upto_block 2 with fail
        go_cut [9, 10, 13] from 32 to 121 (fun o nn kk wc => ∃ s2 R2 i, o = ORow.v (R2 2) ∧ nn = ORow.v (R2 3) ∧ kk = .int .i64 (i : Nat) ∧ Hid (RSt U wc gb xb x s2 R2) ∧ Hid (MidP dm nm s s2 x i))
        case first =>
          obtain ⟨ok, sz, hway, hrb, hxo, hk⟩ := HP.out
          have hkd := rightB_kind hrb
          by_cases k1 : x.kind = 1
          · rw [k1] at x0 c0 ⊢
            obtain ⟨R', h', q2, q3⟩ := HS.out.doc
            rw [HV.out.2.1] at q2
            have HN : Hid (mkAll dm nm mk0 (L.take (k + 1)) = .ok { s with names := [] }) := HTk.out.trans (mkStep_1 k1)
            have H' := Lib.hid h'.toRfAt
            clear h' ok sz hway hrb hxo hkd k1
            go_wp2_with fail
            go_roundg (L.length - (k + 1))
            case measure => omega
            case rel => exact ⟨k + 1, hlt, rfl, by go_num, _, R', q2.symm, q3.symm, HN.out, H'.out⟩
          by_cases k2 : x.kind = 2
          · rw [k2] at x0 c0 ⊢
            have HN : Hid (mkAll dm nm mk0 (L.take (k + 1)) = .ok s) := HTk.out.trans (mkStep_2 k2)
            have H' := Lib.hid HS.out.toRfAt
            clear ok sz hway hrb hxo hkd k1 k2
            go_wp2_with fail
            go_roundg (L.length - (k + 1))
            case measure => omega
            case rel => exact ⟨k + 1, hlt, rfl, by go_num, _, R, HV.out.2.1.symm, HV.out.2.2.symm, HN.out, H'.out⟩
          by_cases k46 : x.kind = 4 ∨ x.kind = 6
          · obtain ⟨wg, wc, hv2, hl0, hwc, R', h', q2, q3⟩ := HS.out.shut (hway k46)
            rw [HV.out.2.1] at hv2
            cases hv2
            have hsw := sz.way
            have HN : Hid (mkAll dm nm mk0 (L.take (k + 1)) = .ok { s with way := s.way.dropLast }) := HTk.out.trans (mkStep_46 k46)
            have H' := Lib.hid h'.toRfAt
            have HV3 := Lib.hid (q3.trans HV.out.2.2)
            obtain ⟨q, hq⟩ : ∃ q, s.way.length = q := ⟨_, rfl⟩
            rw [hq] at hl0 hwc q2 hsw ⊢
            have e1 : (1 : Int) ≤ (q : Int) := by omega
            have e2 : (0 : Int) ≤ (q : Int) - 1 := by omega
            have e3 : (q : Int) - 1 < (q : Int) := by omega
            have e4 : ((q : Int) - 1).toNat = q - 1 := by omega
            have e5 : (q : Int) - 1 ≤ (wcp : Int) := by omega
            have e6 : wrap64 ((q : Int) - 1) = (q : Int) - 1 := IntWalk.wrap64_in _ (by omega)
            clear h' ok sz hway hrb hxo hkd k1 k2 hq q3 hsw
            rcases k46 with e | e
            · rw [e] at x0 c0 ⊢
              go_wp2_with fail
              go_roundg (L.length - (k + 1))
              case measure => omega
              case rel => exact ⟨k + 1, hlt, rfl, by go_num, _, R', q2.symm, HV3.out.symm, HN.out, H'.out⟩
            · rw [e] at x0 c0 ⊢
              go_wp2_with fail
              go_roundg (L.length - (k + 1))
              case measure => omega
              case rel => exact ⟨k + 1, hlt, rfl, by go_num, _, R', q2.symm, HV3.out.symm, HN.out, H'.out⟩
          by_cases k8 : x.kind = 8
          · rw [k8] at x0 c0 ⊢
            have hsn := sz.names
            have HE8 := Lib.hid (mkStep_8 (d := dm) (n := nm) (s := s) k8)
            have HV8 := HV.out
            have hRn : R 3 = ⟨62, 2, .slice TA s.names.length tc, s.names.length, mcells s.names⟩ := by rw [← HV8.2.2]; exact HS.out.nms
            have Hn : Hid (∀ W, RSt U W gb xb x s R → ∀ j, (hj : j < s.names.length) → ∃ tb, TA = some ⟨tb, 0, none⟩ ∧ W.cell? ⟨tb, j * 2, none⟩ = some (.string s.names[j].1) ∧ W.cell? ⟨tb, j * 2 + 1, none⟩ = some (.int .i64 (s.names[j].2 : Int))) := fun W hW j hj => by
              rcases hW.made.fam.form 3 (n := s.names.length) (by rw [hRn]) with ⟨_, h0⟩ | ⟨tb, cap, hv, _, _, _⟩
              · omega
              · rw [HV8.2.2] at hv
                cases hv
                obtain ⟨q1, q2⟩ := mcells_get s.names j hj
                exact ⟨tb, rfl, (hW.made.fam.cell 3 hRn q1 (by omega)).1, (hW.made.fam.cell 3 hRn q2 (by omega)).1⟩
            have HP8 := Lib.hid (And.intro ok (And.intro sz hk))
            clear ok sz hway hrb hxo hkd k1 k2 k46 hRn HV8 hk
            go_wp2_with fail
            go_loopg [13, 14] (s.names.length) (fun g kk j wr2 => ∃ m, m ≤ s.names.length ∧ g = s.names.length - m ∧ j = .int .i64 (m : Int) ∧ kk = .int .i64 (match look (s.names.take m) x.anchor with | none => -1 | some i => (i : Int)) ∧ Hid (RSt U wr2 gb xb x s R))
            case atStart => exact ⟨0, Nat.zero_le _, rfl, rfl, rfl, HS.out⟩
            case round =>
              obtain ⟨m, hm, hg2, rfl, hkk, HS2⟩ := hrel
              obtain ⟨_, _, _, _, y0, y1, y2, y3, y4⟩ := HS2.out.cells
              by_cases hlt2 : m < s.names.length
              · have hltI : (m : Int) < (s.names.length : Int) := by omega
                have hm2 : (m : Int) ≤ 1700000 := by omega
                obtain ⟨tb, rfl, q1, q2⟩ := Hn.out wr HS2.out m hlt2
                have hlk := look_take hlt2 x.anchor
                have H2 : Hid (∀ q, RSt U (wr.drewN q) gb xb x s R) := fun q => HS2.out.below (below_drewN (Below.refl _ _) q)
                by_cases he : s.names[m].1 = x.anchor
                · have hb2 : (s.names[m].1.toList == x.anchor.toList) = true := by rw [he]; simp
                  rw [if_pos he] at hlk
                  have HL : Hid (Value.int .i64 (s.names[m].2 : Int) = .int .i64 (match look (s.names.take (m + 1)) x.anchor with | none => -1 | some i => (i : Int))) := by show _ = _; rw [hlk]
                  clear hkk hlk he
                  subst_vars
                  go_wp2_with fail
                  go_quiet (fail)
                  go_wp2_with fail
                  go_roundg (s.names.length - (m + 1))
                  case measure => omega
                  case rel => exact ⟨m + 1, hlt2, rfl, by go_num, HL.out, H2.out _⟩
                · have hb2 : (s.names[m].1.toList == x.anchor.toList) = false := toList_neF he
                  rw [if_neg he] at hlk
                  have HL : Hid (Value.int .i64 (match look (s.names.take m) x.anchor with | none => -1 | some i => (i : Int)) = .int .i64 (match look (s.names.take (m + 1)) x.anchor with | none => -1 | some i => (i : Int))) := by show _ = _; rw [hlk]
                  obtain ⟨z, hz⟩ : ∃ z : Int, (match look (s.names.take m) x.anchor with | none => -1 | some i => (i : Int)) = z := ⟨_, rfl⟩
                  rw [hz] at hkk HL
                  subst hkk
                  clear hlk he hz
                  go_wp2_with fail
                  go_quiet (fail)
                  go_wp2_with fail
                  go_roundg (s.names.length - (m + 1))
                  case measure => omega
                  case rel => exact ⟨m + 1, hlt2, rfl, by go_num, HL.out, H2.out _⟩
              · have hltI : ¬ (m : Int) < (s.names.length : Int) := by omega
                rw [List.take_of_length_le (by omega)] at hkk
                obtain ⟨ok, sz, hk⟩ := HP8.out
                cases hlk : look s.names x.anchor with
                | none =>
                  rw [hlk] at hkk
                  subst hkk
                  have HG : Hid (mkG L dm nm = (⟨[], []⟩, 10)) := by
                    show mkG _ _ _ = _
                    rw [mkG, Hr.out, mkAll_stop (HTk.out.trans (by rw [HE8.out, hlk]))]; rfl
                  have HZ := Lib.hid (HWr.out wr HS2.out.bel); have za0 := Lib.cell_of_heap HZ.out.2 0; have za1 := Lib.cell_of_heap HZ.out.2 1; have zg0 := Go.Joins.unfrozen_of_block HZ.out.2 0; have zg1 := Go.Joins.unfrozen_of_block HZ.out.2 1
                  clear ok sz hk hlk
                  go_wp2_with fail
                  obtain ⟨hbw1, hr1⟩ := HZ.out; obtain ⟨Z, hZ⟩ : ∃ Z, (wr.setCell ⟨w.heap.size, 0, none⟩ (.slice none 0 0)).setCell ⟨w.heap.size, 1, none⟩ (.slice none 0 0) = Z := ⟨_, rfl⟩; have hz : Z.heap[w.heap.size]? = some (.cells #[.slice none 0 0, .slice none 0 0] 28 (0, 0)) := (by rw [← hZ]; exact Go.Joins.block_setCell (i := 1) (Go.Joins.block_setCell (i := 0) hr1 _) _); have hbz : Below w.heap.size w Z := (by rw [← hZ]; exact (hbw1.setCell (p := ⟨w.heap.size, 0, none⟩) (Nat.le_refl _) _).setCell (p := ⟨w.heap.size, 1, none⟩) (Nat.le_refl _) _); rw [hZ]; refine bodyPost_ret (results_row_tmpF rfl _ _ w.heap.size _ _ (0, 0) _ rfl hz Tryz.underlying28 rfl (by kernel_rfl)) rfl ?_; rw [HG.out]; exact ⟨_, rfl, grAt_nil _ _, hbz⟩
                | some i =>
                  rw [hlk] at hkk
                  have hkk : u13 = .int .i64 (i : Int) := hkk
                  subst hkk
                  have hi := look_lt ok hlk
                  have hns := sz.nodes
                  have HM2 : Hid (MidP dm nm s s x i) := ⟨rfl, ok, sz.mono (by omega), by omega, by rw [HE8.out, hlk, if_neg (by omega)]⟩
                  have hi0 : ¬ (i : Int) < 0 := by omega
                  clear ok sz hk hlk hi
                  go_wp2_with fail
                  go_meet
                  case rel => exact ⟨s, R, i, HV.out.2.1.symm, HV.out.2.2.symm, rfl, HS2.out, HM2.out⟩
          · have k357 : x.kind = 3 ∨ x.kind = 5 ∨ x.kind = 7 := by omega
            have b1 : (x.kind == 1) = false := beq_eq_false_iff_ne.2 k1
            have b2 : (x.kind == 2) = false := beq_eq_false_iff_ne.2 k2
            have b4 : (x.kind == 4) = false := beq_eq_false_iff_ne.2 fun e => k46 (.inl e)
            have b6 : (x.kind == 6) = false := beq_eq_false_iff_ne.2 fun e => k46 (.inr e)
            have b8 : (x.kind == 8) = false := beq_eq_false_iff_ne.2 k8
            have n4 : ¬ x.kind = 4 := fun e => k46 (.inl e)
            have n6 : ¬ x.kind = 6 := fun e => k46 (.inr e)
            have HK := Lib.hid k357
            have HP3 := Lib.hid (And.intro ok (And.intro sz (And.intro hk (nodeK_right hrb k357))))
            clear ok sz hway hrb hxo hkd k46 k357 hk
            go_upto_region 14 with fail
            go_cut [49] from 32 to 49 (fun t49 wd => t49 = .bool (!(x.kind == 7) && decide (dm ≤ s.way.length)) ∧ wd = X)
            case first =>
              by_cases k7 : x.kind = 7
              · rw [k7] at x0 ⊢
                go_wp2_with fail
                go_meet
                exact ⟨by simp [k7], rfl⟩
              · have b7 : (x.kind == 7) = false := beq_eq_false_iff_ne.2 k7
                have b7' : (x.kind != 7) = true := bne_iff_ne.2 k7
                by_cases hdd : dm ≤ s.way.length
                · have hdI : (dm : Int) ≤ (s.way.length : Int) := by omega
                  go_wp2_with fail
                  go_meet
                  exact ⟨by simp [b7, hdd], rfl⟩
                · have hdI : ¬ (dm : Int) ≤ (s.way.length : Int) := by omega
                  go_wp2_with fail
                  go_meet
                  exact ⟨by simp [b7, hdd], rfl⟩
            case rest =>
              obtain ⟨rfl, hw49⟩ := hcut
              have hw49 := hw49.symm
              subst hw49
              clear b1 b2 b4 b6 b8 k1 k2 k8 n4 n6
              cases hdb : (!(x.kind == 7) && decide (dm ≤ s.way.length)) with
              | true =>
                have hdb2 : ¬ x.kind = 7 ∧ dm ≤ s.way.length := by simpa using hdb
                have HG : Hid (mkG L dm nm = (⟨[], []⟩, 8)) := by
                  show mkG _ _ _ = _
                  have hk35 : x.kind = 3 ∨ x.kind = 5 := by have := HK.out; omega
                  rw [mkG, Hr.out, mkAll_stop (HTk.out.trans (by rw [mkStep_35 hk35, if_pos hdb2.2]))]; rfl
                have HZ := Lib.hid (HWr.out X HS.out.bel); have za0 := Lib.cell_of_heap HZ.out.2 0; have za1 := Lib.cell_of_heap HZ.out.2 1; have zg0 := Go.Joins.unfrozen_of_block HZ.out.2 0; have zg1 := Go.Joins.unfrozen_of_block HZ.out.2 1
                clear hdb hdb2
                go_wp2_with fail
                obtain ⟨hbw1, hr1⟩ := HZ.out; obtain ⟨Z, hZ⟩ : ∃ Z, (X.setCell ⟨w.heap.size, 0, none⟩ (.slice none 0 0)).setCell ⟨w.heap.size, 1, none⟩ (.slice none 0 0) = Z := ⟨_, rfl⟩; have hz : Z.heap[w.heap.size]? = some (.cells #[.slice none 0 0, .slice none 0 0] 28 (0, 0)) := (by rw [← hZ]; exact Go.Joins.block_setCell (i := 1) (Go.Joins.block_setCell (i := 0) hr1 _) _); have hbz : Below w.heap.size w Z := (by rw [← hZ]; exact (hbw1.setCell (p := ⟨w.heap.size, 0, none⟩) (Nat.le_refl _) _).setCell (p := ⟨w.heap.size, 1, none⟩) (Nat.le_refl _) _); rw [hZ]; refine bodyPost_ret (results_row_tmpF rfl _ _ w.heap.size _ _ (0, 0) _ rfl hz Tryz.underlying28 rfl (by kernel_rfl)) rfl ?_; rw [HG.out]; exact ⟨_, rfl, grAt_nil _ _, hbz⟩
              | false =>
                have hdb2 : x.kind = 3 ∨ x.kind = 5 → ¬ dm ≤ s.way.length := fun e h => by
                  have : (x.kind == 7) = false := beq_eq_false_iff_ne.2 (by omega)
                  simp [this, h] at hdb
                by_cases hnn : nm ≤ s.nodes.length
                · have hnI : (nm : Int) ≤ (s.nodes.length : Int) := by omega
                  have HG : Hid (mkG L dm nm = (⟨[], []⟩, 9)) := by
                    show mkG _ _ _ = _
                    have hst : mkStep dm nm s x = .error 9 := by
                      rcases HK.out with e | e | e
                      · rw [mkStep_35 (.inl e), if_neg (hdb2 (.inl e)), if_pos hnn]
                      · rw [mkStep_35 (.inr e), if_neg (hdb2 (.inr e)), if_pos hnn]
                      · rw [mkStep_7 e, if_pos hnn]
                    rw [mkG, Hr.out, mkAll_stop (HTk.out.trans hst)]; rfl
                  have HZ := Lib.hid (HWr.out X HS.out.bel); have za0 := Lib.cell_of_heap HZ.out.2 0; have za1 := Lib.cell_of_heap HZ.out.2 1; have zg0 := Go.Joins.unfrozen_of_block HZ.out.2 0; have zg1 := Go.Joins.unfrozen_of_block HZ.out.2 1
                  clear hdb hdb2 hnn
                  go_wp2_with fail
                  obtain ⟨hbw1, hr1⟩ := HZ.out; obtain ⟨Z, hZ⟩ : ∃ Z, (X.setCell ⟨w.heap.size, 0, none⟩ (.slice none 0 0)).setCell ⟨w.heap.size, 1, none⟩ (.slice none 0 0) = Z := ⟨_, rfl⟩; have hz : Z.heap[w.heap.size]? = some (.cells #[.slice none 0 0, .slice none 0 0] 28 (0, 0)) := (by rw [← hZ]; exact Go.Joins.block_setCell (i := 1) (Go.Joins.block_setCell (i := 0) hr1 _) _); have hbz : Below w.heap.size w Z := (by rw [← hZ]; exact (hbw1.setCell (p := ⟨w.heap.size, 0, none⟩) (Nat.le_refl _) _).setCell (p := ⟨w.heap.size, 1, none⟩) (Nat.le_refl _) _); rw [hZ]; refine bodyPost_ret (results_row_tmpF rfl _ _ w.heap.size _ _ (0, 0) _ rfl hz Tryz.underlying28 rfl (by kernel_rfl)) rfl ?_; rw [HG.out]; exact ⟨_, rfl, grAt_nil _ _, hbz⟩
                have hnI : ¬ (nm : Int) ≤ (s.nodes.length : Int) := by omega
                have hstp : mkStep dm nm s x = .ok (if x.kind = 3 ∨ x.kind = 5 then { newNode (nodeK x) x.anchor s with way := s.way ++ [s.nodes.length] } else newNode (nodeK x) x.anchor s) := by
                  rcases HK.out with e | e | e
                  · rw [mkStep_35 (.inl e), if_neg (hdb2 (.inl e)), if_neg hnn, if_pos (.inl e)]
                  · rw [mkStep_35 (.inr e), if_neg (hdb2 (.inr e)), if_neg hnn, if_pos (.inr e)]
                  · rw [mkStep_7 e, if_neg hnn, if_neg (by omega)]
                have HSt := Lib.hid hstp
                obtain ⟨pl, hpl⟩ : ∃ pl, (x.style == 1) = pl := ⟨_, rfl⟩
                obtain ⟨V1, V2, hV1, hV2, hbV1, hbV2, hrV1, hrV2⟩ := boxF X 1 2 x.tag x.text pl
                have HV12 := Lib.hid (And.intro hbV2 hrV2)
                have HV1 := Lib.hid (And.intro hbV1 hrV1)
                obtain ⟨_, _, _, _, zx0, _⟩ := (HS.out.below hbV1).cells
                have HPl := Lib.hid hpl
                clear hdb hdb2 hnn hstp hbV1 hrV1 hbV2 hrV2
                go_upto_if 65 with fail
                go_cut [] from 44 to 66 (fun wd => Hid (Below X.heap.size X wd ∧ wd.heap[X.heap.size]? = some (.cells #[.int .i64 (if x.kind = 3 then 2 else 1), .string x.tag, .string x.text, .slice none 0 0, .bool pl] 46 (0, 0))))
                case first =>
                  clear hV1
                  by_cases k3 : x.kind = 3
                  · have b3 : (x.kind == 3) = true := by rw [k3]; rfl
                    have l0 := Lib.cell_of_heap HV1.out.2 0
                    have l1 := Go.Joins.unfrozen_of_block HV1.out.2 0
                    have HV2 : Hid (Below X.heap.size X V2 ∧ V2.heap[X.heap.size]? = some (.cells #[.int .i64 (if x.kind = 3 then 2 else 1), .string x.tag, .string x.text, .slice none 0 0, .bool pl] 46 (0, 0))) := by
                      show _ ∧ _
                      rw [if_pos k3]; exact HV12.out
                    go_wp2_with fail
                    go_meet
                    case rel => exact HV2.out
                  · have b3 : (x.kind == 3) = false := beq_eq_false_iff_ne.2 k3
                    have HV2 : Hid (Below X.heap.size X V1 ∧ V1.heap[X.heap.size]? = some (.cells #[.int .i64 (if x.kind = 3 then 2 else 1), .string x.tag, .string x.text, .slice none 0 0, .bool pl] 46 (0, 0))) := by
                      refine ⟨HV1.out.1, ?_⟩
                      rw [if_neg k3]; exact HV1.out.2
                    go_wp2_with fail
                    go_meet
                    case rel => exact HV2.out
                case rest =>
                  obtain ⟨Y, hYw⟩ : ∃ Y, Y = wc := ⟨_, rfl⟩
                  subst hYw
                  have HY : Hid (Below X.heap.size X Y) := hcut.out.1
                  have hrY := hcut.out.2
                  have l0 := Lib.cell_of_heap hrY 0
                  have l1 := Go.Joins.unfrozen_of_block hrY 0
                  obtain ⟨_, _, _, _, zx0, _⟩ := (HS.out.below HY.out).cells
                  obtain ⟨Y2, hY2⟩ : ∃ Y2, Y.setCell ⟨X.heap.size, 0, none⟩ (.int .i64 3) = Y2 := ⟨_, rfl⟩
                  have HrY := Lib.hid hrY
                  clear hV1 hV2 HV1 HV12 hrY hcut
                  go_upto_if 69 with fail
                  go_cut [] from 44 to 70 (fun wd => Hid (Below X.heap.size X wd ∧ wd.heap[X.heap.size]? = some (.cells #[.int .i64 (nodeK x).kind, .string x.tag, .string x.text, .slice none 0 0, .bool pl] 46 (0, 0))))
                  case first =>
                    by_cases k5 : x.kind = 5
                    · have b5 : (x.kind == 5) = true := by rw [k5]; rfl
                      have HV2 : Hid (Below X.heap.size X Y2 ∧ Y2.heap[X.heap.size]? = some (.cells #[.int .i64 (nodeK x).kind, .string x.tag, .string x.text, .slice none 0 0, .bool pl] 46 (0, 0))) := by
                        refine ⟨by rw [← hY2]; exact HY.out.setCell (p := ⟨X.heap.size, 0, none⟩) (Nat.le_refl _) _, ?_⟩
                        rw [← hY2, show (nodeK x).kind = 3 from by simp [nodeK, k5]]
                        exact Go.Joins.block_setCell (i := 0) HrY.out _
                      go_wp2_with fail
                      go_meet
                      case rel => exact HV2.out
                    · have b5 : (x.kind == 5) = false := beq_eq_false_iff_ne.2 k5
                      have HV2 : Hid (Below X.heap.size X Y ∧ Y.heap[X.heap.size]? = some (.cells #[.int .i64 (nodeK x).kind, .string x.tag, .string x.text, .slice none 0 0, .bool pl] 46 (0, 0))) := by
                        refine ⟨HY.out, ?_⟩
                        rw [show (nodeK x).kind = if x.kind = 3 then 2 else 1 from by simp [nodeK, k5]]
                        exact HrY.out
                      go_wp2_with fail
                      go_meet
                      case rel => exact HV2.out
                  case rest =>
                    obtain ⟨Z1, hZw⟩ : ∃ Z1, Z1 = wc := ⟨_, rfl⟩
                    subst hZw
                    obtain ⟨ok, sz, hk, htx, hplk⟩ := HP3.out
                    have HZ1 : Hid (Below X.heap.size X Z1) := hcut.out.1
                    have hrZ := hcut.out.2
                    obtain ⟨m0, m1, m2, m3, m4⟩ := (⟨Lib.cell_of_heap hrZ 0, Lib.cell_of_heap hrZ 1, Lib.cell_of_heap hrZ 2, Lib.cell_of_heap hrZ 3, Lib.cell_of_heap hrZ 4⟩ : _ ∧ _ ∧ _ ∧ _ ∧ _)
                    obtain ⟨A5, c5, w5, X5, R5, hrun, hcl5, hX5, h5, q52, q53⟩ := HS.out.nodeF (sz.mono (by omega)) HZ1.out (nodeK x) rfl HV.out.1
                    rw [htx, hplk, HPl.out, nodeK_tag] at hrun
                    have hcV := (HS.out.below HZ1.out).cells
                    rw [HV.out.1] at hcV
                    obtain ⟨z0, z1, zf0, zf1, zx0, zx1, zx2, zx3, zx4⟩ := hcV
                    obtain ⟨p0, p1, pf0, pf1, px0, px1, px2, px3, px4⟩ := hcl5
                    obtain ⟨_, _, _, _, t0, t1, t2, t3, t4⟩ := h5.cells
                    rw [HV.out.2.1] at q52
                    rw [HV.out.2.2] at q53
                    by_cases hz : x.anchor.size = 0
                    · have hE2 : x.anchor.toList.isEmpty = true := by rw [empty_strF]; simp [hz]
                      have HM2 : Hid (MidP dm nm s { s with nodes := s.nodes ++ [nodeK x] } x s.nodes.length) := MidP.fresh ok sz (by omega) rfl hz HSt.out
                      have H5 := Lib.hid h5
                      clear h5 ok sz hk hz hrZ hY2 hcut htx hplk
                      go_wp2_with (first
                        | (at_builtin; refine wpList_runA rfl _ _ 25 rfl _ _ _ rfl rfl hrun ?_))
                      go_meet
                      case rel => exact ⟨_, R5, s.nodes.length, q52.symm, q53.symm, rfl, H5.out, HM2.out⟩
                    · have hE2 : x.anchor.toList.isEmpty = false := by rw [empty_strF]; simp [hz]
                      have HM2 : Hid (MidP dm nm s { s with nodes := s.nodes ++ [nodeK x], names := s.names ++ [(x.anchor, s.nodes.length)] } x s.nodes.length) := MidP.freshN ok sz (by omega) rfl hz HSt.out
                      obtain ⟨A6, c6, w6, hrun6, R6, h6, q62, q63⟩ := h5.name ((sz.more _ rfl).mono (by omega)) x.anchor s.nodes.length
                      rw [q52] at q62
                      rw [q53] at hrun6
                      have H6 := Lib.hid h6
                      clear h5 h6 ok sz hk hz hrZ hY2 hcut htx hplk q52 q53
                      go_wp2_with (first
                        | (at_builtin; refine wpList_runA rfl _ _ 25 rfl _ _ _ rfl rfl hrun ?_)
                        | (at_builtin; refine wpList_runA rfl _ _ 60 rfl _ _ _ rfl rfl hrun6 ?_))
                      go_meet
                      case rel => exact ⟨_, R6, s.nodes.length, q62.symm, q63.symm, rfl, H6.out, HM2.out⟩
        case rest =>
          obtain ⟨s2, R2, i, ho2, hn2, rfl, HS2, HM2⟩ := hcut
          obtain ⟨WA2, wcp2, hwv2, _⟩ := HS2.out.made.wayForm
          obtain ⟨TA2, tc2, htv2, _⟩ : ∃ TA tc, (R2 3).v = .slice TA s2.names.length tc ∧ s2.names.length ≤ tc := HS2.out.made.fam.formA 3 (by rw [HS2.out.nms])
          rw [hwv2] at ho2
          rw [htv2] at hn2
          subst ho2 hn2
          have HV2 := Lib.hid (And.intro hwv2 htv2)
          have HNx : Hid (mkAll dm nm mk0 (L.take (k + 1)) = .ok (if x.kind = 3 ∨ x.kind = 5 then { place i s2 with way := s2.way ++ [i] } else place i s2)) := HTk.out.trans HM2.out.step
          have hwl := HM2.out.sz.way
          clear hwv2 htv2 y0 y1 yf0 yf1 x0 x1 x2 x3 x4 hX HTk HS HV
          go_upto_if 126 with fail
          go_cut [9, 16] from 123 to 151 (fun o9 o16 wd => o9 = Value.slice WA2 s2.way.length wcp2 ∧ o16 = Value.int .i64 (s2.way.length : Int) ∧ ∃ R3, ORow.v (R3 2) = Value.slice WA2 s2.way.length wcp2 ∧ ORow.v (R3 3) = Value.slice TA2 s2.names.length tc2 ∧ Hid (RSt U wd gb xb x (place i s2) R3))
          case first =>
            have hi := HM2.out.lt
            have sz2 : s2.Sz 1900000 := HM2.out.sz.mono (by omega)
            obtain ⟨y0, y1, yf0, yf1, x0, x1, x2, x3, x4⟩ := HS2.out.cells
            cases hw : s2.way.getLast? with
            | none =>
              have hw0 : s2.way = [] := List.getLast?_eq_none_iff.1 hw
              have hw1 : s2.way.length = 0 := by rw [hw0]; rfl
              obtain ⟨A5, c5, w5, hrun, hcl5, R5, h5, q52, q53⟩ := HS2.out.root sz2 hw0 i
              obtain ⟨p0, p1, pf0, pf1, _, _, _, _, _⟩ := hcl5
              obtain ⟨rv, hrv⟩ : ∃ rv, (R2 1).v = rv := ⟨_, rfl⟩
              rw [hrv] at hrun p1 y1
              obtain ⟨X5, hX5⟩ : ∃ X5, w5.setCell ⟨gb, 1, none⟩ (.slice A5 (s2.roots.length + 1) c5) = X5 := ⟨_, rfl⟩
              rw [hX5] at h5
              rw [HV2.out.1] at q52
              rw [HV2.out.2] at q53
              have H5 := Lib.hid h5
              have y1a := (((Below.refl wc.heap.size wc).alloc (Nat.le_refl _) (.cells #[.int .i64 (i : Int)] 3)).cell (p := ⟨gb, 1, none⟩) (by have := HS2.out.lt; show gb < _; omega)).trans y1
              have Hw1 := Lib.hid hw1
              rw [hw1]
              clear h5 sz2 hw hw0 hrv hw1
              go_wp2_with (first
                | (at_builtin; refine wpList_runA rfl _ _ 26 rfl _ _ _ rfl rfl hrun ?_))
              go_meet
              case rel => exact ⟨by rw [Hw1.out], by rw [Hw1.out]; rfl, R5, q52, q53, H5.out⟩
            | some u =>
              have hu : u < s2.nodes.length := HM2.out.ok.way u (List.mem_of_getLast? hw)
              have hba : Below wc.heap.size wc (wc.alloc (.cells #[.int .i64 (i : Int)] 3)) := (Below.refl _ wc).alloc (Nat.le_refl _) _
              obtain ⟨ng, nc2, wg, wc2, hv0, hv2, hwl0, kw, kn, hng, A5, c5, w5, l5, hrun, hcl5, k5c, k5f, R5, h5, q52, q53⟩ := HS2.out.kid sz2 hw hu i (Wx := (wc.alloc (.cells #[.int .i64 (i : Int)] 3)).drew) hba.drew (n0 := wc.heap.size) (fr := (0, 0)) (heap_alloc_new wc _)
              rw [HV2.out.1] at hv2
              cases hv2
              rw [hv0] at hcl5 y0
              obtain ⟨p0, p1, pf0, pf1, _, _, _, _, _⟩ := hcl5
              obtain ⟨rv, hrv⟩ : ∃ rv, (R2 (4 + u)).v = rv := ⟨_, rfl⟩
              rw [hrv] at hrun k5c kn
              obtain ⟨X5, hX5⟩ : ∃ X5, w5.setCell ⟨ng, u * 5 + 3, none⟩ (.slice A5 l5 c5) = X5 := ⟨_, rfl⟩
              rw [hX5] at h5
              rw [HV2.out.1] at q52
              rw [HV2.out.2] at q53
              have H5 := Lib.hid h5
              have y0a := (hba.cell (p := ⟨gb, 0, none⟩) (by have := HS2.out.lt; show gb < _; omega)).trans y0
              have kna := (hba.cell (p := ⟨ng, u * 5 + 3, none⟩) hng).trans kn
              obtain ⟨q, hq⟩ : ∃ q, s2.way.length = q := ⟨_, rfl⟩
              obtain ⟨p, hp⟩ : ∃ p, s2.nodes.length = p := ⟨_, rfl⟩
              have hns := HM2.out.sz.nodes
              have HQ := Lib.hid hq
              rw [hq] at kw hwl0 hwl ⊢
              rw [hp] at y0 y0a p0 hu hns
              have e0 : (0 : Int) < (q : Int) := by omega
              have e1 : (1 : Int) ≤ (q : Int) := by omega
              have e2 : (0 : Int) ≤ (q : Int) - 1 := by omega
              have e3 : (q : Int) - 1 < (q : Int) := by omega
              have e4 : ((q : Int) - 1).toNat = q - 1 := by omega
              have e5 : (u : Int) < (p : Int) := by omega
              have e6 : wrap64 ((q : Int) - 1) = (q : Int) - 1 := IntWalk.wrap64_in _ (by omega)
              clear h5 sz2 hw hrv hba hng hv0 hq hp hns
              go_wp2_with fail
              apply wp_stillF (w2 := X5)
              · go_region_law (first | (refine step_appF rfl _ _ rfl rv _ rfl rfl hrun ?_))
                all_goals exact ⟨rfl, rfl⟩
              go_wp2_with fail
              go_meet
              case rel => exact ⟨by rw [HQ.out], by rw [HQ.out], R5, q52, q53, H5.out⟩
          case rest =>
            obtain ⟨rfl, rfl, R3, ho3, hn3, HS3⟩ := hcut
            obtain ⟨_, _, _, _, x0, x1, x2, x3, x4⟩ := HS3.out.cells
            by_cases k35 : x.kind = 3 ∨ x.kind = 5
            · rw [if_pos k35] at HNx
              obtain ⟨A6, c6, w6, hrun, R6, h6, q62, q63⟩ := HS3.out.open (s := place i s2) ((place_sz HM2.out.sz i).mono (by omega)) i
              rw [place_way, ho3] at hrun
              rw [place_way] at h6 q62
              rw [hn3] at q63
              have H6 := Lib.hid h6.toRfAt
              clear h6
              rcases k35 with e | e
              · rw [e] at x0
                go_wp2_with (first
                  | (at_builtin; refine wpList_runA rfl _ _ 26 rfl _ _ _ rfl rfl hrun ?_))
                go_roundg (L.length - (k + 1))
                case measure => omega
                case rel => exact ⟨k + 1, hlt, rfl, by go_num, _, R6, q62.symm, q63.symm, HNx.out, H6.out⟩
              · rw [e] at x0
                go_wp2_with (first
                  | (at_builtin; refine wpList_runA rfl _ _ 26 rfl _ _ _ rfl rfl hrun ?_))
                go_roundg (L.length - (k + 1))
                case measure => omega
                case rel => exact ⟨k + 1, hlt, rfl, by go_num, _, R6, q62.symm, q63.symm, HNx.out, H6.out⟩
            · rw [if_neg k35] at HNx
              have e3 : ¬ x.kind = 3 := fun e => k35 (.inl e)
              have e5 : ¬ x.kind = 5 := fun e => k35 (.inr e)
              have b3 : (x.kind == 3) = false := beq_eq_false_iff_ne.2 e3
              have b5 : (x.kind == 5) = false := beq_eq_false_iff_ne.2 e5
              have H3 := Lib.hid HS3.out.toRfAt
              clear k35
              go_wp2_with fail
              go_roundg (L.length - (k + 1))
              case measure => omega
              case rel => exact ⟨k + 1, hlt, rfl, by go_num, _, R3, ho3.symm, hn3.symm, HNx.out, H3.out⟩
      · obtain rfl : k = L.length := by omega
        have hM := HM.out
        rw [List.take_length] at hM
        have HG : Hid (mkG L dm nm = (⟨s.nodes, s.roots⟩, 0)) := by show mkG _ _ _ = _; rw [mkG, Hr.out, hM]; rfl
        have hB := HRf.out.made
        obtain ⟨NA, nc, hnv, _⟩ := hB.nodesForm
        obtain ⟨RA, rc, hrv, _⟩ := hB.rootsForm
        have c0 := Lib.cell_of_heap HRf.out.g0 0
        have c1 := Lib.cell_of_heap HRf.out.g0 1
        rw [hnv] at c0
        rw [hrv] at c1
        obtain ⟨hbw1, hrr⟩ := HWr.out wr HRf.out.bel
        have a0 := Lib.cell_of_heap hrr 0
        have a1 := Lib.cell_of_heap hrr 1
        have g0 := Go.Joins.unfrozen_of_block hrr 0
        have g1 := Go.Joins.unfrozen_of_block hrr 1
        obtain ⟨WA, wcp, hwv, _⟩ := hB.wayForm
        obtain ⟨TA, tc, htv, _⟩ : ∃ TA tc, (R 3).v = .slice TA s.names.length tc ∧ s.names.length ≤ tc := hB.fam.formA 3 (by rw [HRf.out.nms])
        rw [hwv] at ho
        rw [htv] at hn
        subst ho hn
        have Hrr := Lib.hid (And.intro hrr hbw1)
        have HF := Lib.hid (And.intro hB (And.intro hnv hrv))
        have hd2 : ¬ (L.length : Int) < (L.length : Int) := by omega
        have Hgw := Lib.hid hgw
        clear hM hB hrr hbw1 hk hlt hnv hrv hwv htv hgw
        go_wp2_with fail
        obtain ⟨Z, hZ⟩ : ∃ Z, (wr.setCell ⟨w.heap.size, 0, none⟩ (.slice NA s.nodes.length nc)).setCell ⟨w.heap.size, 1, none⟩ (.slice RA s.roots.length rc) = Z := ⟨_, rfl⟩
        have hz : Z.heap[w.heap.size]? = some (.cells #[.slice NA s.nodes.length nc, .slice RA s.roots.length rc] 28 (0, 0)) := by rw [← hZ]; exact Go.Joins.block_setCell (i := 1) (Go.Joins.block_setCell (i := 0) Hrr.out.1 _) _
        have hbz : Below w.heap.size w Z := by rw [← hZ]; exact (Hrr.out.2.setCell (p := ⟨w.heap.size, 0, none⟩) (Nat.le_refl _) _).setCell (p := ⟨w.heap.size, 1, none⟩) (Nat.le_refl _) _
        rw [hZ]
        refine bodyPost_ret (results_row_tmpF rfl _ _ w.heap.size _ _ (0, 0) _ rfl hz Tryz.underlying28 rfl (by kernel_rfl)) rfl ?_
        rw [HG.out]
        have hgw := Hgw.out
        have hfz : Fam Z (gb + 1) R := HF.out.1.fam.other fun b hb => by rw [← hZ, Below.heap_setCell _ _ _ _ (by show b ≠ w.heap.size; omega), Below.heap_setCell _ _ _ _ (by show b ≠ w.heap.size; omega)]
        have hgr := (HF.out.1.of hfz).gr
        rw [HF.out.2.1, HF.out.2.2] at hgr
        exact ⟨_, rfl, hgr, hbz⟩
end Go.Proofs.YtiblamapjekdeaaGreat
