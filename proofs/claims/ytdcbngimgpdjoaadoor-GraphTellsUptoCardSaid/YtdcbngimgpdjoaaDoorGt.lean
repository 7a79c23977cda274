/- The law GraphTells. Conditions: utf8's tables lie in the world; the graph's texts and rows hold no more than a million million. -/
import Derived.Test.YtdcbngimgpdjoaaDoorRj
import Derived.Test.YtdcbngimgpdjoaaDoorKw
import Derived.Test.YtdcbngimgpdjoaaDoorRs
import Derived.Test.YtdcbngimgpdjoaaDoorGal
import Derived.Deep.RegionHeld3
import Derived.Test.YtdcbngimgpdjoaaDoorGb
namespace Go.Proofs.YtdcbngimgpdjoaaDoor
open Go.RowKit
theorem natI_len (l : List Nat) : (l.map Int.ofNat).length = l.length := by simp
set_option maxRecDepth 100000 in
set_option maxHeartbeats 8000000 in
theorem graphTells_walk (w : World) (hT : Tabs w) (G : Gr) (v : Value) (hG : GrAt w w.heap.size G v) (hok : G.ok) (hokB : G.okB) (a : Int) (_ : (Lit.int .i64 a).wf = true) :
    Calls Tryd.prog 3 #[v, .int .i64 a] w fun e w' => e = .returned (.bool true) ∧ Below w.heap.size w w' := by
  have hGW : ∀ W, Below w.heap.size w W → GrAt W W.heap.size G v := fun W hW => (hG.below hW (Nat.le_refl _)).more hW.size
  have HBg : Hid (∀ W, Below w.heap.size w W → Calls Tryd.prog 17 #[v] W fun e w' => e = .returned (.bool (bigB G)) ∧ Below W.heap.size W w') := fun W hW => Big_any G v W (hGW W hW) hokB
  have HRt : Hid (∀ W, Below w.heap.size w W → Calls Tryd.prog 18 #[v] W fun e w' => e = .returned (.bool (rightB G)) ∧ Below W.heap.size W w') := fun W hW => Right_any G v W (hGW W hW) hok (hT.below hW)
  have HRc : Hid (∀ W, Below w.heap.size w W → Calls Tryd.prog 21 #[v, .int .i64 a] W fun e w' => ∃ A c, e = .returned (.slice A (reachL G a).length c) ∧ IntsAt w' w'.heap.size A ((reachL G a).map Int.ofNat) ∧ Below W.heap.size W w') := fun W hW => (Reach_any G v a W (hGW W hW) hok (hT.below hW)).mono (by
    rintro e w' ⟨u, rfl, ⟨A, c, rfl, hI, _⟩, hb⟩; exact ⟨A, c, rfl, hI, hb⟩)
  have HUs : Hid (∀ W, Below w.heap.size w W → Calls Tryd.prog 25 #[v, .int .i64 a] W fun e w' => ∃ A c, e = .returned (.slice A (usesL G a).length c) ∧ IntsAt w' w'.heap.size A ((usesL G a).map Int.ofNat) ∧ Below W.heap.size W w') := fun W hW => (Uses_any G v a W (hGW W hW) hok (hT.below hW)).mono (by
    rintro e w' ⟨u, rfl, ⟨A, c, rfl, hI, _⟩, hb⟩; exact ⟨A, c, rfl, hI, hb⟩)
  have HCy : Hid (∀ W, Below w.heap.size w W → Calls Tryd.prog 23 #[v, .int .i64 a] W fun e w' => e = .returned (.bool (cyclicB G a)) ∧ Below W.heap.size W w') := fun W hW => Cyclic_any G v a W (hGW W hW) hok (hT.below hW)
  have HrR : Hid (bigB G = false → ∀ W, Below w.heap.size w W → Calls Tryd.prog 19 #[v] W fun e w' => e = .returned (.bool (rightB G)) ∧ Below W.heap.size W w') := fun hb W hW => RRight_any G v W (hGW W hW) (hokB.okR hb)
  have HrC : Hid (bigB G = false → ∀ W, Below w.heap.size w W → Calls Tryd.prog 22 #[v, .int .i64 a] W fun e w' => ∃ A c, e = .returned (.slice A (reachL G a).length c) ∧ IntsAt w' w'.heap.size A ((reachL G a).map Int.ofNat) ∧ Below W.heap.size W w') := fun hb W hW => (RReach_any G v a W (hGW W hW) (hokB.okR hb)).mono (by
    rintro e w' ⟨A, c, rfl, hI, _, hb, _⟩; exact ⟨A, c, rfl, hI, hb⟩)
  have HrU : Hid (bigB G = false → ∀ W, Below w.heap.size w W → Calls Tryd.prog 26 #[v, .int .i64 a] W fun e w' => ∃ A c, e = .returned (.slice A (usesL G a).length c) ∧ IntsAt w' w'.heap.size A ((usesL G a).map Int.ofNat) ∧ Below W.heap.size W w') := fun hb W hW => (RUses_any G v a W (hGW W hW) (hokB.okR hb)).mono (by
    rintro e w' ⟨A, c, rfl, hI, _, hb⟩; exact ⟨A, c, rfl, hI, hb⟩)
  have HrY : Hid (bigB G = false → ∀ W, Below w.heap.size w W → Calls Tryd.prog 24 #[v, .int .i64 a] W fun e w' => e = .returned (.bool (cyclicB G a)) ∧ Below W.heap.size W w') := fun hb W hW => RCyclic_any G v a W (hGW W hW) (hokB.okR hb)
  have HS1 : Hid (bigB G = false → ∀ W A1 A2 c1 c2, IntsAt W W.heap.size A1 ((reachL G a).map Int.ofNat) → IntsAt W W.heap.size A2 ((reachL G a).map Int.ofNat) → Calls Tryd.prog 20 #[.slice A1 (reachL G a).length c1, .slice A2 (reachL G a).length c2] W fun e w' => e = .returned (.bool true) ∧ Below W.heap.size W w') := fun hb W A1 A2 c1 c2 h1 h2 => by
    have hl : ((reachL G a).map Int.ofNat).length ≤ 1000000000000 := by
      rw [natI_len]
      rcases isB_cases G a with h | ⟨h, r, rfl, hr, hR⟩
      · simp [reachL, h]
      · have := nodup_short _ _ (hR.met hr).nodup (hR.met hr).lt
        have := hR.nodes
        simp [reachL, h]; omega
    have := SameInts_any A1 A2 c1 c2 ((reachL G a).map Int.ofNat) ((reachL G a).map Int.ofNat) W hl h1 h2
    rwa [natI_len, decide_eq_true rfl] at this
  have HS2 : Hid (bigB G = false → ∀ W A1 A2 c1 c2, IntsAt W W.heap.size A1 ((usesL G a).map Int.ofNat) → IntsAt W W.heap.size A2 ((usesL G a).map Int.ofNat) → Calls Tryd.prog 20 #[.slice A1 (usesL G a).length c1, .slice A2 (usesL G a).length c2] W fun e w' => e = .returned (.bool true) ∧ Below W.heap.size W w') := fun hb W A1 A2 c1 c2 h1 h2 => by
    have hl : ((usesL G a).map Int.ofNat).length ≤ 1000000000000 := by
      rw [natI_len]
      rcases isB_cases G a with h | ⟨h, r, rfl, hr, hR⟩
      · simp [usesL, h]
      · have := hR.nodes
        simp [usesL, h]; omega
    have := SameInts_any A1 A2 c1 c2 ((usesL G a).map Int.ofNat) ((usesL G a).map Int.ofNat) W hl h1 h2
    rwa [natI_len, decide_eq_true rfl] at this
  obtain ⟨NA, nc, RA, rc, rfl, hN, hR⟩ := hG.ex
  obtain ⟨V, hV, hbV, hrow, hsz⟩ := box2 w (.slice NA G.nodes.length nc) (.slice RA G.roots.length rc) 25
  have HA : Hid (Calls Tryd.prog 16 #[] V fun e w' => e = .returned (.bool true) ∧ Below V.heap.size V w') := alive_any V (hT.below hbV)
  have HC : Hid (∀ W, Below V.heap.size V W → W.cell? ⟨w.heap.size, 0, none⟩ = some (.slice NA G.nodes.length nc) ∧ W.cell? ⟨w.heap.size, 1, none⟩ = some (.slice RA G.roots.length rc) ∧ Below w.heap.size w W) := fun W h => by
    have hr := (h.block w.heap.size (by omega)).trans hrow
    exact ⟨Lib.cell_of_heap hr 0, Lib.cell_of_heap hr 1, below_then hbV h⟩
  obtain ⟨v0, v1, _⟩ := HC.out V (Below.refl _ _)
  clear hT hG hok hokB hN hR hbV hrow hsz hGW
  obtain ⟨bg, hbg⟩ : ∃ x, bigB G = x := ⟨_, rfl⟩
  rw [hbg] at HBg HrR HrC HrU HrY HS1 HS2
  clear hbg
  obtain ⟨rt, hrt⟩ : ∃ x, rightB G = x := ⟨_, rfl⟩
  rw [hrt] at HRt HrR
  clear hrt
  obtain ⟨cy, hcy⟩ : ∃ x, cyclicB G a = x := ⟨_, rfl⟩
  rw [hcy] at HCy HrY
  clear hcy
  cases bg
  · have h1 := Lib.hid (HrR.out rfl)
    have h2 := Lib.hid (HrC.out rfl)
    have h3 := Lib.hid (HrU.out rfl)
    have h4 := Lib.hid (HrY.out rfl)
    have h5 := Lib.hid (HS1.out rfl)
    have h6 := Lib.hid (HS2.out rfl)
    clear HrR HrC HrU HrY HS1 HS2
    go_enter Tryd.func3, Tryd.ntmps3
    go_wp2_with (first
      | (go_at_call 16; refine HA.out.mono ?_; rintro e w1 ⟨rfl, hb1⟩; obtain ⟨x0, x1, x2⟩ := HC.out w1 hb1; have Hb1 := Lib.hid hb1; have X2 := Lib.hid x2; clear hb1 x2)
      | (go_at_call 17; refine (HBg.out w1 X2.out).mono ?_; rintro e w2 ⟨rfl, hb2⟩; have Hb2 := Lib.hid (Hb1.out.trans (hb2.mono Hb1.out.size)); obtain ⟨y0, y1, _⟩ := HC.out w2 Hb2.out; clear hb2))
    have Hbc : Hid (Below V.heap.size V w2.drew) := Hb2.out.drew
    clear x0 x1 v0 v1
    go_region_held3 (fun W' => W'.cell? ⟨w.heap.size, 0, none⟩ = some (.slice NA G.nodes.length nc) ∧ W'.cell? ⟨w.heap.size, 1, none⟩ = some (.slice RA G.roots.length rc)) (go_keep) (first
      | (go_at_call 20; refine (h6.out _ A10 A11 c10 c11 HIA10b.out HIA11.out).mono ?_; rintro e wn ⟨rfl, hbn⟩; have Hbn := Lib.hid (Hbc.out.trans (hbn.mono Hbc.out.size)); obtain ⟨x0, x1, _⟩ := HC.out _ Hbn.out; clear Hbc hbn; have Hbc := Hbn; clear Hbn)
      | (go_at_call 20; refine (h5.out _ A5 A6 c5 c6 HIA5b.out HIA6.out).mono ?_; rintro e wn ⟨rfl, hbn⟩; have Hbn := Lib.hid (Hbc.out.trans (hbn.mono Hbc.out.size)); obtain ⟨x0, x1, _⟩ := HC.out _ Hbn.out; clear Hbc hbn; have Hbc := Hbn; clear Hbn)
      | (go_at_call 18; refine (HRt.out _ (HC.out _ Hbc.out).2.2).mono ?_; rintro e wn ⟨rfl, hbn⟩; have Hbn := Lib.hid (Hbc.out.trans (hbn.mono Hbc.out.size)); obtain ⟨x0, x1, _⟩ := HC.out _ Hbn.out; clear Hbc hbn; have Hbc := Hbn; clear Hbn)
      | (go_at_call 19; refine (h1.out _ (HC.out _ Hbc.out).2.2).mono ?_; rintro e wn ⟨rfl, hbn⟩; have Hbn := Lib.hid (Hbc.out.trans (hbn.mono Hbc.out.size)); obtain ⟨x0, x1, _⟩ := HC.out _ Hbn.out; clear Hbc hbn; have Hbc := Hbn; clear Hbn)
      | (go_at_call 21; refine (HRc.out _ (HC.out _ Hbc.out).2.2).mono ?_; rintro e wn ⟨A5, c5, rfl, hIn, hbn⟩; have HIA5 := Lib.hid hIn; have Hbn := Lib.hid (Hbc.out.trans (hbn.mono Hbc.out.size)); obtain ⟨x0, x1, _⟩ := HC.out _ Hbn.out; clear hIn Hbc hbn; have Hbc := Hbn; clear Hbn)
      | (go_at_call 22; refine (h2.out _ (HC.out _ Hbc.out).2.2).mono ?_; rintro e wn ⟨A6, c6, rfl, hIn, hbn⟩; have HIA6 := Lib.hid hIn; have HIA5b := Lib.hid ((HIA5.out.below hbn (Nat.le_refl _)).more hbn.size); have Hbn := Lib.hid (Hbc.out.trans (hbn.mono Hbc.out.size)); obtain ⟨x0, x1, _⟩ := HC.out _ Hbn.out; clear hIn Hbc hbn; have Hbc := Hbn; clear Hbn)
      | (go_at_call 23; refine (HCy.out _ (HC.out _ Hbc.out).2.2).mono ?_; rintro e wn ⟨rfl, hbn⟩; have Hbn := Lib.hid (Hbc.out.trans (hbn.mono Hbc.out.size)); obtain ⟨x0, x1, _⟩ := HC.out _ Hbn.out; clear Hbc hbn; have Hbc := Hbn; clear Hbn)
      | (go_at_call 24; refine (h4.out _ (HC.out _ Hbc.out).2.2).mono ?_; rintro e wn ⟨rfl, hbn⟩; have Hbn := Lib.hid (Hbc.out.trans (hbn.mono Hbc.out.size)); obtain ⟨x0, x1, _⟩ := HC.out _ Hbn.out; clear Hbc hbn; have Hbc := Hbn; clear Hbn)
      | (go_at_call 25; refine (HUs.out _ (HC.out _ Hbc.out).2.2).mono ?_; rintro e wn ⟨A10, c10, rfl, hIn, hbn⟩; have HIA10 := Lib.hid hIn; have Hbn := Lib.hid (Hbc.out.trans (hbn.mono Hbc.out.size)); obtain ⟨x0, x1, _⟩ := HC.out _ Hbn.out; clear hIn Hbc hbn; have Hbc := Hbn; clear Hbn)
      | (go_at_call 26; refine (h3.out _ (HC.out _ Hbc.out).2.2).mono ?_; rintro e wn ⟨A11, c11, rfl, hIn, hbn⟩; have HIA11 := Lib.hid hIn; have HIA10b := Lib.hid ((HIA10.out.below hbn (Nat.le_refl _)).more hbn.size); have Hbn := Lib.hid (Hbc.out.trans (hbn.mono Hbc.out.size)); obtain ⟨x0, x1, _⟩ := HC.out _ Hbn.out; clear hIn Hbc hbn; have Hbc := Hbn; clear Hbn))
    all_goals go_wp2_with fail
    all_goals go_ret
    all_goals exact ⟨ret_bool (by first | rfl | simp), (HC.out _ Hbc.out).2.2⟩
  · clear HrR HrC HrU HrY HS1 HS2
    go_enter Tryd.func3, Tryd.ntmps3
    go_wp2_with (first
      | (go_at_call 16; refine HA.out.mono ?_; rintro e w1 ⟨rfl, hb1⟩; obtain ⟨x0, x1, x2⟩ := HC.out w1 hb1; have Hb1 := Lib.hid hb1; have X2 := Lib.hid x2; clear hb1 x2)
      | (go_at_call 17; refine (HBg.out w1 X2.out).mono ?_; rintro e w2 ⟨rfl, hb2⟩; have X3 := Lib.hid (X2.out.trans (hb2.mono X2.out.size)); clear hb2))
    go_ret
    exact ⟨by first | rfl | simp, X3.out⟩
end Go.Proofs.YtdcbngimgpdjoaaDoor
