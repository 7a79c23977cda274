/- The law GraphWrong, within its table. Condition: utf8's tables lie in the world. (Printed by gwrong.py.) -/
import Derived.Test.YtdcbngimgpdjoaaDoorGwo
namespace Go.Proofs.YtdcbngimgpdjoaaDoor
open Go.RowKit Go.Shelf Go.Deep
set_option maxRecDepth 100000 in
set_option maxHeartbeats 8000000 in
theorem graphWrong_in (w : World) (hT : Tabs w) (k : Nat) (hk : k < 15) :
    Calls Tryd.prog 6 #[.int .i64 (k : Int)] w fun e w' => e = .returned (.bool true) ∧ Below w.heap.size w w' := by
  have HA : Hid (Calls Tryd.prog 16 #[] w fun e w' => e = .returned (.bool true) ∧ Below w.heap.size w w') := alive_any w hT
  have HTb : Hid (∀ W, Below w.heap.size w W → Tabs W) := fun W h => hT.below h
  clear hT
  have h1 : ¬ (k : Int) < 0 := by omega
  have h2 : ¬ (15 : Int) ≤ (k : Int) := by omega
  have h1d := decide_eq_false h1
  have h2d := decide_eq_false h2
  go_enter Tryd.func6, Tryd.ntmps6
  go_wp2_with (first
    | (go_at_call 16; refine HA.out.mono ?_; rintro e w1 ⟨rfl, hb1⟩; obtain ⟨V2, V3, V4, V5, V6, V7, V8, V9, V10, V11, V12, V13, V14, V15, V16, V17, V18, V19, V20, V21, V22, V23, h2, h3, h4, h5, h6, h7, h8, h9, h10, h11, h12, h13, h14, h15, h16, h17, h18, h19, h20, h21, h22, h23, ⟨_, _, _, _, _⟩, ⟨_, _, _, _, _⟩, HB, HO, HF⟩ := wrong_rows w1 (HTb.out w1 hb1)
       obtain ⟨s1, s2, G, c1, c2, hG, hok, hR⟩ := HF.out V23 k (Below.refl _ _) hk
       have HG2 : Hid (∀ W, Below V23.heap.size V23 W → W.cell? ⟨V22.heap.size, k * 2, none⟩ = some s1 ∧ W.cell? ⟨V22.heap.size, k * 2 + 1, none⟩ = some s2) := fun W hW => ⟨(hW.cell (World.block_lt_of_cell? _ _ c1)).trans c1, (hW.cell (World.block_lt_of_cell? _ _ c2)).trans c2⟩
       have hI : isB G 0 = false := by simp [isB, hR]
       have HRt : Hid (∀ W, Below V23.heap.size V23 W → Calls Tryd.prog 18 #[.agg #[s1, s2]] W fun e w' => e = .returned (.bool false) ∧ Below W.heap.size W w') := fun W hW => by
         have := Right_any G _ W ((hG.below hW (Nat.le_refl _)).more hW.size) hok (HO.out W hW).1
         rwa [hR] at this
       have HRe : Hid (∀ W, Below V23.heap.size V23 W → Calls Tryd.prog 21 #[.agg #[s1, s2], .int .i64 0] W fun e w' => ∃ A c, e = .returned (.slice A 0 c) ∧ Below W.heap.size W w') := fun W hW => by
         refine (Reach_any G _ 0 W ((hG.below hW (Nat.le_refl _)).more hW.size) hok (HO.out W hW).1).mono ?_
         rintro e w' ⟨u, rfl, ⟨A, c, rfl, _⟩, hb⟩
         exact ⟨A, c, by simp [reachL, hI], hb⟩
       have HUs : Hid (∀ W, Below V23.heap.size V23 W → Calls Tryd.prog 25 #[.agg #[s1, s2], .int .i64 0] W fun e w' => ∃ A c, e = .returned (.slice A 0 c) ∧ Below W.heap.size W w') := fun W hW => by
         refine (Uses_any G _ 0 W ((hG.below hW (Nat.le_refl _)).more hW.size) hok (HO.out W hW).1).mono ?_
         rintro e w' ⟨u, rfl, ⟨A, c, rfl, _⟩, hb⟩
         exact ⟨A, c, by simp [usesL, hI], hb⟩
       have HCy : Hid (∀ W, Below V23.heap.size V23 W → Calls Tryd.prog 23 #[.agg #[s1, s2], .int .i64 0] W fun e w' => e = .returned (.bool false) ∧ Below W.heap.size W w') := fun W hW => by
         have := Cyclic_any G _ 0 W ((hG.below hW (Nat.le_refl _)).more hW.size) hok (HO.out W hW).1
         rwa [cyclicB, hI] at this
       have Hb1 := Lib.hid hb1
       clear hG hok hR hI HF HTb HA hb1)
    | (go_at_call 18; have _ := Hb6; refine (HR3.out w6 Hb6.out).mono ?_; rintro e w7 ⟨rfl, hb7⟩; have Hb7 := Lib.hid (Hb6.out.trans (hb7.mono Hb6.out.size)); clear hb7)
    | (go_at_call 18; have _ := Hb5; refine HR2.out.mono ?_; rintro e w6 ⟨rfl, hb6⟩; have Hb6 := Lib.hid (HbY.out.trans (hb6.mono HbY.out.size)); clear hb6)
    | (go_at_call 18; refine (HRt.out V23 (Below.refl _ _)).mono ?_; rintro e w2 ⟨rfl, hb2⟩; obtain ⟨x1, x2⟩ := HG2.out w2 hb2; have Hb2 := Lib.hid hb2; clear hb2 h2 h3 h4 h5 h6 h7 h8 h9 h10 h11 h12 h13 h14 h15 h16 h17 h18 h19 h20 h21 h22 h23)
    | (go_at_call 21; refine (HRe.out w2 Hb2.out).mono ?_; rintro e w3 ⟨A3, n3, rfl, hb3⟩; have Hb3 := Lib.hid (Hb2.out.trans (hb3.mono Hb2.out.size)); obtain ⟨y1, y2⟩ := HG2.out w3 Hb3.out; clear hb3)
    | (go_at_call 25; refine (HUs.out w3 Hb3.out).mono ?_; rintro e w4 ⟨A4, n4, rfl, hb4⟩; have Hb4 := Lib.hid (Hb3.out.trans (hb4.mono Hb3.out.size)); obtain ⟨z1, z2⟩ := HG2.out w4 Hb4.out; clear hb4)
    | (go_at_call 23; refine (HCy.out w4 Hb4.out).mono ?_; rintro e w5 ⟨rfl, hb5⟩; have Hb5 := Lib.hid (Hb4.out.trans (hb5.mono Hb4.out.size)); obtain ⟨hT5, o0, o1, o2, o3, o4⟩ := HO.out w5 Hb5.out
       obtain ⟨Y1, hY1, bY1, rY1, sY1⟩ := boxN w5 #[.int .i64 1, .string ⟨#[120]⟩, .string ⟨#[97]⟩, .slice none 0 0, .bool false] 33
       obtain ⟨Y2, hY2, bY2, rY2, sY2⟩ := boxN Y1 #[.int .i64 0, .int .i64 0] 3
       have HbY : Hid (Below V23.heap.size V23 Y2) := Hb5.out.trans ((below_then bY1 bY2).mono Hb5.out.size)
       have HR2 : Hid (Calls Tryd.prog 18 #[.agg #[.slice (some ⟨w5.heap.size, 0, none⟩) 1 1, .slice (some ⟨Y1.heap.size, 0, none⟩) 2 2]] Y2 fun e w' => e = .returned (.bool true) ∧ Below Y2.heap.size Y2 w') := by
         have := Right_any wrong15 (.agg #[.slice (some ⟨w5.heap.size, 0, none⟩) 1 1, .slice (some ⟨Y1.heap.size, 0, none⟩) 2 2]) Y2 ⟨_, _, _, _, rfl, nds_one (e := ⟨1, ⟨#[120]⟩, ⟨#[97]⟩, [], false⟩) (by omega) ((bY2.block _ (by omega)).trans rY1) IntsAt.nil (by simp) (by simp), ints_two (by omega) rY2⟩ wrong15_ok (HO.out Y2 HbY.out).1
         rwa [wrong15_right] at this
       have HR3 : Hid (∀ W, Below V23.heap.size V23 W → Calls Tryd.prog 18 #[.agg #[.slice none 0 0, .slice none 0 0]] W fun e w' => e = .returned (.bool true) ∧ Below W.heap.size W w') := fun W hW => by
         have := Right_any wrong16 (.agg #[.slice none 0 0, .slice none 0 0]) W ⟨_, _, _, _, rfl, NdsAt.nil, IntsAt.nil⟩ wrong16_ok (HO.out W hW).1
         rwa [wrong16_right] at this
       clear hb5 bY1 rY1 bY2 rY2 hT5 sY1 sY2))
  go_ret
  exact ⟨by first | rfl | simp, below_then Hb1.out (HB.out.trans (Hb7.out.mono HB.out.size))⟩
theorem graphWrong_walk (w : World) (hT : Tabs w) (which : Int) (_ : (Lit.int .i64 which).wf = true) :
    Calls Tryd.prog 6 #[.int .i64 which] w fun e w' => e = .returned (.bool true) ∧ Below w.heap.size w w' := by
  by_cases h : which < 0
  · exact graphWrong_out w hT which (.inl h)
  · by_cases h2 : which < 15
    · obtain ⟨k, rfl⟩ : ∃ k : Nat, which = k := ⟨which.toNat, by omega⟩
      exact graphWrong_in w hT k (by omega)
    · exact graphWrong_out w hT which (.inr ⟨h, by omega⟩)
end Go.Proofs.YtdcbngimgpdjoaaDoor
