/- The reference's reader at the example: past when it passes one blank. Condition: the reader stands at the example's line. -/
import Derived.Test.YtiblamapjekdeaaGreatKb
namespace Go.Proofs.YtiblamapjekdeaaGreat
open Go.RowKit
attribute [local go_sem] Oper.semAt_some
set_option maxRecDepth 100000 in
set_option maxHeartbeats 4000000 in
theorem past_one (p : RdP) (k : Nat) (ov : Value) (w : World) (h : Rd w p ov) (hk : k < 7) (h0 : pastN (listT.drop k) = 1) (hc : (seeV (k + 1) == 35) = false) :
    Calls Tryz.prog 66 #[.pointer (some ⟨p.rb, 0, none⟩), plc k] w fun e w' => e = .returned (plc (k + 1)) ∧ Below w.heap.size w w' := by
  obtain ⟨V, hV, hbV, hrV, hsV⟩ := box3 w (.int .i64 0) (.int .i64 (k : Int)) (.bool false) 100
  obtain ⟨V2, hV2, hbV2, hrV2, hsV2⟩ := box3 V (.int .i64 0) (.int .i64 0) (.bool false) 100
  have hbb := below_then hbV hbV2
  have hVr := h.below hbb
  have HBx : Hid (∀ W, Below V2.heap.size V2 W → W.heap[w.heap.size]? = some (.cells #[.int .i64 0, .int .i64 (k : Int), .bool false] 100 (0, 0)) ∧ W.heap[V.heap.size]? = some (.cells #[.int .i64 0, .int .i64 0, .bool false] 100 (0, 0)) ∧ Below w.heap.size w W) := fun W hW =>
    ⟨(hW.block _ (by omega)).trans ((hbV2.block _ (by omega)).trans hrV), (hW.block _ (by omega)).trans hrV2, below_then hbb hW⟩
  have HBc : Hid (∀ W, Below V2.heap.size V2 W → W.cell? ⟨w.heap.size, 0, none⟩ = some (.int .i64 0) ∧ W.cell? ⟨w.heap.size, 1, none⟩ = some (.int .i64 (k : Int)) ∧ W.cell? ⟨w.heap.size, 2, none⟩ = some (.bool false)) := fun W hW => by
    obtain ⟨h1, _⟩ := HBx.out W hW
    exact ⟨Lib.cell_of_heap h1 0, Lib.cell_of_heap h1 1, Lib.cell_of_heap h1 2⟩
  obtain ⟨b0, b1, b2⟩ := HBc.out V2 (Below.refl _ _)
  have HRe : Hid (∀ W, Below V2.heap.size V2 W → Calls Tryz.prog 67 #[.pointer (some ⟨p.rb, 0, none⟩), plc k] W fun e w' => e = .returned (restV p k) ∧ Below V2.heap.size V2 w') := fun W hW => (rest_any p k ov W (hVr.below hW) (by omega)).mono fun e w' h => ⟨h.1, below_then hW h.2⟩
  have HSe : Hid (∀ W, Below w.heap.size w W → Calls Tryz.prog 87 #[.pointer (some ⟨p.rb, 0, none⟩), plc (k + 1)] W fun e w' => e = .returned (.int .i64 (seeV (k + 1))) ∧ Below W.heap.size W w') := fun W hW => see_any p (k + 1) ov W (h.below hW) (by omega)
  have HPa : Hid (∀ W, Below V2.heap.size V2 W → Calls Tryz.prog 42 #[restV p k] W fun e w' => e = .returned (.int .i64 1) ∧ W = w') := fun W hW => by
    by_cases h7 : k < 7
    · have h1 := Past_any (some ⟨p.tb, k, none⟩) (p.tc - k) (listT.drop k) W (by simp; omega) (fun _ => ⟨p.tb, k, rfl, (hVr.below hW).text.1, fun j hj => by
        have h2 := (hVr.below hW).text.2.2 (k + j) (by simp at hj; omega)
        rw [Nat.zero_add] at h2
        rw [nth_drop]; exact h2⟩)
      rw [h0] at h1
      rw [restV, if_pos h7]
      simpa using h1
    · omega
  obtain ⟨sv, hsv⟩ : ∃ z, seeV (k + 1) = z := ⟨_, rfl⟩
  obtain ⟨rv, hrv⟩ : ∃ z, restV p k = z := ⟨_, rfl⟩
  rw [hsv] at HSe hc
  rw [hrv] at HRe HPa
  have Hz : Hid (Below V2.heap.size V2 V2.drew) := (Below.refl _ _).drew
  have HVs : Hid (V.heap.size = w.heap.size + 1) := hsV
  obtain ⟨m, hm⟩ : ∃ m, k + 1 = m := ⟨_, rfl⟩
  have HWk : Hid (IntKind.i64.wrap (m : Int) = (m : Int)) := by show _ = _; rw [IntKind.wrap_i64]; omega
  have hmk : (k : Int) + 1 = (m : Int) := by omega
  rw [hm] at HSe
  rw [hm]
  have hkl : (k : Int) ≤ 7 := by omega
  have hk0 : (0 : Int) ≤ (k : Int) := Int.natCast_nonneg k
  clear hm h h0 hVr hrV hbV hrV2 hbV2 hbb hsv hrv hsV hsV2
  go_enter Tryz.func66, Tryz.ntmps66
  go_wp2_with fail
  refine wp_region_held_drew (S := fun _ => True) (by kernel_rfl) trivial (fun hHeld => ?_)
  refine wpAnyH_take (i := 0) (v := ?_) rfl (by kernel_rfl) (by kernel_rfl) (by kernel_rfl) (fun _ _ _ h => h) (Or.inl ⟨by rfl, ?_⟩) hHeld ?_; rotate_left; (intro W _; go_simp; with_reducible rfl); try simp only [Act.put, List.getElem_toArray, List.getElem_cons_zero, List.setIfInBounds_toArray, List.set_cons_zero, List.set_cons_succ]
  refine wpAnyH_take (i := 2) (v := ?_) rfl (by kernel_rfl) (by kernel_rfl) (by kernel_rfl) (fun _ _ _ h => h) (Or.inl ⟨by rfl, ?_⟩) hHeld ?_; rotate_left; (intro W _; go_simp; with_reducible rfl); try simp only [Act.put, List.getElem_toArray, List.getElem_cons_succ, List.getElem_cons_zero, List.setIfInBounds_toArray, List.set_cons_zero, List.set_cons_succ]
  clear hHeld
  refine wpAnyH_ready (rs := [1, 3]) (by kernel_rfl) (by simp) (AllReadyH.cons rfl (fun K hK => ?_) (AllReadyH.cons rfl (fun K hK => ?_) .nil))
  · have HK := Lib.hid hK
    clear hK
    go_simp
    refine HK.out.out _ _ trivial (fun hHeld => ?_)
    clear HK
    clear hHeld
    refine wpAnyH_ready (rs := [3]) (by kernel_rfl) (by simp) (AllReadyH.cons rfl (fun K hK => ?_) .nil)
    have HK := Lib.hid hK
    clear hK
    go_simp
    refine HK.out.out _ _ trivial (fun hHeld => ?_)
    clear HK
    clear hHeld
    refine wpAnyH_ready (rs := [4]) (by kernel_rfl) (by simp) (AllReadyH.cons rfl (fun K hK => ?_) .nil)
    have HK := Lib.hid hK
    clear hK
    go_simp
    go_at_call 67
    refine (HRe.out _ Hz.out).mono ?_
    rintro e w1 ⟨rfl, hb1⟩
    have Hb1 := Lib.hid hb1
    obtain ⟨q0, q1, q2⟩ := HBc.out w1 hb1
    have f1 := Go.Joins.unfrozen_of_block (HBx.out w1 hb1).1 1
    clear hb1
    try go_simp
    refine HK.out.out _ _ trivial (fun hHeld => ?_)
    clear HK
    clear hHeld
    refine wpAnyH_ready (rs := [5]) (by kernel_rfl) (by simp) (AllReadyH.cons rfl (fun K hK => ?_) .nil)
    have HK := Lib.hid hK
    clear hK
    go_simp
    go_at_call 42
    refine (HPa.out _ Hb1.out).mono ?_
    rintro e w' ⟨rfl, rfl⟩
    try go_simp
    refine HK.out.out _ _ trivial (fun hHeld => ?_)
    clear HK
    refine wpAnyH_take (i := 6) (v := ?_) rfl (by kernel_rfl) (by kernel_rfl) (by kernel_rfl) (fun _ _ _ h => h) (Or.inl ⟨by rfl, ?_⟩) hHeld ?_; rotate_left; (intro W _; go_simp; with_reducible rfl); try simp only [Act.put, List.getElem_toArray, List.getElem_cons_succ, List.getElem_cons_zero, List.setIfInBounds_toArray, List.set_cons_zero, List.set_cons_succ]
    refine wpAnyH_take (i := 7) (v := ?_) rfl (by kernel_rfl) (by kernel_rfl) (by kernel_rfl) (fun _ _ _ h => h) (Or.inl ⟨by rfl, ?_⟩) hHeld ?_; rotate_left; (intro W _; go_simp; with_reducible rfl); try simp only [Act.put, List.getElem_toArray, List.getElem_cons_succ, List.getElem_cons_zero, List.setIfInBounds_toArray, List.set_cons_zero, List.set_cons_succ]
    clear hHeld
    refine wpAnyH_ready (rs := [8]) (by kernel_rfl) (by simp) (AllReadyH.cons rfl (fun K hK => ?_) .nil)
    have HK := Lib.hid hK
    clear hK
    go_simp
    refine HK.out.out _ _ trivial (fun hHeld => ?_)
    clear HK
    refine wpAnyH_done (by kernel_rfl) ?_ _
    try rw [HWk.out]
    obtain ⟨X, hX⟩ : ∃ X, w1.setCell ⟨w.heap.size, 1, none⟩ (.int .i64 (m : Int)) = X := ⟨_, rfl⟩
    clear b0 b1 b2
    have hXr : X.heap[w.heap.size]? = some (.cells #[.int .i64 0, .int .i64 (m : Int), .bool false] 100 (0, 0)) := by rw [← hX]; exact Go.Joins.block_setCell (i := 1) (HBx.out w1 Hb1.out).1 (.int .i64 (m : Int))
    have hXz : X.heap[V.heap.size]? = some (.cells #[.int .i64 0, .int .i64 0, .bool false] 100 (0, 0)) := by rw [← hX]; exact (Below.heap_setCell w1 ⟨w.heap.size, 1, none⟩ _ V.heap.size (show V.heap.size ≠ w.heap.size by have := HVs.out; omega)).trans (HBx.out w1 Hb1.out).2.1
    have hXw : Below w.heap.size w X := by rw [← hX]; exact (HBx.out w1 Hb1.out).2.2.setCell (p := ⟨w.heap.size, 1, none⟩) (Nat.le_refl _) _
    have hXs : w.heap.size < X.heap.size := (Array.getElem?_eq_some_iff.1 hXr).1
    have hXt : V.heap.size < X.heap.size := (Array.getElem?_eq_some_iff.1 hXz).1
    have HBX : Hid (∀ W, Below X.heap.size X W → W.heap[w.heap.size]? = some (.cells #[.int .i64 0, .int .i64 (m : Int), .bool false] 100 (0, 0)) ∧ W.heap[V.heap.size]? = some (.cells #[.int .i64 0, .int .i64 0, .bool false] 100 (0, 0)) ∧ Below w.heap.size w W) := fun W hW => ⟨(hW.block _ hXs).trans hXr, (hW.block _ hXt).trans hXz, below_then hXw hW⟩
    have b0 := Lib.cell_of_heap hXr 0
    have b1 := Lib.cell_of_heap hXr 1
    have b2 := Lib.cell_of_heap hXr 2
    have HXd : Hid (Below X.heap.size X X.drew) := (Below.refl _ _).drew
    have HXw : Hid (Below w.heap.size w X.drew) := hXw.drew
    rw [hX]
    clear hX hXr hXz hXw hXs hXt q0 q1 q2 f1
    go_wp2_with fail
    refine wp_region_held_drew (S := fun W => W.cell? ⟨w.heap.size, 0, none⟩ = some (.int .i64 0) ∧ W.cell? ⟨w.heap.size, 1, none⟩ = some (.int .i64 (m : Int)) ∧ W.cell? ⟨w.heap.size, 2, none⟩ = some (.bool false)) (by kernel_rfl) ⟨b0, b1, b2⟩ (fun hHeld => ?_)
    refine wpAnyH_take (i := 0) (v := ?_) rfl (by kernel_rfl) (by kernel_rfl) (by kernel_rfl) (fun _ _ _ h => h) (Or.inl ⟨by rfl, ?_⟩) hHeld ?_; rotate_left; (intro W hSw; obtain ⟨_, _, _⟩ := hSw; go_simp; with_reducible rfl); try simp only [Act.put, List.getElem_toArray, List.getElem_cons_zero, List.setIfInBounds_toArray, List.set_cons_zero, List.set_cons_succ]
    refine wpAnyH_take (i := 1) (v := ?_) rfl (by kernel_rfl) (by kernel_rfl) (by kernel_rfl) (fun _ _ _ h => h) (Or.inl ⟨by rfl, ?_⟩) hHeld ?_; rotate_left; (intro W hSw; obtain ⟨_, _, _⟩ := hSw; go_simp; with_reducible rfl); try simp only [Act.put, List.getElem_toArray, List.getElem_cons_succ, List.getElem_cons_zero, List.setIfInBounds_toArray, List.set_cons_zero, List.set_cons_succ]
    clear hHeld
    refine wpAnyH_ready (rs := [2]) (by kernel_rfl) (by simp) (AllReadyH.cons rfl (fun K hK => ?_) .nil)
    have HK := Lib.hid hK
    clear hK
    go_simp
    go_at_call 87
    refine (HSe.out _ HXw.out).mono ?_
    rintro e w3 ⟨rfl, hb3⟩
    have Hb3 := Lib.hid (below_then HXd.out hb3)
    have q0 := Lib.cell_of_heap (HBX.out w3 Hb3.out).1 0
    have q1 := Lib.cell_of_heap (HBX.out w3 Hb3.out).1 1
    have q2 := Lib.cell_of_heap (HBX.out w3 Hb3.out).1 2
    clear hb3
    try go_simp
    refine HK.out.out _ _ ⟨q0, q1, q2⟩ (fun hHeld => ?_)
    clear HK
    refine wpAnyH_take (i := 3) (v := ?_) rfl (by kernel_rfl) (by kernel_rfl) (by kernel_rfl) (fun _ _ _ h => h) (Or.inl ⟨by rfl, ?_⟩) hHeld ?_; rotate_left; (intro W hSw; obtain ⟨_, _, _⟩ := hSw; go_simp; with_reducible rfl); try simp only [Act.put, List.getElem_toArray, List.getElem_cons_succ, List.getElem_cons_zero, List.setIfInBounds_toArray, List.set_cons_zero, List.set_cons_succ]
    refine wpAnyH_take (i := 4) (v := ?_) rfl (by kernel_rfl) (by kernel_rfl) (by kernel_rfl) (fun _ _ _ h => h) (Or.inl ⟨by rfl, ?_⟩) hHeld ?_; rotate_left; (intro W hSw; obtain ⟨_, _, _⟩ := hSw; go_simp; with_reducible rfl); try simp only [Act.put, List.getElem_toArray, List.getElem_cons_succ, List.getElem_cons_zero, List.setIfInBounds_toArray, List.set_cons_zero, List.set_cons_succ]
    refine wpAnyH_take (i := 5) (v := undef) rfl (by kernel_rfl) (by kernel_rfl) (by kernel_rfl) (fun _ _ _ h => h) (Or.inr ⟨by rfl, rfl⟩) hHeld ?_; try simp only [Act.put, List.getElem_toArray, List.getElem_cons_succ, List.getElem_cons_zero, List.setIfInBounds_toArray, List.set_cons_zero, List.set_cons_succ]
    refine wpAnyH_take (i := 6) (v := undef) rfl (by kernel_rfl) (by kernel_rfl) (by kernel_rfl) (fun _ _ _ h => h) (Or.inr ⟨by rfl, rfl⟩) hHeld ?_; try simp only [Act.put, List.getElem_toArray, List.getElem_cons_succ, List.getElem_cons_zero, List.setIfInBounds_toArray, List.set_cons_zero, List.set_cons_succ]
    refine wpAnyH_take (i := 7) (v := undef) rfl (by kernel_rfl) (by kernel_rfl) (by kernel_rfl) (fun _ _ _ h => h) (Or.inr ⟨by rfl, rfl⟩) hHeld ?_; try simp only [Act.put, List.getElem_toArray, List.getElem_cons_succ, List.getElem_cons_zero, List.setIfInBounds_toArray, List.set_cons_zero, List.set_cons_succ]
    refine wpAnyH_take (i := 8) (v := undef) rfl (by kernel_rfl) (by kernel_rfl) (by kernel_rfl) (fun _ _ _ h => h) (Or.inr ⟨by rfl, rfl⟩) hHeld ?_; try simp only [Act.put, List.getElem_toArray, List.getElem_cons_succ, List.getElem_cons_zero, List.setIfInBounds_toArray, List.set_cons_zero, List.set_cons_succ]
    refine wpAnyH_take (i := 9) (v := undef) rfl (by kernel_rfl) (by kernel_rfl) (by kernel_rfl) (fun _ _ _ h => h) (Or.inr ⟨by rfl, rfl⟩) hHeld ?_; try simp only [Act.put, List.getElem_toArray, List.getElem_cons_succ, List.getElem_cons_zero, List.setIfInBounds_toArray, List.set_cons_zero, List.set_cons_succ]
    refine wpAnyH_take (i := 10) (v := undef) rfl (by kernel_rfl) (by kernel_rfl) (by kernel_rfl) (fun _ _ _ h => h) (Or.inr ⟨by rfl, rfl⟩) hHeld ?_; try simp only [Act.put, List.getElem_toArray, List.getElem_cons_succ, List.getElem_cons_zero, List.setIfInBounds_toArray, List.set_cons_zero, List.set_cons_succ]
    refine wpAnyH_take (i := 11) (v := undef) rfl (by kernel_rfl) (by kernel_rfl) (by kernel_rfl) (fun _ _ _ h => h) (Or.inr ⟨by rfl, rfl⟩) hHeld ?_; try simp only [Act.put, List.getElem_toArray, List.getElem_cons_succ, List.getElem_cons_zero, List.setIfInBounds_toArray, List.set_cons_zero, List.set_cons_succ]
    refine wpAnyH_take (i := 12) (v := undef) rfl (by kernel_rfl) (by kernel_rfl) (by kernel_rfl) (fun _ _ _ h => h) (Or.inr ⟨by rfl, rfl⟩) hHeld ?_; try simp only [Act.put, List.getElem_toArray, List.getElem_cons_succ, List.getElem_cons_zero, List.setIfInBounds_toArray, List.set_cons_zero, List.set_cons_succ]
    refine wpAnyH_take (i := 13) (v := undef) rfl (by kernel_rfl) (by kernel_rfl) (by kernel_rfl) (fun _ _ _ h => h) (Or.inr ⟨by rfl, rfl⟩) hHeld ?_; try simp only [Act.put, List.getElem_toArray, List.getElem_cons_succ, List.getElem_cons_zero, List.setIfInBounds_toArray, List.set_cons_zero, List.set_cons_succ]
    refine wpAnyH_take (i := 14) (v := undef) rfl (by kernel_rfl) (by kernel_rfl) (by kernel_rfl) (fun _ _ _ h => h) (Or.inr ⟨by rfl, rfl⟩) hHeld ?_; try simp only [Act.put, List.getElem_toArray, List.getElem_cons_succ, List.getElem_cons_zero, List.setIfInBounds_toArray, List.set_cons_zero, List.set_cons_succ]
    refine wpAnyH_take (i := 15) (v := undef) rfl (by kernel_rfl) (by kernel_rfl) (by kernel_rfl) (fun _ _ _ h => h) (Or.inr ⟨by rfl, rfl⟩) hHeld ?_; try simp only [Act.put, List.getElem_toArray, List.getElem_cons_succ, List.getElem_cons_zero, List.setIfInBounds_toArray, List.set_cons_zero, List.set_cons_succ]
    refine wpAnyH_take (i := 16) (v := undef) rfl (by kernel_rfl) (by kernel_rfl) (by kernel_rfl) (fun _ _ _ h => h) (Or.inr ⟨by rfl, rfl⟩) hHeld ?_; try simp only [Act.put, List.getElem_toArray, List.getElem_cons_succ, List.getElem_cons_zero, List.setIfInBounds_toArray, List.set_cons_zero, List.set_cons_succ]
    refine wpAnyH_take (i := 17) (v := undef) rfl (by kernel_rfl) (by kernel_rfl) (by kernel_rfl) (fun _ _ _ h => h) (Or.inr ⟨by rfl, rfl⟩) hHeld ?_; try simp only [Act.put, List.getElem_toArray, List.getElem_cons_succ, List.getElem_cons_zero, List.setIfInBounds_toArray, List.set_cons_zero, List.set_cons_succ]
    refine wpAnyH_take (i := 18) (v := undef) rfl (by kernel_rfl) (by kernel_rfl) (by kernel_rfl) (fun _ _ _ h => h) (Or.inr ⟨by rfl, rfl⟩) hHeld ?_; try simp only [Act.put, List.getElem_toArray, List.getElem_cons_succ, List.getElem_cons_zero, List.setIfInBounds_toArray, List.set_cons_zero, List.set_cons_succ]
    refine wpAnyH_take (i := 19) (v := undef) rfl (by kernel_rfl) (by kernel_rfl) (by kernel_rfl) (fun _ _ _ h => h) (Or.inr ⟨by rfl, rfl⟩) hHeld ?_; try simp only [Act.put, List.getElem_toArray, List.getElem_cons_succ, List.getElem_cons_zero, List.setIfInBounds_toArray, List.set_cons_zero, List.set_cons_succ]
    refine wpAnyH_take (i := 20) (v := undef) rfl (by kernel_rfl) (by kernel_rfl) (by kernel_rfl) (fun _ _ _ h => h) (Or.inr ⟨by rfl, rfl⟩) hHeld ?_; try simp only [Act.put, List.getElem_toArray, List.getElem_cons_succ, List.getElem_cons_zero, List.setIfInBounds_toArray, List.set_cons_zero, List.set_cons_succ]
    refine wpAnyH_take (i := 21) (v := undef) rfl (by kernel_rfl) (by kernel_rfl) (by kernel_rfl) (fun _ _ _ h => h) (Or.inr ⟨by rfl, rfl⟩) hHeld ?_; try simp only [Act.put, List.getElem_toArray, List.getElem_cons_succ, List.getElem_cons_zero, List.setIfInBounds_toArray, List.set_cons_zero, List.set_cons_succ]
    refine wpAnyH_take (i := 22) (v := undef) rfl (by kernel_rfl) (by kernel_rfl) (by kernel_rfl) (fun _ _ _ h => h) (Or.inr ⟨by rfl, rfl⟩) hHeld ?_; try simp only [Act.put, List.getElem_toArray, List.getElem_cons_succ, List.getElem_cons_zero, List.setIfInBounds_toArray, List.set_cons_zero, List.set_cons_succ]
    refine wpAnyH_take (i := 23) (v := undef) rfl (by kernel_rfl) (by kernel_rfl) (by kernel_rfl) (fun _ _ _ h => h) (Or.inr ⟨by rfl, rfl⟩) hHeld ?_; try simp only [Act.put, List.getElem_toArray, List.getElem_cons_succ, List.getElem_cons_zero, List.setIfInBounds_toArray, List.set_cons_zero, List.set_cons_succ]
    refine wpAnyH_take (i := 24) (v := ?_) rfl (by kernel_rfl) (by kernel_rfl) (by kernel_rfl) (fun _ _ _ h => h) (Or.inl ⟨by rfl, ?_⟩) hHeld ?_; rotate_left; (intro W hSw; obtain ⟨_, _, _⟩ := hSw; go_simp; with_reducible rfl); try simp only [Act.put, List.getElem_toArray, List.getElem_cons_succ, List.getElem_cons_zero, List.setIfInBounds_toArray, List.set_cons_zero, List.set_cons_succ]
    refine wpAnyH_done (by kernel_rfl) ?_ _
    have c0 := Lib.cell_of_heap (HBX.out w3 Hb3.out).2.1 0
    have c1 := Lib.cell_of_heap (HBX.out w3 Hb3.out).2.1 1
    have c2 := Lib.cell_of_heap (HBX.out w3 Hb3.out).2.1 2
    have g0 := Go.Joins.unfrozen_of_block (HBX.out w3 Hb3.out).2.1 0
    have g1 := Go.Joins.unfrozen_of_block (HBX.out w3 Hb3.out).2.1 1
    have g2 := Go.Joins.unfrozen_of_block (HBX.out w3 Hb3.out).2.1 2
    have hw9 := Go.Joins.block_setCell (i := 2) (Go.Joins.block_setCell (i := 1) (Go.Joins.block_setCell (i := 0) (HBX.out w3 Hb3.out).2.1 (.int .i64 0)) (.int .i64 (m : Int))) (.bool false)
    have hb9 := (((HBX.out w3 Hb3.out).2.2.setCell (p := ⟨V.heap.size, 0, none⟩) (show w.heap.size ≤ V.heap.size by have := HVs.out; omega) (.int .i64 0)).setCell (p := ⟨V.heap.size, 1, none⟩) (show w.heap.size ≤ V.heap.size by have := HVs.out; omega) (.int .i64 (m : Int))).setCell (p := ⟨V.heap.size, 2, none⟩) (show w.heap.size ≤ V.heap.size by have := HVs.out; omega) (.bool false)
    have Hw9 := Lib.hid hw9
    have Hb9 := Lib.hid hb9
    clear hw9 hb9
    go_wp2_with fail
    refine bodyPost_ret (results_cell_row rfl _ _ V.heap.size _ _ (0, 0) _ rfl Hw9.out Tryz.underlying100 rfl (by kernel_rfl)) rfl ?_
    exact ⟨rfl, Hb9.out⟩
  · have HK := Lib.hid hK
    clear hK
    go_simp
    refine HK.out.out _ _ trivial (fun hHeld => ?_)
    clear HK
    clear hHeld
    refine wpAnyH_ready (rs := [1, 4]) (by kernel_rfl) (by simp) (AllReadyH.cons rfl (fun K hK => ?_) (AllReadyH.cons rfl (fun K hK => ?_) .nil))
    · have HK := Lib.hid hK
      clear hK
      go_simp
      refine HK.out.out _ _ trivial (fun hHeld => ?_)
      clear HK
      clear hHeld
      refine wpAnyH_ready (rs := [4]) (by kernel_rfl) (by simp) (AllReadyH.cons rfl (fun K hK => ?_) .nil)
      have HK := Lib.hid hK
      clear hK
      go_simp
      go_at_call 67
      refine (HRe.out _ Hz.out).mono ?_
      rintro e w1 ⟨rfl, hb1⟩
      have Hb1 := Lib.hid hb1
      obtain ⟨q0, q1, q2⟩ := HBc.out w1 hb1
      have f1 := Go.Joins.unfrozen_of_block (HBx.out w1 hb1).1 1
      clear hb1
      try go_simp
      refine HK.out.out _ _ trivial (fun hHeld => ?_)
      clear HK
      clear hHeld
      refine wpAnyH_ready (rs := [5]) (by kernel_rfl) (by simp) (AllReadyH.cons rfl (fun K hK => ?_) .nil)
      have HK := Lib.hid hK
      clear hK
      go_simp
      go_at_call 42
      refine (HPa.out _ Hb1.out).mono ?_
      rintro e w' ⟨rfl, rfl⟩
      try go_simp
      refine HK.out.out _ _ trivial (fun hHeld => ?_)
      clear HK
      refine wpAnyH_take (i := 6) (v := ?_) rfl (by kernel_rfl) (by kernel_rfl) (by kernel_rfl) (fun _ _ _ h => h) (Or.inl ⟨by rfl, ?_⟩) hHeld ?_; rotate_left; (intro W _; go_simp; with_reducible rfl); try simp only [Act.put, List.getElem_toArray, List.getElem_cons_succ, List.getElem_cons_zero, List.setIfInBounds_toArray, List.set_cons_zero, List.set_cons_succ]
      refine wpAnyH_take (i := 7) (v := ?_) rfl (by kernel_rfl) (by kernel_rfl) (by kernel_rfl) (fun _ _ _ h => h) (Or.inl ⟨by rfl, ?_⟩) hHeld ?_; rotate_left; (intro W _; go_simp; with_reducible rfl); try simp only [Act.put, List.getElem_toArray, List.getElem_cons_succ, List.getElem_cons_zero, List.setIfInBounds_toArray, List.set_cons_zero, List.set_cons_succ]
      clear hHeld
      refine wpAnyH_ready (rs := [8]) (by kernel_rfl) (by simp) (AllReadyH.cons rfl (fun K hK => ?_) .nil)
      have HK := Lib.hid hK
      clear hK
      go_simp
      refine HK.out.out _ _ trivial (fun hHeld => ?_)
      clear HK
      refine wpAnyH_done (by kernel_rfl) ?_ _
      try rw [HWk.out]
      obtain ⟨X, hX⟩ : ∃ X, w1.setCell ⟨w.heap.size, 1, none⟩ (.int .i64 (m : Int)) = X := ⟨_, rfl⟩
      clear b0 b1 b2
      have hXr : X.heap[w.heap.size]? = some (.cells #[.int .i64 0, .int .i64 (m : Int), .bool false] 100 (0, 0)) := by rw [← hX]; exact Go.Joins.block_setCell (i := 1) (HBx.out w1 Hb1.out).1 (.int .i64 (m : Int))
      have hXz : X.heap[V.heap.size]? = some (.cells #[.int .i64 0, .int .i64 0, .bool false] 100 (0, 0)) := by rw [← hX]; exact (Below.heap_setCell w1 ⟨w.heap.size, 1, none⟩ _ V.heap.size (show V.heap.size ≠ w.heap.size by have := HVs.out; omega)).trans (HBx.out w1 Hb1.out).2.1
      have hXw : Below w.heap.size w X := by rw [← hX]; exact (HBx.out w1 Hb1.out).2.2.setCell (p := ⟨w.heap.size, 1, none⟩) (Nat.le_refl _) _
      have hXs : w.heap.size < X.heap.size := (Array.getElem?_eq_some_iff.1 hXr).1
      have hXt : V.heap.size < X.heap.size := (Array.getElem?_eq_some_iff.1 hXz).1
      have HBX : Hid (∀ W, Below X.heap.size X W → W.heap[w.heap.size]? = some (.cells #[.int .i64 0, .int .i64 (m : Int), .bool false] 100 (0, 0)) ∧ W.heap[V.heap.size]? = some (.cells #[.int .i64 0, .int .i64 0, .bool false] 100 (0, 0)) ∧ Below w.heap.size w W) := fun W hW => ⟨(hW.block _ hXs).trans hXr, (hW.block _ hXt).trans hXz, below_then hXw hW⟩
      have b0 := Lib.cell_of_heap hXr 0
      have b1 := Lib.cell_of_heap hXr 1
      have b2 := Lib.cell_of_heap hXr 2
      have HXd : Hid (Below X.heap.size X X.drew) := (Below.refl _ _).drew
      have HXw : Hid (Below w.heap.size w X.drew) := hXw.drew
      rw [hX]
      clear hX hXr hXz hXw hXs hXt q0 q1 q2 f1
      go_wp2_with fail
      refine wp_region_held_drew (S := fun W => W.cell? ⟨w.heap.size, 0, none⟩ = some (.int .i64 0) ∧ W.cell? ⟨w.heap.size, 1, none⟩ = some (.int .i64 (m : Int)) ∧ W.cell? ⟨w.heap.size, 2, none⟩ = some (.bool false)) (by kernel_rfl) ⟨b0, b1, b2⟩ (fun hHeld => ?_)
      refine wpAnyH_take (i := 0) (v := ?_) rfl (by kernel_rfl) (by kernel_rfl) (by kernel_rfl) (fun _ _ _ h => h) (Or.inl ⟨by rfl, ?_⟩) hHeld ?_; rotate_left; (intro W hSw; obtain ⟨_, _, _⟩ := hSw; go_simp; with_reducible rfl); try simp only [Act.put, List.getElem_toArray, List.getElem_cons_zero, List.setIfInBounds_toArray, List.set_cons_zero, List.set_cons_succ]
      refine wpAnyH_take (i := 1) (v := ?_) rfl (by kernel_rfl) (by kernel_rfl) (by kernel_rfl) (fun _ _ _ h => h) (Or.inl ⟨by rfl, ?_⟩) hHeld ?_; rotate_left; (intro W hSw; obtain ⟨_, _, _⟩ := hSw; go_simp; with_reducible rfl); try simp only [Act.put, List.getElem_toArray, List.getElem_cons_succ, List.getElem_cons_zero, List.setIfInBounds_toArray, List.set_cons_zero, List.set_cons_succ]
      clear hHeld
      refine wpAnyH_ready (rs := [2]) (by kernel_rfl) (by simp) (AllReadyH.cons rfl (fun K hK => ?_) .nil)
      have HK := Lib.hid hK
      clear hK
      go_simp
      go_at_call 87
      refine (HSe.out _ HXw.out).mono ?_
      rintro e w3 ⟨rfl, hb3⟩
      have Hb3 := Lib.hid (below_then HXd.out hb3)
      have q0 := Lib.cell_of_heap (HBX.out w3 Hb3.out).1 0
      have q1 := Lib.cell_of_heap (HBX.out w3 Hb3.out).1 1
      have q2 := Lib.cell_of_heap (HBX.out w3 Hb3.out).1 2
      clear hb3
      try go_simp
      refine HK.out.out _ _ ⟨q0, q1, q2⟩ (fun hHeld => ?_)
      clear HK
      refine wpAnyH_take (i := 3) (v := ?_) rfl (by kernel_rfl) (by kernel_rfl) (by kernel_rfl) (fun _ _ _ h => h) (Or.inl ⟨by rfl, ?_⟩) hHeld ?_; rotate_left; (intro W hSw; obtain ⟨_, _, _⟩ := hSw; go_simp; with_reducible rfl); try simp only [Act.put, List.getElem_toArray, List.getElem_cons_succ, List.getElem_cons_zero, List.setIfInBounds_toArray, List.set_cons_zero, List.set_cons_succ]
      refine wpAnyH_take (i := 4) (v := ?_) rfl (by kernel_rfl) (by kernel_rfl) (by kernel_rfl) (fun _ _ _ h => h) (Or.inl ⟨by rfl, ?_⟩) hHeld ?_; rotate_left; (intro W hSw; obtain ⟨_, _, _⟩ := hSw; go_simp; with_reducible rfl); try simp only [Act.put, List.getElem_toArray, List.getElem_cons_succ, List.getElem_cons_zero, List.setIfInBounds_toArray, List.set_cons_zero, List.set_cons_succ]
      refine wpAnyH_take (i := 5) (v := undef) rfl (by kernel_rfl) (by kernel_rfl) (by kernel_rfl) (fun _ _ _ h => h) (Or.inr ⟨by rfl, rfl⟩) hHeld ?_; try simp only [Act.put, List.getElem_toArray, List.getElem_cons_succ, List.getElem_cons_zero, List.setIfInBounds_toArray, List.set_cons_zero, List.set_cons_succ]
      refine wpAnyH_take (i := 6) (v := undef) rfl (by kernel_rfl) (by kernel_rfl) (by kernel_rfl) (fun _ _ _ h => h) (Or.inr ⟨by rfl, rfl⟩) hHeld ?_; try simp only [Act.put, List.getElem_toArray, List.getElem_cons_succ, List.getElem_cons_zero, List.setIfInBounds_toArray, List.set_cons_zero, List.set_cons_succ]
      refine wpAnyH_take (i := 7) (v := undef) rfl (by kernel_rfl) (by kernel_rfl) (by kernel_rfl) (fun _ _ _ h => h) (Or.inr ⟨by rfl, rfl⟩) hHeld ?_; try simp only [Act.put, List.getElem_toArray, List.getElem_cons_succ, List.getElem_cons_zero, List.setIfInBounds_toArray, List.set_cons_zero, List.set_cons_succ]
      refine wpAnyH_take (i := 8) (v := undef) rfl (by kernel_rfl) (by kernel_rfl) (by kernel_rfl) (fun _ _ _ h => h) (Or.inr ⟨by rfl, rfl⟩) hHeld ?_; try simp only [Act.put, List.getElem_toArray, List.getElem_cons_succ, List.getElem_cons_zero, List.setIfInBounds_toArray, List.set_cons_zero, List.set_cons_succ]
      refine wpAnyH_take (i := 9) (v := undef) rfl (by kernel_rfl) (by kernel_rfl) (by kernel_rfl) (fun _ _ _ h => h) (Or.inr ⟨by rfl, rfl⟩) hHeld ?_; try simp only [Act.put, List.getElem_toArray, List.getElem_cons_succ, List.getElem_cons_zero, List.setIfInBounds_toArray, List.set_cons_zero, List.set_cons_succ]
      refine wpAnyH_take (i := 10) (v := undef) rfl (by kernel_rfl) (by kernel_rfl) (by kernel_rfl) (fun _ _ _ h => h) (Or.inr ⟨by rfl, rfl⟩) hHeld ?_; try simp only [Act.put, List.getElem_toArray, List.getElem_cons_succ, List.getElem_cons_zero, List.setIfInBounds_toArray, List.set_cons_zero, List.set_cons_succ]
      refine wpAnyH_take (i := 11) (v := undef) rfl (by kernel_rfl) (by kernel_rfl) (by kernel_rfl) (fun _ _ _ h => h) (Or.inr ⟨by rfl, rfl⟩) hHeld ?_; try simp only [Act.put, List.getElem_toArray, List.getElem_cons_succ, List.getElem_cons_zero, List.setIfInBounds_toArray, List.set_cons_zero, List.set_cons_succ]
      refine wpAnyH_take (i := 12) (v := undef) rfl (by kernel_rfl) (by kernel_rfl) (by kernel_rfl) (fun _ _ _ h => h) (Or.inr ⟨by rfl, rfl⟩) hHeld ?_; try simp only [Act.put, List.getElem_toArray, List.getElem_cons_succ, List.getElem_cons_zero, List.setIfInBounds_toArray, List.set_cons_zero, List.set_cons_succ]
      refine wpAnyH_take (i := 13) (v := undef) rfl (by kernel_rfl) (by kernel_rfl) (by kernel_rfl) (fun _ _ _ h => h) (Or.inr ⟨by rfl, rfl⟩) hHeld ?_; try simp only [Act.put, List.getElem_toArray, List.getElem_cons_succ, List.getElem_cons_zero, List.setIfInBounds_toArray, List.set_cons_zero, List.set_cons_succ]
      refine wpAnyH_take (i := 14) (v := undef) rfl (by kernel_rfl) (by kernel_rfl) (by kernel_rfl) (fun _ _ _ h => h) (Or.inr ⟨by rfl, rfl⟩) hHeld ?_; try simp only [Act.put, List.getElem_toArray, List.getElem_cons_succ, List.getElem_cons_zero, List.setIfInBounds_toArray, List.set_cons_zero, List.set_cons_succ]
      refine wpAnyH_take (i := 15) (v := undef) rfl (by kernel_rfl) (by kernel_rfl) (by kernel_rfl) (fun _ _ _ h => h) (Or.inr ⟨by rfl, rfl⟩) hHeld ?_; try simp only [Act.put, List.getElem_toArray, List.getElem_cons_succ, List.getElem_cons_zero, List.setIfInBounds_toArray, List.set_cons_zero, List.set_cons_succ]
      refine wpAnyH_take (i := 16) (v := undef) rfl (by kernel_rfl) (by kernel_rfl) (by kernel_rfl) (fun _ _ _ h => h) (Or.inr ⟨by rfl, rfl⟩) hHeld ?_; try simp only [Act.put, List.getElem_toArray, List.getElem_cons_succ, List.getElem_cons_zero, List.setIfInBounds_toArray, List.set_cons_zero, List.set_cons_succ]
      refine wpAnyH_take (i := 17) (v := undef) rfl (by kernel_rfl) (by kernel_rfl) (by kernel_rfl) (fun _ _ _ h => h) (Or.inr ⟨by rfl, rfl⟩) hHeld ?_; try simp only [Act.put, List.getElem_toArray, List.getElem_cons_succ, List.getElem_cons_zero, List.setIfInBounds_toArray, List.set_cons_zero, List.set_cons_succ]
      refine wpAnyH_take (i := 18) (v := undef) rfl (by kernel_rfl) (by kernel_rfl) (by kernel_rfl) (fun _ _ _ h => h) (Or.inr ⟨by rfl, rfl⟩) hHeld ?_; try simp only [Act.put, List.getElem_toArray, List.getElem_cons_succ, List.getElem_cons_zero, List.setIfInBounds_toArray, List.set_cons_zero, List.set_cons_succ]
      refine wpAnyH_take (i := 19) (v := undef) rfl (by kernel_rfl) (by kernel_rfl) (by kernel_rfl) (fun _ _ _ h => h) (Or.inr ⟨by rfl, rfl⟩) hHeld ?_; try simp only [Act.put, List.getElem_toArray, List.getElem_cons_succ, List.getElem_cons_zero, List.setIfInBounds_toArray, List.set_cons_zero, List.set_cons_succ]
      refine wpAnyH_take (i := 20) (v := undef) rfl (by kernel_rfl) (by kernel_rfl) (by kernel_rfl) (fun _ _ _ h => h) (Or.inr ⟨by rfl, rfl⟩) hHeld ?_; try simp only [Act.put, List.getElem_toArray, List.getElem_cons_succ, List.getElem_cons_zero, List.setIfInBounds_toArray, List.set_cons_zero, List.set_cons_succ]
      refine wpAnyH_take (i := 21) (v := undef) rfl (by kernel_rfl) (by kernel_rfl) (by kernel_rfl) (fun _ _ _ h => h) (Or.inr ⟨by rfl, rfl⟩) hHeld ?_; try simp only [Act.put, List.getElem_toArray, List.getElem_cons_succ, List.getElem_cons_zero, List.setIfInBounds_toArray, List.set_cons_zero, List.set_cons_succ]
      refine wpAnyH_take (i := 22) (v := undef) rfl (by kernel_rfl) (by kernel_rfl) (by kernel_rfl) (fun _ _ _ h => h) (Or.inr ⟨by rfl, rfl⟩) hHeld ?_; try simp only [Act.put, List.getElem_toArray, List.getElem_cons_succ, List.getElem_cons_zero, List.setIfInBounds_toArray, List.set_cons_zero, List.set_cons_succ]
      refine wpAnyH_take (i := 23) (v := undef) rfl (by kernel_rfl) (by kernel_rfl) (by kernel_rfl) (fun _ _ _ h => h) (Or.inr ⟨by rfl, rfl⟩) hHeld ?_; try simp only [Act.put, List.getElem_toArray, List.getElem_cons_succ, List.getElem_cons_zero, List.setIfInBounds_toArray, List.set_cons_zero, List.set_cons_succ]
      refine wpAnyH_take (i := 24) (v := ?_) rfl (by kernel_rfl) (by kernel_rfl) (by kernel_rfl) (fun _ _ _ h => h) (Or.inl ⟨by rfl, ?_⟩) hHeld ?_; rotate_left; (intro W hSw; obtain ⟨_, _, _⟩ := hSw; go_simp; with_reducible rfl); try simp only [Act.put, List.getElem_toArray, List.getElem_cons_succ, List.getElem_cons_zero, List.setIfInBounds_toArray, List.set_cons_zero, List.set_cons_succ]
      refine wpAnyH_done (by kernel_rfl) ?_ _
      have c0 := Lib.cell_of_heap (HBX.out w3 Hb3.out).2.1 0
      have c1 := Lib.cell_of_heap (HBX.out w3 Hb3.out).2.1 1
      have c2 := Lib.cell_of_heap (HBX.out w3 Hb3.out).2.1 2
      have g0 := Go.Joins.unfrozen_of_block (HBX.out w3 Hb3.out).2.1 0
      have g1 := Go.Joins.unfrozen_of_block (HBX.out w3 Hb3.out).2.1 1
      have g2 := Go.Joins.unfrozen_of_block (HBX.out w3 Hb3.out).2.1 2
      have hw9 := Go.Joins.block_setCell (i := 2) (Go.Joins.block_setCell (i := 1) (Go.Joins.block_setCell (i := 0) (HBX.out w3 Hb3.out).2.1 (.int .i64 0)) (.int .i64 (m : Int))) (.bool false)
      have hb9 := (((HBX.out w3 Hb3.out).2.2.setCell (p := ⟨V.heap.size, 0, none⟩) (show w.heap.size ≤ V.heap.size by have := HVs.out; omega) (.int .i64 0)).setCell (p := ⟨V.heap.size, 1, none⟩) (show w.heap.size ≤ V.heap.size by have := HVs.out; omega) (.int .i64 (m : Int))).setCell (p := ⟨V.heap.size, 2, none⟩) (show w.heap.size ≤ V.heap.size by have := HVs.out; omega) (.bool false)
      have Hw9 := Lib.hid hw9
      have Hb9 := Lib.hid hb9
      clear hw9 hb9
      go_wp2_with fail
      refine bodyPost_ret (results_cell_row rfl _ _ V.heap.size _ _ (0, 0) _ rfl Hw9.out Tryz.underlying100 rfl (by kernel_rfl)) rfl ?_
      exact ⟨rfl, Hb9.out⟩
    · have HK := Lib.hid hK
      clear hK
      go_simp
      go_at_call 67
      refine (HRe.out _ Hz.out).mono ?_
      rintro e w1 ⟨rfl, hb1⟩
      have Hb1 := Lib.hid hb1
      obtain ⟨q0, q1, q2⟩ := HBc.out w1 hb1
      have f1 := Go.Joins.unfrozen_of_block (HBx.out w1 hb1).1 1
      clear hb1
      try go_simp
      refine HK.out.out _ _ trivial (fun hHeld => ?_)
      clear HK
      clear hHeld
      refine wpAnyH_ready (rs := [1, 5]) (by kernel_rfl) (by simp) (AllReadyH.cons rfl (fun K hK => ?_) (AllReadyH.cons rfl (fun K hK => ?_) .nil))
      · have HK := Lib.hid hK
        clear hK
        go_simp
        refine HK.out.out _ _ trivial (fun hHeld => ?_)
        clear HK
        clear hHeld
        refine wpAnyH_ready (rs := [5]) (by kernel_rfl) (by simp) (AllReadyH.cons rfl (fun K hK => ?_) .nil)
        have HK := Lib.hid hK
        clear hK
        go_simp
        go_at_call 42
        refine (HPa.out _ Hb1.out).mono ?_
        rintro e w' ⟨rfl, rfl⟩
        try go_simp
        refine HK.out.out _ _ trivial (fun hHeld => ?_)
        clear HK
        refine wpAnyH_take (i := 6) (v := ?_) rfl (by kernel_rfl) (by kernel_rfl) (by kernel_rfl) (fun _ _ _ h => h) (Or.inl ⟨by rfl, ?_⟩) hHeld ?_; rotate_left; (intro W _; go_simp; with_reducible rfl); try simp only [Act.put, List.getElem_toArray, List.getElem_cons_succ, List.getElem_cons_zero, List.setIfInBounds_toArray, List.set_cons_zero, List.set_cons_succ]
        refine wpAnyH_take (i := 7) (v := ?_) rfl (by kernel_rfl) (by kernel_rfl) (by kernel_rfl) (fun _ _ _ h => h) (Or.inl ⟨by rfl, ?_⟩) hHeld ?_; rotate_left; (intro W _; go_simp; with_reducible rfl); try simp only [Act.put, List.getElem_toArray, List.getElem_cons_succ, List.getElem_cons_zero, List.setIfInBounds_toArray, List.set_cons_zero, List.set_cons_succ]
        clear hHeld
        refine wpAnyH_ready (rs := [8]) (by kernel_rfl) (by simp) (AllReadyH.cons rfl (fun K hK => ?_) .nil)
        have HK := Lib.hid hK
        clear hK
        go_simp
        refine HK.out.out _ _ trivial (fun hHeld => ?_)
        clear HK
        refine wpAnyH_done (by kernel_rfl) ?_ _
        try rw [HWk.out]
        obtain ⟨X, hX⟩ : ∃ X, w1.setCell ⟨w.heap.size, 1, none⟩ (.int .i64 (m : Int)) = X := ⟨_, rfl⟩
        clear b0 b1 b2
        have hXr : X.heap[w.heap.size]? = some (.cells #[.int .i64 0, .int .i64 (m : Int), .bool false] 100 (0, 0)) := by rw [← hX]; exact Go.Joins.block_setCell (i := 1) (HBx.out w1 Hb1.out).1 (.int .i64 (m : Int))
        have hXz : X.heap[V.heap.size]? = some (.cells #[.int .i64 0, .int .i64 0, .bool false] 100 (0, 0)) := by rw [← hX]; exact (Below.heap_setCell w1 ⟨w.heap.size, 1, none⟩ _ V.heap.size (show V.heap.size ≠ w.heap.size by have := HVs.out; omega)).trans (HBx.out w1 Hb1.out).2.1
        have hXw : Below w.heap.size w X := by rw [← hX]; exact (HBx.out w1 Hb1.out).2.2.setCell (p := ⟨w.heap.size, 1, none⟩) (Nat.le_refl _) _
        have hXs : w.heap.size < X.heap.size := (Array.getElem?_eq_some_iff.1 hXr).1
        have hXt : V.heap.size < X.heap.size := (Array.getElem?_eq_some_iff.1 hXz).1
        have HBX : Hid (∀ W, Below X.heap.size X W → W.heap[w.heap.size]? = some (.cells #[.int .i64 0, .int .i64 (m : Int), .bool false] 100 (0, 0)) ∧ W.heap[V.heap.size]? = some (.cells #[.int .i64 0, .int .i64 0, .bool false] 100 (0, 0)) ∧ Below w.heap.size w W) := fun W hW => ⟨(hW.block _ hXs).trans hXr, (hW.block _ hXt).trans hXz, below_then hXw hW⟩
        have b0 := Lib.cell_of_heap hXr 0
        have b1 := Lib.cell_of_heap hXr 1
        have b2 := Lib.cell_of_heap hXr 2
        have HXd : Hid (Below X.heap.size X X.drew) := (Below.refl _ _).drew
        have HXw : Hid (Below w.heap.size w X.drew) := hXw.drew
        rw [hX]
        clear hX hXr hXz hXw hXs hXt q0 q1 q2 f1
        go_wp2_with fail
        refine wp_region_held_drew (S := fun W => W.cell? ⟨w.heap.size, 0, none⟩ = some (.int .i64 0) ∧ W.cell? ⟨w.heap.size, 1, none⟩ = some (.int .i64 (m : Int)) ∧ W.cell? ⟨w.heap.size, 2, none⟩ = some (.bool false)) (by kernel_rfl) ⟨b0, b1, b2⟩ (fun hHeld => ?_)
        refine wpAnyH_take (i := 0) (v := ?_) rfl (by kernel_rfl) (by kernel_rfl) (by kernel_rfl) (fun _ _ _ h => h) (Or.inl ⟨by rfl, ?_⟩) hHeld ?_; rotate_left; (intro W hSw; obtain ⟨_, _, _⟩ := hSw; go_simp; with_reducible rfl); try simp only [Act.put, List.getElem_toArray, List.getElem_cons_zero, List.setIfInBounds_toArray, List.set_cons_zero, List.set_cons_succ]
        refine wpAnyH_take (i := 1) (v := ?_) rfl (by kernel_rfl) (by kernel_rfl) (by kernel_rfl) (fun _ _ _ h => h) (Or.inl ⟨by rfl, ?_⟩) hHeld ?_; rotate_left; (intro W hSw; obtain ⟨_, _, _⟩ := hSw; go_simp; with_reducible rfl); try simp only [Act.put, List.getElem_toArray, List.getElem_cons_succ, List.getElem_cons_zero, List.setIfInBounds_toArray, List.set_cons_zero, List.set_cons_succ]
        clear hHeld
        refine wpAnyH_ready (rs := [2]) (by kernel_rfl) (by simp) (AllReadyH.cons rfl (fun K hK => ?_) .nil)
        have HK := Lib.hid hK
        clear hK
        go_simp
        go_at_call 87
        refine (HSe.out _ HXw.out).mono ?_
        rintro e w3 ⟨rfl, hb3⟩
        have Hb3 := Lib.hid (below_then HXd.out hb3)
        have q0 := Lib.cell_of_heap (HBX.out w3 Hb3.out).1 0
        have q1 := Lib.cell_of_heap (HBX.out w3 Hb3.out).1 1
        have q2 := Lib.cell_of_heap (HBX.out w3 Hb3.out).1 2
        clear hb3
        try go_simp
        refine HK.out.out _ _ ⟨q0, q1, q2⟩ (fun hHeld => ?_)
        clear HK
        refine wpAnyH_take (i := 3) (v := ?_) rfl (by kernel_rfl) (by kernel_rfl) (by kernel_rfl) (fun _ _ _ h => h) (Or.inl ⟨by rfl, ?_⟩) hHeld ?_; rotate_left; (intro W hSw; obtain ⟨_, _, _⟩ := hSw; go_simp; with_reducible rfl); try simp only [Act.put, List.getElem_toArray, List.getElem_cons_succ, List.getElem_cons_zero, List.setIfInBounds_toArray, List.set_cons_zero, List.set_cons_succ]
        refine wpAnyH_take (i := 4) (v := ?_) rfl (by kernel_rfl) (by kernel_rfl) (by kernel_rfl) (fun _ _ _ h => h) (Or.inl ⟨by rfl, ?_⟩) hHeld ?_; rotate_left; (intro W hSw; obtain ⟨_, _, _⟩ := hSw; go_simp; with_reducible rfl); try simp only [Act.put, List.getElem_toArray, List.getElem_cons_succ, List.getElem_cons_zero, List.setIfInBounds_toArray, List.set_cons_zero, List.set_cons_succ]
        refine wpAnyH_take (i := 5) (v := undef) rfl (by kernel_rfl) (by kernel_rfl) (by kernel_rfl) (fun _ _ _ h => h) (Or.inr ⟨by rfl, rfl⟩) hHeld ?_; try simp only [Act.put, List.getElem_toArray, List.getElem_cons_succ, List.getElem_cons_zero, List.setIfInBounds_toArray, List.set_cons_zero, List.set_cons_succ]
        refine wpAnyH_take (i := 6) (v := undef) rfl (by kernel_rfl) (by kernel_rfl) (by kernel_rfl) (fun _ _ _ h => h) (Or.inr ⟨by rfl, rfl⟩) hHeld ?_; try simp only [Act.put, List.getElem_toArray, List.getElem_cons_succ, List.getElem_cons_zero, List.setIfInBounds_toArray, List.set_cons_zero, List.set_cons_succ]
        refine wpAnyH_take (i := 7) (v := undef) rfl (by kernel_rfl) (by kernel_rfl) (by kernel_rfl) (fun _ _ _ h => h) (Or.inr ⟨by rfl, rfl⟩) hHeld ?_; try simp only [Act.put, List.getElem_toArray, List.getElem_cons_succ, List.getElem_cons_zero, List.setIfInBounds_toArray, List.set_cons_zero, List.set_cons_succ]
        refine wpAnyH_take (i := 8) (v := undef) rfl (by kernel_rfl) (by kernel_rfl) (by kernel_rfl) (fun _ _ _ h => h) (Or.inr ⟨by rfl, rfl⟩) hHeld ?_; try simp only [Act.put, List.getElem_toArray, List.getElem_cons_succ, List.getElem_cons_zero, List.setIfInBounds_toArray, List.set_cons_zero, List.set_cons_succ]
        refine wpAnyH_take (i := 9) (v := undef) rfl (by kernel_rfl) (by kernel_rfl) (by kernel_rfl) (fun _ _ _ h => h) (Or.inr ⟨by rfl, rfl⟩) hHeld ?_; try simp only [Act.put, List.getElem_toArray, List.getElem_cons_succ, List.getElem_cons_zero, List.setIfInBounds_toArray, List.set_cons_zero, List.set_cons_succ]
        refine wpAnyH_take (i := 10) (v := undef) rfl (by kernel_rfl) (by kernel_rfl) (by kernel_rfl) (fun _ _ _ h => h) (Or.inr ⟨by rfl, rfl⟩) hHeld ?_; try simp only [Act.put, List.getElem_toArray, List.getElem_cons_succ, List.getElem_cons_zero, List.setIfInBounds_toArray, List.set_cons_zero, List.set_cons_succ]
        refine wpAnyH_take (i := 11) (v := undef) rfl (by kernel_rfl) (by kernel_rfl) (by kernel_rfl) (fun _ _ _ h => h) (Or.inr ⟨by rfl, rfl⟩) hHeld ?_; try simp only [Act.put, List.getElem_toArray, List.getElem_cons_succ, List.getElem_cons_zero, List.setIfInBounds_toArray, List.set_cons_zero, List.set_cons_succ]
        refine wpAnyH_take (i := 12) (v := undef) rfl (by kernel_rfl) (by kernel_rfl) (by kernel_rfl) (fun _ _ _ h => h) (Or.inr ⟨by rfl, rfl⟩) hHeld ?_; try simp only [Act.put, List.getElem_toArray, List.getElem_cons_succ, List.getElem_cons_zero, List.setIfInBounds_toArray, List.set_cons_zero, List.set_cons_succ]
        refine wpAnyH_take (i := 13) (v := undef) rfl (by kernel_rfl) (by kernel_rfl) (by kernel_rfl) (fun _ _ _ h => h) (Or.inr ⟨by rfl, rfl⟩) hHeld ?_; try simp only [Act.put, List.getElem_toArray, List.getElem_cons_succ, List.getElem_cons_zero, List.setIfInBounds_toArray, List.set_cons_zero, List.set_cons_succ]
        refine wpAnyH_take (i := 14) (v := undef) rfl (by kernel_rfl) (by kernel_rfl) (by kernel_rfl) (fun _ _ _ h => h) (Or.inr ⟨by rfl, rfl⟩) hHeld ?_; try simp only [Act.put, List.getElem_toArray, List.getElem_cons_succ, List.getElem_cons_zero, List.setIfInBounds_toArray, List.set_cons_zero, List.set_cons_succ]
        refine wpAnyH_take (i := 15) (v := undef) rfl (by kernel_rfl) (by kernel_rfl) (by kernel_rfl) (fun _ _ _ h => h) (Or.inr ⟨by rfl, rfl⟩) hHeld ?_; try simp only [Act.put, List.getElem_toArray, List.getElem_cons_succ, List.getElem_cons_zero, List.setIfInBounds_toArray, List.set_cons_zero, List.set_cons_succ]
        refine wpAnyH_take (i := 16) (v := undef) rfl (by kernel_rfl) (by kernel_rfl) (by kernel_rfl) (fun _ _ _ h => h) (Or.inr ⟨by rfl, rfl⟩) hHeld ?_; try simp only [Act.put, List.getElem_toArray, List.getElem_cons_succ, List.getElem_cons_zero, List.setIfInBounds_toArray, List.set_cons_zero, List.set_cons_succ]
        refine wpAnyH_take (i := 17) (v := undef) rfl (by kernel_rfl) (by kernel_rfl) (by kernel_rfl) (fun _ _ _ h => h) (Or.inr ⟨by rfl, rfl⟩) hHeld ?_; try simp only [Act.put, List.getElem_toArray, List.getElem_cons_succ, List.getElem_cons_zero, List.setIfInBounds_toArray, List.set_cons_zero, List.set_cons_succ]
        refine wpAnyH_take (i := 18) (v := undef) rfl (by kernel_rfl) (by kernel_rfl) (by kernel_rfl) (fun _ _ _ h => h) (Or.inr ⟨by rfl, rfl⟩) hHeld ?_; try simp only [Act.put, List.getElem_toArray, List.getElem_cons_succ, List.getElem_cons_zero, List.setIfInBounds_toArray, List.set_cons_zero, List.set_cons_succ]
        refine wpAnyH_take (i := 19) (v := undef) rfl (by kernel_rfl) (by kernel_rfl) (by kernel_rfl) (fun _ _ _ h => h) (Or.inr ⟨by rfl, rfl⟩) hHeld ?_; try simp only [Act.put, List.getElem_toArray, List.getElem_cons_succ, List.getElem_cons_zero, List.setIfInBounds_toArray, List.set_cons_zero, List.set_cons_succ]
        refine wpAnyH_take (i := 20) (v := undef) rfl (by kernel_rfl) (by kernel_rfl) (by kernel_rfl) (fun _ _ _ h => h) (Or.inr ⟨by rfl, rfl⟩) hHeld ?_; try simp only [Act.put, List.getElem_toArray, List.getElem_cons_succ, List.getElem_cons_zero, List.setIfInBounds_toArray, List.set_cons_zero, List.set_cons_succ]
        refine wpAnyH_take (i := 21) (v := undef) rfl (by kernel_rfl) (by kernel_rfl) (by kernel_rfl) (fun _ _ _ h => h) (Or.inr ⟨by rfl, rfl⟩) hHeld ?_; try simp only [Act.put, List.getElem_toArray, List.getElem_cons_succ, List.getElem_cons_zero, List.setIfInBounds_toArray, List.set_cons_zero, List.set_cons_succ]
        refine wpAnyH_take (i := 22) (v := undef) rfl (by kernel_rfl) (by kernel_rfl) (by kernel_rfl) (fun _ _ _ h => h) (Or.inr ⟨by rfl, rfl⟩) hHeld ?_; try simp only [Act.put, List.getElem_toArray, List.getElem_cons_succ, List.getElem_cons_zero, List.setIfInBounds_toArray, List.set_cons_zero, List.set_cons_succ]
        refine wpAnyH_take (i := 23) (v := undef) rfl (by kernel_rfl) (by kernel_rfl) (by kernel_rfl) (fun _ _ _ h => h) (Or.inr ⟨by rfl, rfl⟩) hHeld ?_; try simp only [Act.put, List.getElem_toArray, List.getElem_cons_succ, List.getElem_cons_zero, List.setIfInBounds_toArray, List.set_cons_zero, List.set_cons_succ]
        refine wpAnyH_take (i := 24) (v := ?_) rfl (by kernel_rfl) (by kernel_rfl) (by kernel_rfl) (fun _ _ _ h => h) (Or.inl ⟨by rfl, ?_⟩) hHeld ?_; rotate_left; (intro W hSw; obtain ⟨_, _, _⟩ := hSw; go_simp; with_reducible rfl); try simp only [Act.put, List.getElem_toArray, List.getElem_cons_succ, List.getElem_cons_zero, List.setIfInBounds_toArray, List.set_cons_zero, List.set_cons_succ]
        refine wpAnyH_done (by kernel_rfl) ?_ _
        have c0 := Lib.cell_of_heap (HBX.out w3 Hb3.out).2.1 0
        have c1 := Lib.cell_of_heap (HBX.out w3 Hb3.out).2.1 1
        have c2 := Lib.cell_of_heap (HBX.out w3 Hb3.out).2.1 2
        have g0 := Go.Joins.unfrozen_of_block (HBX.out w3 Hb3.out).2.1 0
        have g1 := Go.Joins.unfrozen_of_block (HBX.out w3 Hb3.out).2.1 1
        have g2 := Go.Joins.unfrozen_of_block (HBX.out w3 Hb3.out).2.1 2
        have hw9 := Go.Joins.block_setCell (i := 2) (Go.Joins.block_setCell (i := 1) (Go.Joins.block_setCell (i := 0) (HBX.out w3 Hb3.out).2.1 (.int .i64 0)) (.int .i64 (m : Int))) (.bool false)
        have hb9 := (((HBX.out w3 Hb3.out).2.2.setCell (p := ⟨V.heap.size, 0, none⟩) (show w.heap.size ≤ V.heap.size by have := HVs.out; omega) (.int .i64 0)).setCell (p := ⟨V.heap.size, 1, none⟩) (show w.heap.size ≤ V.heap.size by have := HVs.out; omega) (.int .i64 (m : Int))).setCell (p := ⟨V.heap.size, 2, none⟩) (show w.heap.size ≤ V.heap.size by have := HVs.out; omega) (.bool false)
        have Hw9 := Lib.hid hw9
        have Hb9 := Lib.hid hb9
        clear hw9 hb9
        go_wp2_with fail
        refine bodyPost_ret (results_cell_row rfl _ _ V.heap.size _ _ (0, 0) _ rfl Hw9.out Tryz.underlying100 rfl (by kernel_rfl)) rfl ?_
        exact ⟨rfl, Hb9.out⟩
      · have HK := Lib.hid hK
        clear hK
        go_simp
        go_at_call 42
        refine (HPa.out _ Hb1.out).mono ?_
        rintro e w' ⟨rfl, rfl⟩
        try go_simp
        refine HK.out.out _ _ trivial (fun hHeld => ?_)
        clear HK
        clear hHeld
        refine wpAnyH_ready (rs := [1]) (by kernel_rfl) (by simp) (AllReadyH.cons rfl (fun K hK => ?_) .nil)
        have HK := Lib.hid hK
        clear hK
        go_simp
        refine HK.out.out _ _ trivial (fun hHeld => ?_)
        clear HK
        refine wpAnyH_take (i := 6) (v := ?_) rfl (by kernel_rfl) (by kernel_rfl) (by kernel_rfl) (fun _ _ _ h => h) (Or.inl ⟨by rfl, ?_⟩) hHeld ?_; rotate_left; (intro W _; go_simp; with_reducible rfl); try simp only [Act.put, List.getElem_toArray, List.getElem_cons_succ, List.getElem_cons_zero, List.setIfInBounds_toArray, List.set_cons_zero, List.set_cons_succ]
        refine wpAnyH_take (i := 7) (v := ?_) rfl (by kernel_rfl) (by kernel_rfl) (by kernel_rfl) (fun _ _ _ h => h) (Or.inl ⟨by rfl, ?_⟩) hHeld ?_; rotate_left; (intro W _; go_simp; with_reducible rfl); try simp only [Act.put, List.getElem_toArray, List.getElem_cons_succ, List.getElem_cons_zero, List.setIfInBounds_toArray, List.set_cons_zero, List.set_cons_succ]
        clear hHeld
        refine wpAnyH_ready (rs := [8]) (by kernel_rfl) (by simp) (AllReadyH.cons rfl (fun K hK => ?_) .nil)
        have HK := Lib.hid hK
        clear hK
        go_simp
        refine HK.out.out _ _ trivial (fun hHeld => ?_)
        clear HK
        refine wpAnyH_done (by kernel_rfl) ?_ _
        try rw [HWk.out]
        obtain ⟨X, hX⟩ : ∃ X, w1.setCell ⟨w.heap.size, 1, none⟩ (.int .i64 (m : Int)) = X := ⟨_, rfl⟩
        clear b0 b1 b2
        have hXr : X.heap[w.heap.size]? = some (.cells #[.int .i64 0, .int .i64 (m : Int), .bool false] 100 (0, 0)) := by rw [← hX]; exact Go.Joins.block_setCell (i := 1) (HBx.out w1 Hb1.out).1 (.int .i64 (m : Int))
        have hXz : X.heap[V.heap.size]? = some (.cells #[.int .i64 0, .int .i64 0, .bool false] 100 (0, 0)) := by rw [← hX]; exact (Below.heap_setCell w1 ⟨w.heap.size, 1, none⟩ _ V.heap.size (show V.heap.size ≠ w.heap.size by have := HVs.out; omega)).trans (HBx.out w1 Hb1.out).2.1
        have hXw : Below w.heap.size w X := by rw [← hX]; exact (HBx.out w1 Hb1.out).2.2.setCell (p := ⟨w.heap.size, 1, none⟩) (Nat.le_refl _) _
        have hXs : w.heap.size < X.heap.size := (Array.getElem?_eq_some_iff.1 hXr).1
        have hXt : V.heap.size < X.heap.size := (Array.getElem?_eq_some_iff.1 hXz).1
        have HBX : Hid (∀ W, Below X.heap.size X W → W.heap[w.heap.size]? = some (.cells #[.int .i64 0, .int .i64 (m : Int), .bool false] 100 (0, 0)) ∧ W.heap[V.heap.size]? = some (.cells #[.int .i64 0, .int .i64 0, .bool false] 100 (0, 0)) ∧ Below w.heap.size w W) := fun W hW => ⟨(hW.block _ hXs).trans hXr, (hW.block _ hXt).trans hXz, below_then hXw hW⟩
        have b0 := Lib.cell_of_heap hXr 0
        have b1 := Lib.cell_of_heap hXr 1
        have b2 := Lib.cell_of_heap hXr 2
        have HXd : Hid (Below X.heap.size X X.drew) := (Below.refl _ _).drew
        have HXw : Hid (Below w.heap.size w X.drew) := hXw.drew
        rw [hX]
        clear hX hXr hXz hXw hXs hXt q0 q1 q2 f1
        go_wp2_with fail
        refine wp_region_held_drew (S := fun W => W.cell? ⟨w.heap.size, 0, none⟩ = some (.int .i64 0) ∧ W.cell? ⟨w.heap.size, 1, none⟩ = some (.int .i64 (m : Int)) ∧ W.cell? ⟨w.heap.size, 2, none⟩ = some (.bool false)) (by kernel_rfl) ⟨b0, b1, b2⟩ (fun hHeld => ?_)
        refine wpAnyH_take (i := 0) (v := ?_) rfl (by kernel_rfl) (by kernel_rfl) (by kernel_rfl) (fun _ _ _ h => h) (Or.inl ⟨by rfl, ?_⟩) hHeld ?_; rotate_left; (intro W hSw; obtain ⟨_, _, _⟩ := hSw; go_simp; with_reducible rfl); try simp only [Act.put, List.getElem_toArray, List.getElem_cons_zero, List.setIfInBounds_toArray, List.set_cons_zero, List.set_cons_succ]
        refine wpAnyH_take (i := 1) (v := ?_) rfl (by kernel_rfl) (by kernel_rfl) (by kernel_rfl) (fun _ _ _ h => h) (Or.inl ⟨by rfl, ?_⟩) hHeld ?_; rotate_left; (intro W hSw; obtain ⟨_, _, _⟩ := hSw; go_simp; with_reducible rfl); try simp only [Act.put, List.getElem_toArray, List.getElem_cons_succ, List.getElem_cons_zero, List.setIfInBounds_toArray, List.set_cons_zero, List.set_cons_succ]
        clear hHeld
        refine wpAnyH_ready (rs := [2]) (by kernel_rfl) (by simp) (AllReadyH.cons rfl (fun K hK => ?_) .nil)
        have HK := Lib.hid hK
        clear hK
        go_simp
        go_at_call 87
        refine (HSe.out _ HXw.out).mono ?_
        rintro e w3 ⟨rfl, hb3⟩
        have Hb3 := Lib.hid (below_then HXd.out hb3)
        have q0 := Lib.cell_of_heap (HBX.out w3 Hb3.out).1 0
        have q1 := Lib.cell_of_heap (HBX.out w3 Hb3.out).1 1
        have q2 := Lib.cell_of_heap (HBX.out w3 Hb3.out).1 2
        clear hb3
        try go_simp
        refine HK.out.out _ _ ⟨q0, q1, q2⟩ (fun hHeld => ?_)
        clear HK
        refine wpAnyH_take (i := 3) (v := ?_) rfl (by kernel_rfl) (by kernel_rfl) (by kernel_rfl) (fun _ _ _ h => h) (Or.inl ⟨by rfl, ?_⟩) hHeld ?_; rotate_left; (intro W hSw; obtain ⟨_, _, _⟩ := hSw; go_simp; with_reducible rfl); try simp only [Act.put, List.getElem_toArray, List.getElem_cons_succ, List.getElem_cons_zero, List.setIfInBounds_toArray, List.set_cons_zero, List.set_cons_succ]
        refine wpAnyH_take (i := 4) (v := ?_) rfl (by kernel_rfl) (by kernel_rfl) (by kernel_rfl) (fun _ _ _ h => h) (Or.inl ⟨by rfl, ?_⟩) hHeld ?_; rotate_left; (intro W hSw; obtain ⟨_, _, _⟩ := hSw; go_simp; with_reducible rfl); try simp only [Act.put, List.getElem_toArray, List.getElem_cons_succ, List.getElem_cons_zero, List.setIfInBounds_toArray, List.set_cons_zero, List.set_cons_succ]
        refine wpAnyH_take (i := 5) (v := undef) rfl (by kernel_rfl) (by kernel_rfl) (by kernel_rfl) (fun _ _ _ h => h) (Or.inr ⟨by rfl, rfl⟩) hHeld ?_; try simp only [Act.put, List.getElem_toArray, List.getElem_cons_succ, List.getElem_cons_zero, List.setIfInBounds_toArray, List.set_cons_zero, List.set_cons_succ]
        refine wpAnyH_take (i := 6) (v := undef) rfl (by kernel_rfl) (by kernel_rfl) (by kernel_rfl) (fun _ _ _ h => h) (Or.inr ⟨by rfl, rfl⟩) hHeld ?_; try simp only [Act.put, List.getElem_toArray, List.getElem_cons_succ, List.getElem_cons_zero, List.setIfInBounds_toArray, List.set_cons_zero, List.set_cons_succ]
        refine wpAnyH_take (i := 7) (v := undef) rfl (by kernel_rfl) (by kernel_rfl) (by kernel_rfl) (fun _ _ _ h => h) (Or.inr ⟨by rfl, rfl⟩) hHeld ?_; try simp only [Act.put, List.getElem_toArray, List.getElem_cons_succ, List.getElem_cons_zero, List.setIfInBounds_toArray, List.set_cons_zero, List.set_cons_succ]
        refine wpAnyH_take (i := 8) (v := undef) rfl (by kernel_rfl) (by kernel_rfl) (by kernel_rfl) (fun _ _ _ h => h) (Or.inr ⟨by rfl, rfl⟩) hHeld ?_; try simp only [Act.put, List.getElem_toArray, List.getElem_cons_succ, List.getElem_cons_zero, List.setIfInBounds_toArray, List.set_cons_zero, List.set_cons_succ]
        refine wpAnyH_take (i := 9) (v := undef) rfl (by kernel_rfl) (by kernel_rfl) (by kernel_rfl) (fun _ _ _ h => h) (Or.inr ⟨by rfl, rfl⟩) hHeld ?_; try simp only [Act.put, List.getElem_toArray, List.getElem_cons_succ, List.getElem_cons_zero, List.setIfInBounds_toArray, List.set_cons_zero, List.set_cons_succ]
        refine wpAnyH_take (i := 10) (v := undef) rfl (by kernel_rfl) (by kernel_rfl) (by kernel_rfl) (fun _ _ _ h => h) (Or.inr ⟨by rfl, rfl⟩) hHeld ?_; try simp only [Act.put, List.getElem_toArray, List.getElem_cons_succ, List.getElem_cons_zero, List.setIfInBounds_toArray, List.set_cons_zero, List.set_cons_succ]
        refine wpAnyH_take (i := 11) (v := undef) rfl (by kernel_rfl) (by kernel_rfl) (by kernel_rfl) (fun _ _ _ h => h) (Or.inr ⟨by rfl, rfl⟩) hHeld ?_; try simp only [Act.put, List.getElem_toArray, List.getElem_cons_succ, List.getElem_cons_zero, List.setIfInBounds_toArray, List.set_cons_zero, List.set_cons_succ]
        refine wpAnyH_take (i := 12) (v := undef) rfl (by kernel_rfl) (by kernel_rfl) (by kernel_rfl) (fun _ _ _ h => h) (Or.inr ⟨by rfl, rfl⟩) hHeld ?_; try simp only [Act.put, List.getElem_toArray, List.getElem_cons_succ, List.getElem_cons_zero, List.setIfInBounds_toArray, List.set_cons_zero, List.set_cons_succ]
        refine wpAnyH_take (i := 13) (v := undef) rfl (by kernel_rfl) (by kernel_rfl) (by kernel_rfl) (fun _ _ _ h => h) (Or.inr ⟨by rfl, rfl⟩) hHeld ?_; try simp only [Act.put, List.getElem_toArray, List.getElem_cons_succ, List.getElem_cons_zero, List.setIfInBounds_toArray, List.set_cons_zero, List.set_cons_succ]
        refine wpAnyH_take (i := 14) (v := undef) rfl (by kernel_rfl) (by kernel_rfl) (by kernel_rfl) (fun _ _ _ h => h) (Or.inr ⟨by rfl, rfl⟩) hHeld ?_; try simp only [Act.put, List.getElem_toArray, List.getElem_cons_succ, List.getElem_cons_zero, List.setIfInBounds_toArray, List.set_cons_zero, List.set_cons_succ]
        refine wpAnyH_take (i := 15) (v := undef) rfl (by kernel_rfl) (by kernel_rfl) (by kernel_rfl) (fun _ _ _ h => h) (Or.inr ⟨by rfl, rfl⟩) hHeld ?_; try simp only [Act.put, List.getElem_toArray, List.getElem_cons_succ, List.getElem_cons_zero, List.setIfInBounds_toArray, List.set_cons_zero, List.set_cons_succ]
        refine wpAnyH_take (i := 16) (v := undef) rfl (by kernel_rfl) (by kernel_rfl) (by kernel_rfl) (fun _ _ _ h => h) (Or.inr ⟨by rfl, rfl⟩) hHeld ?_; try simp only [Act.put, List.getElem_toArray, List.getElem_cons_succ, List.getElem_cons_zero, List.setIfInBounds_toArray, List.set_cons_zero, List.set_cons_succ]
        refine wpAnyH_take (i := 17) (v := undef) rfl (by kernel_rfl) (by kernel_rfl) (by kernel_rfl) (fun _ _ _ h => h) (Or.inr ⟨by rfl, rfl⟩) hHeld ?_; try simp only [Act.put, List.getElem_toArray, List.getElem_cons_succ, List.getElem_cons_zero, List.setIfInBounds_toArray, List.set_cons_zero, List.set_cons_succ]
        refine wpAnyH_take (i := 18) (v := undef) rfl (by kernel_rfl) (by kernel_rfl) (by kernel_rfl) (fun _ _ _ h => h) (Or.inr ⟨by rfl, rfl⟩) hHeld ?_; try simp only [Act.put, List.getElem_toArray, List.getElem_cons_succ, List.getElem_cons_zero, List.setIfInBounds_toArray, List.set_cons_zero, List.set_cons_succ]
        refine wpAnyH_take (i := 19) (v := undef) rfl (by kernel_rfl) (by kernel_rfl) (by kernel_rfl) (fun _ _ _ h => h) (Or.inr ⟨by rfl, rfl⟩) hHeld ?_; try simp only [Act.put, List.getElem_toArray, List.getElem_cons_succ, List.getElem_cons_zero, List.setIfInBounds_toArray, List.set_cons_zero, List.set_cons_succ]
        refine wpAnyH_take (i := 20) (v := undef) rfl (by kernel_rfl) (by kernel_rfl) (by kernel_rfl) (fun _ _ _ h => h) (Or.inr ⟨by rfl, rfl⟩) hHeld ?_; try simp only [Act.put, List.getElem_toArray, List.getElem_cons_succ, List.getElem_cons_zero, List.setIfInBounds_toArray, List.set_cons_zero, List.set_cons_succ]
        refine wpAnyH_take (i := 21) (v := undef) rfl (by kernel_rfl) (by kernel_rfl) (by kernel_rfl) (fun _ _ _ h => h) (Or.inr ⟨by rfl, rfl⟩) hHeld ?_; try simp only [Act.put, List.getElem_toArray, List.getElem_cons_succ, List.getElem_cons_zero, List.setIfInBounds_toArray, List.set_cons_zero, List.set_cons_succ]
        refine wpAnyH_take (i := 22) (v := undef) rfl (by kernel_rfl) (by kernel_rfl) (by kernel_rfl) (fun _ _ _ h => h) (Or.inr ⟨by rfl, rfl⟩) hHeld ?_; try simp only [Act.put, List.getElem_toArray, List.getElem_cons_succ, List.getElem_cons_zero, List.setIfInBounds_toArray, List.set_cons_zero, List.set_cons_succ]
        refine wpAnyH_take (i := 23) (v := undef) rfl (by kernel_rfl) (by kernel_rfl) (by kernel_rfl) (fun _ _ _ h => h) (Or.inr ⟨by rfl, rfl⟩) hHeld ?_; try simp only [Act.put, List.getElem_toArray, List.getElem_cons_succ, List.getElem_cons_zero, List.setIfInBounds_toArray, List.set_cons_zero, List.set_cons_succ]
        refine wpAnyH_take (i := 24) (v := ?_) rfl (by kernel_rfl) (by kernel_rfl) (by kernel_rfl) (fun _ _ _ h => h) (Or.inl ⟨by rfl, ?_⟩) hHeld ?_; rotate_left; (intro W hSw; obtain ⟨_, _, _⟩ := hSw; go_simp; with_reducible rfl); try simp only [Act.put, List.getElem_toArray, List.getElem_cons_succ, List.getElem_cons_zero, List.setIfInBounds_toArray, List.set_cons_zero, List.set_cons_succ]
        refine wpAnyH_done (by kernel_rfl) ?_ _
        have c0 := Lib.cell_of_heap (HBX.out w3 Hb3.out).2.1 0
        have c1 := Lib.cell_of_heap (HBX.out w3 Hb3.out).2.1 1
        have c2 := Lib.cell_of_heap (HBX.out w3 Hb3.out).2.1 2
        have g0 := Go.Joins.unfrozen_of_block (HBX.out w3 Hb3.out).2.1 0
        have g1 := Go.Joins.unfrozen_of_block (HBX.out w3 Hb3.out).2.1 1
        have g2 := Go.Joins.unfrozen_of_block (HBX.out w3 Hb3.out).2.1 2
        have hw9 := Go.Joins.block_setCell (i := 2) (Go.Joins.block_setCell (i := 1) (Go.Joins.block_setCell (i := 0) (HBX.out w3 Hb3.out).2.1 (.int .i64 0)) (.int .i64 (m : Int))) (.bool false)
        have hb9 := (((HBX.out w3 Hb3.out).2.2.setCell (p := ⟨V.heap.size, 0, none⟩) (show w.heap.size ≤ V.heap.size by have := HVs.out; omega) (.int .i64 0)).setCell (p := ⟨V.heap.size, 1, none⟩) (show w.heap.size ≤ V.heap.size by have := HVs.out; omega) (.int .i64 (m : Int))).setCell (p := ⟨V.heap.size, 2, none⟩) (show w.heap.size ≤ V.heap.size by have := HVs.out; omega) (.bool false)
        have Hw9 := Lib.hid hw9
        have Hb9 := Lib.hid hb9
        clear hw9 hb9
        go_wp2_with fail
        refine bodyPost_ret (results_cell_row rfl _ _ V.heap.size _ _ (0, 0) _ rfl Hw9.out Tryz.underlying100 rfl (by kernel_rfl)) rfl ?_
        exact ⟨rfl, Hb9.out⟩

end Go.Proofs.YtiblamapjekdeaaGreat
