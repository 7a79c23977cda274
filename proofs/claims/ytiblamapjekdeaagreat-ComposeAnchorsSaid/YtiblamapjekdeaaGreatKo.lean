/- The reference's reader at the example: list. Condition: the reader stands at the example's line. -/
import Derived.Test.YtiblamapjekdeaaGreatKl
namespace Go.Proofs.YtiblamapjekdeaaGreat
open Go.RowKit
attribute [local go_sem] Oper.semAt_some
/-- The number in a cell. -/
def mzc : Option Value → Nat
  | some (.int _ z) => (6 - z).toNat
  | _ => 0
set_option maxRecDepth 100000 in
set_option maxHeartbeats 4000000 in
theorem list_ex (p : RdP) (B : Nat) (an : ByteArray) (so : Bool) (dp : Int) (ov : Value) (L : List Ev) (w : World) (h : Ro w p B ov L) (hL : L.length ≤ 900) (hd : ¬ 200 < dp) :
    Calls Tryz.prog 101 #[.pointer (some ⟨p.rb, 0, none⟩), .agg #[.int .i64 0, .int .i64 3, .bool false], .agg #[.string an, .string ⟨#[]⟩, .bool so], .int .i64 dp] w
      (Told p B w (L ++ [seqE an, aliasE, endE]) (.agg #[.int .i64 0, .int .i64 7, .bool false])) := by
  obtain ⟨A, c, rfl⟩ := h.ov
  obtain ⟨V1, hV1, hb1, hr1, hs1⟩ := box3 w (.int .i64 0) (.int .i64 3) (.bool false) 100
  obtain ⟨V2, hV2, hb2, hr2, hs2⟩ := box3 V1 (.string an) (.string ⟨#[]⟩) (.bool so) 103
  obtain ⟨V3, hV3, hb3, hr3, hs3⟩ := box3 V2 (.int .i64 0) (.int .i64 0) (.bool false) 100
  have q1 := (hb3.block _ (by omega)).trans ((hb2.block _ (by omega)).trans hr1)
  have q2 := (hb3.block _ (by omega)).trans hr2
  obtain ⟨b0, b1, b2, _⟩ := B3.of q1
  have hbw := below_then (below_then hb1 hb2) hb3
  have HBx : Hid (∀ W, Below V3.heap.size V3 W → W.heap[w.heap.size]? = some (krow (.int .i64 3)) ∧ W.heap[V1.heap.size]? = some (.cells #[.string an, .string ⟨#[]⟩, .bool so] 103 (0, 0)) ∧ W.heap[V2.heap.size]? = some zrow ∧ Below w.heap.size w W ∧ Ro W p B (.slice A L.length c) L) := fun W hW =>
    ⟨(hW.block _ (by omega)).trans q1, (hW.block _ (by omega)).trans q2, (hW.block _ (by omega)).trans hr3, below_then hbw hW, h.below (below_then hbw hW)⟩
  have hV := h.below hbw
  have HSe : Hid (Calls Tryz.prog 87 #[.pointer (some ⟨p.rb, 0, none⟩), .agg #[.int .i64 0, .int .i64 3, .bool false]] V3 fun e w' => e = .returned (.int .i64 91) ∧ Below V3.heap.size V3 w') := see_any p 3 _ V3 hV.rd (by omega)
  have HTo : Hid (∀ W, Calls Tryz.prog 89 #[.agg #[.int .i64 0, .int .i64 3, .bool false], .int .i64 1] W fun e w' => e = .returned (.agg #[.int .i64 0, .int .i64 4, .bool false]) ∧ Below W.heap.size W w') := fun W => to_any 3 1 4 W (by omega) (by omega)
  have HTo7 : Hid (∀ W, Calls Tryz.prog 89 #[.agg #[.int .i64 0, .int .i64 6, .bool false], .int .i64 1] W fun e w' => e = .returned (.agg #[.int .i64 0, .int .i64 7, .bool false]) ∧ Below W.heap.size W w') := fun W => to_any 6 1 7 W (by omega) (by omega)
  have HOn4 : Hid (∀ W ov' M, Ro W p B ov' M → Calls Tryz.prog 117 #[.pointer (some ⟨p.rb, 0, none⟩), .agg #[.int .i64 0, .int .i64 4, .bool false]] W fun e w' => e = .returned (.agg #[.int .i64 0, .int .i64 4, .bool false]) ∧ Below W.heap.size W w') := fun W ov' M hW =>
    on_any p 4 4 ov' W hW.rd (by omega) fun W' hR => past_zero p 4 ov' W' hR (by omega) (by decide) (by decide)
  have HOn6 : Hid (∀ W ov' M, Ro W p B ov' M → Calls Tryz.prog 117 #[.pointer (some ⟨p.rb, 0, none⟩), .agg #[.int .i64 0, .int .i64 6, .bool false]] W fun e w' => e = .returned (.agg #[.int .i64 0, .int .i64 6, .bool false]) ∧ Below W.heap.size W w') := fun W ov' M hW =>
    on_any p 6 6 ov' W hW.rd (by omega) fun W' hR => past_zero p 6 ov' W' hR (by omega) (by decide) (by decide)
  have HSe4 : Hid (∀ W ov' M, Ro W p B ov' M → Calls Tryz.prog 87 #[.pointer (some ⟨p.rb, 0, none⟩), .agg #[.int .i64 0, .int .i64 4, .bool false]] W fun e w' => e = .returned (.int .i64 42) ∧ Below W.heap.size W w') := fun W ov' M hW => see_any p 4 ov' W hW.rd (by omega)
  have HSe6 : Hid (∀ W ov' M, Ro W p B ov' M → Calls Tryz.prog 87 #[.pointer (some ⟨p.rb, 0, none⟩), .agg #[.int .i64 0, .int .i64 6, .bool false]] W fun e w' => e = .returned (.int .i64 93) ∧ Below W.heap.size W w') := fun W ov' M hW => see_any p 6 ov' W hW.rd (by omega)
  have HIn : Hid (∀ W ov' M, Ro W p B ov' M → M.length ≤ 1000 → Calls Tryz.prog 119 #[.pointer (some ⟨p.rb, 0, none⟩), .agg #[.int .i64 0, .int .i64 4, .bool false], .int .i64 dp] W (Told p B W (M ++ [aliasE]) (.agg #[.int .i64 0, .int .i64 6, .bool false]))) := fun W ov' M hW hM => inSeq_star p B dp ov' M W hW hM
  have HB : Hid (B ≤ w.heap.size) := h.b6
  have hrlt := h.rd.lt
  have HVs : Hid (w.heap.size ≤ V2.heap.size ∧ V1.heap.size ≠ p.rb ∧ V2.heap.size ≠ p.rb ∧ V2.heap.size ≠ w.heap.size) := ⟨by omega, by omega, by omega, by omega⟩
  have hne : ¬ w.heap.size = p.rb := by omega
  clear hrlt hs1 hs2 hs3 hb1 hb2 hb3 h hV q1 q2 hr1 hr2 hr3 hbw
  go_enter Tryz.func101, Tryz.ntmps101
  go_wp2_with (first
    | (go_at_call 87; refine HSe.out.mono ?_; rintro e w1 ⟨rfl, hb1⟩; obtain ⟨x0, x1, _⟩ := B3.of (HBx.out w1 hb1).2.1; have Hb1 := Lib.hid hb1; clear hb1 b0 b1 b2))
  have k4 := Lib.cell_of_heap (HBx.out w1 Hb1.out).2.2.2.2.rd.row 4
  obtain ⟨A1, c1, w2, hrun, hsay⟩ := run_say (W := w1) (Wx := (w1.alloc (.cells (seqE an).row 41)).drew) ((Below.refl _ _).alloc (Nat.le_refl _) _).drew w1.heap.size (e := seqE an) (heap_alloc_new w1 _) (HBx.out w1 Hb1.out).2.2.2.2 (by omega)
  obtain ⟨s4, z4⟩ := hsay.cell (HBx.out w1 Hb1.out).2.2.2.2
  have k4' : (w1.alloc (.cells #[.int .i64 3, .string ⟨#[]⟩, .string ⟨#[]⟩, .string an, .int .i64 0, .bool true] 41)).cell? ⟨p.rb, 4, none⟩ = some (.slice A L.length c) := ((((Below.refl _ w1).alloc (Nat.le_refl _) _).cell (p := ⟨p.rb, 4, none⟩) (HBx.out w1 Hb1.out).2.2.2.2.rd.lt).trans k4)
  apply wp_still3 (w2 := w2.setCell ⟨p.rb, 4, none⟩ (.slice A1 (L.length + 1) c1))
  · go_region_law (first | (refine step_appT rfl _ _ rfl (.slice A L.length c) _ rfl rfl hrun ?_))
    all_goals exact ⟨rfl, rfl⟩
  have hst := hsay.stored (HBx.out w1 Hb1.out).2.2.2.2
  obtain ⟨X, hX⟩ : ∃ X, w2.setCell ⟨p.rb, 4, none⟩ (.slice A1 (L.length + 1) c1) = X := ⟨_, rfl⟩
  rw [hX] at hst ⊢
  have HX : Hid (LSt p B w w.heap.size V2.heap.size X (.int .i64 3) (.slice A1 (L.length + 1) c1) (L ++ [seqE an])) :=
    ⟨hst.2.row (HBx.out w1 Hb1.out).1 rfl hne, hst.2.row (HBx.out w1 Hb1.out).2.2.1 rfl HVs.out.2.2.1, Wr.pre (HBx.out w1 Hb1.out).2.2.2.1 hst.2, hst.1⟩
  clear hX hst hsay hrun k4 k4' s4 z4 x0 x1
  obtain ⟨b0, b1, b2, _⟩ := B3.of HX.out.box
  go_wp2_with (first
    | (go_at_call 89; refine (HTo.out X).mono ?_; rintro e w3 ⟨rfl, hb3⟩; have Hb3 := Lib.hid hb3; clear hb3)
    | (go_at_call 117; refine (HOn4.out w3 _ _ (HX.out.ro.below Hb3.out)).mono ?_; rintro e w4 ⟨rfl, hb4⟩; obtain ⟨Y, hY, ⟨d0, d1, d2, g0, g1, g2⟩, hYs⟩ := (HX.out.below (below_then Hb3.out hb4)).put HVs.out.2.2.2 HB.out (Nat.le_refl _) (.int .i64 4); have HY := Lib.hid hYs; clear hb4 hYs))
  clear b0 b1 b2 d0 d1 d2 g0 g1 g2 hY hV1 hV2 hV3 HSe HX Hb1 Hb3 HBx
  go_loopw [] (fun wr => ∃ (k : Nat) (M : List Ev) (ov' : Value), Hid (LSt p B w w.heap.size V2.heap.size wr (.int .i64 k) ov' M) ∧ Hid ((k = 4 ∧ M = L ++ [seqE an]) ∨ (k = 6 ∧ M = L ++ [seqE an] ++ [aliasE]))) (fun wr => mzc (wr.cell? ⟨w.heap.size, 1, none⟩))
  case atStart => exact ⟨4, _, _, HY.out, .inl ⟨rfl, rfl⟩⟩
  case round =>
    obtain ⟨k, M, ov', HW, HK⟩ := hrel
    have f3 := HW.out.ro.rd.flt
    obtain ⟨b0, b1, b2, _⟩ := B3.of HW.out.box
    rcases HK.out with ⟨rfl, rfl⟩ | ⟨rfl, rfl⟩
    · clear HK
      go_wp2_with (first
        | (go_at_call 87; refine (HSe6.out w8 _ _ H8.out.ro).mono ?_; rintro e w9 ⟨rfl, hb9⟩; have H9 := Lib.hid (H8.out.below hb9); obtain ⟨t0, t1, t2, _⟩ := B3.of H9.out.box; clear hb9)
        | (go_at_call 87; refine (HSe6.out Y7 _ _ H7.out.ro).mono ?_; rintro e w8 ⟨rfl, hb8⟩; have H8 := Lib.hid (H7.out.below hb8); obtain ⟨r0, r1, r2, _⟩ := B3.of H8.out.box; clear hb8)
        | (go_at_call 87; refine (HSe4.out wr _ _ HW.out.ro).mono ?_; rintro e w5 ⟨rfl, hb5⟩; have H5 := Lib.hid (HW.out.below hb5); obtain ⟨c0, c1, c2, _⟩ := B3.of H5.out.box; clear hb5)
        | (go_at_call 119; refine (HIn.out w5 _ _ H5.out.ro (by simp; omega)).mono ?_; rintro e w6 ⟨rfl, ov6, hro6, hwr6⟩; obtain ⟨Y6, hY6, ⟨d0, d1, d2, g0, g1, g2⟩, hs6⟩ := (H5.out.told hwr6 hro6 hne HVs.out.2.2.1).put HVs.out.2.2.2 HB.out (Nat.le_refl _) (.int .i64 6); obtain ⟨m0, m1, m2, _⟩ := B3.of hs6.box; have H6 := Lib.hid hs6; clear hs6 hro6 hwr6)
        | (go_at_call 117; refine (HOn6.out Y6 _ _ H6.out.ro).mono ?_; rintro e w7 ⟨rfl, hb7⟩; obtain ⟨Y7, hY7, ⟨n0, n1, n2, k0, k1, k2⟩, hs7⟩ := (H6.out.below hb7).put HVs.out.2.2.2 HB.out (Nat.le_refl _) (.int .i64 6); obtain ⟨o0, o1, o2, _⟩ := B3.of hs7.box; have H7 := Lib.hid hs7; clear hs7 hb7))
      go_roundw
      case rel => exact ⟨6, _, _, H9.out, .inr ⟨rfl, rfl⟩⟩
      case measure => rw [b1, t1]; decide
    · clear HK
      have hl2 : (L ++ [seqE an] ++ [aliasE]).length = L.length + 1 + 1 := by simp
      obtain ⟨A2, c2', hov⟩ := HW.out.ro.ov
      rw [hl2] at hov
      subst hov
      have Hl2 := Lib.hid hl2
      clear hl2
      go_wp2_with (first
        | (go_at_call 87; refine (HSe6.out wr _ _ HW.out.ro).mono ?_; rintro e w5 ⟨rfl, hb5⟩; have H5 := Lib.hid (HW.out.below hb5); obtain ⟨c0, c1, c2, _⟩ := B3.of H5.out.box; have k4 := Lib.cell_of_heap H5.out.ro.rd.row 4; clear hb5)
        | (at_builtin; refine wpList_say rfl _ _ rfl p B _ _ endE H5.out.ro (by rfl) (by simp; omega) w5.heap.size rfl (by rfl) ?_; intro v' w6 hsay; obtain ⟨A5, c5, hv5⟩ := hsay.form; rw [Hl2.out] at hv5; subst hv5; obtain ⟨s4, z4⟩ := hsay.cell H5.out.ro; obtain ⟨d0, d1, d2, _⟩ := B3.of (hsay.wr.row H5.out.box rfl hne); have Hsay := Lib.hid hsay; clear hsay)
        | (go_at_call 89; obtain ⟨Z, hZ⟩ : ∃ Z, w6.setCell ⟨p.rb, 4, none⟩ (.slice A5 (L.length + 1 + 1 + 1) c5) = Z := ⟨_, rfl⟩; have hst := Hsay.out.stored H5.out.ro; rw [hZ] at hst ⊢; refine (HTo7.out Z).mono ?_; rintro e w7 ⟨rfl, hb7⟩; have H7 := Lib.hid ((H5.out.told hst.2 hst.1 hne HVs.out.2.2.1).below hb7); obtain ⟨m0, m1, m2, k0, k1, k2⟩ := B3.of H7.out.zero; clear hZ hst hb7))
      have hz := H7.out.zero
      refine bodyPost_ret (results_cell_row rfl _ _ V2.heap.size _ _ (0, 0) _ rfl (put3 hz) Tryz.underlying100 rfl (by kernel_rfl)) rfl ?_
      have hro := H7.out.ro.put3 (x := .int .i64 0) (y := .int .i64 7) (z := .bool false) hz rfl (Nat.le_trans HB.out HVs.out.1)
      rw [List.append_assoc, List.append_assoc] at hro
      exact ⟨rfl, _, hro, H7.out.wr.post (below_put3 (Below.refl _ _) HVs.out.1)⟩
end Go.Proofs.YtiblamapjekdeaaGreat
