/- The reference's reader at the example: content at the list. Condition: the reader stands at the example's line. -/
import Derived.Test.YtiblamapjekdeaaGreatKo
namespace Go.Proofs.YtiblamapjekdeaaGreat
open Go.RowKit
attribute [local go_sem] Oper.semAt_some
set_option maxRecDepth 100000 in
set_option maxHeartbeats 4000000 in
theorem content_list (p : RdP) (B j : Nat) (an : ByteArray) (so : Bool) (ov : Value) (L : List Ev) (w : World) (h : Ro w p B ov L) (hL : L.length ≤ 900) :
    Calls Tryz.prog 90 #[.pointer (some ⟨p.rb, 0, none⟩), .agg #[.int .i64 0, .int .i64 3, .bool false], plc j, .agg #[.string an, .string ⟨#[]⟩, .bool so], .int .i64 0] w
      (Told p B w (L ++ [seqE an, aliasE, endE]) (.tuple #[.agg #[.int .i64 0, .int .i64 7, .bool false], .bool true])) := by
  obtain ⟨V1, hV1, hb1, hr1, hs1⟩ := box3 w (.int .i64 0) (.int .i64 3) (.bool false) 100
  obtain ⟨V2, hV2, hb2, hr2, hs2⟩ := box3 V1 (.int .i64 0) (.int .i64 (j : Int)) (.bool false) 100
  obtain ⟨V3, hV3, hb3, hr3, hs3⟩ := box3 V2 (.string an) (.string ⟨#[]⟩) (.bool so) 103
  obtain ⟨V4, hV4, hb4, hr4, hs4⟩ := box3 V3 (.int .i64 0) (.int .i64 0) (.bool false) 100
  have q1 := (hb4.block _ (by omega)).trans ((hb3.block _ (by omega)).trans ((hb2.block _ (by omega)).trans hr1))
  have q3 := (hb4.block _ (by omega)).trans hr3
  have hbw : Below w.heap.size w V4 := below_then (below_then (below_then hb1 hb2) hb3) hb4
  have HBx : Hid (∀ W, Below V4.heap.size V4 W → LSt p B w w.heap.size V3.heap.size W (.int .i64 3) ov L ∧ B3 W w.heap.size (.int .i64 0) (.int .i64 3) (.bool false) ∧ B3 W V2.heap.size (.string an) (.string ⟨#[]⟩) (.bool so)) := fun W hW =>
    have e1 := (hW.block _ (by omega)).trans q1
    have e3 := (hW.block _ (by omega)).trans q3
    have e4 := (hW.block _ (by omega)).trans hr4
    ⟨⟨e1, e4, Wr.of (below_then hbw hW) (Nat.le_refl _), h.below (below_then hbw hW)⟩, .of e1, .of e3⟩
  have hVr := h.below hbw
  obtain ⟨_, ⟨b0, b1, b2, _⟩, ⟨a0, a1, a2, _⟩⟩ := HBx.out V4 (Below.refl _ _)
  have hRe := rest_any p 3 ov V4 hVr.rd (by omega)
  obtain ⟨rv, hrv⟩ : ∃ z, restV p 3 = z := ⟨_, rfl⟩
  rw [hrv] at hRe
  have HRe : Hid (Calls Tryz.prog 67 #[.pointer (some ⟨p.rb, 0, none⟩), .agg #[.int .i64 0, .int .i64 3, .bool false]] V4 fun e w' => e = .returned rv ∧ Below V4.heap.size V4 w') := hRe
  have HSe : Hid (∀ W, Below V4.heap.size V4 W → Calls Tryz.prog 87 #[.pointer (some ⟨p.rb, 0, none⟩), .agg #[.int .i64 0, .int .i64 3, .bool false]] W fun e w' => e = .returned (.int .i64 91) ∧ Below V4.heap.size V4 w') := fun W hW => (see_any p 3 ov W (hVr.rd.below hW) (by omega)).mono fun e w' h => ⟨h.1, below_then hW h.2⟩
  have HLi : Hid (∀ W, Ro W p B ov L → Calls Tryz.prog 101 #[.pointer (some ⟨p.rb, 0, none⟩), .agg #[.int .i64 0, .int .i64 3, .bool false], .agg #[.string an, .string ⟨#[]⟩, .bool so], .int .i64 1] W (Told p B W (L ++ [seqE an, aliasE, endE]) (.agg #[.int .i64 0, .int .i64 7, .bool false]))) := fun W hW => list_ex p B an so 1 ov L W hW hL (by omega)
  have hrlt := h.rd.lt
  have HVs : Hid (w.heap.size ≤ V3.heap.size ∧ w.heap.size ≠ p.rb ∧ V3.heap.size ≠ p.rb) := ⟨by omega, by omega, by omega⟩
  have HB : Hid (B ≤ w.heap.size) := h.b6
  clear h hRe hVr hbw hr1 hr2 hr3 hr4 hb1 hb2 hb3 hb4 hs1 hs2 hs3 hs4 q1 q3 hL hrlt hrv
  go_enter Tryz.func90, Tryz.ntmps90
  go_wp2_with (first
    | (go_at_call 67; refine HRe.out.mono ?_; rintro e w1 ⟨rfl, hb1⟩; obtain ⟨_, ⟨c0, c1, c2, _⟩, _⟩ := HBx.out w1 hb1; have Hb1 := Lib.hid hb1; clear hb1)
    | (go_at_call 87; refine (HSe.out _ Hb1.out).mono ?_; rintro e w2 ⟨rfl, hb2⟩; obtain ⟨hs2, ⟨d0, d1, d2, _⟩, ⟨e0, e1, e2, _⟩⟩ := HBx.out w2 hb2; have H2 := Lib.hid hs2; clear hb2 hs2)
    | (go_at_call 101; refine (HLi.out w2 H2.out.ro).mono ?_; rintro e w3 ⟨rfl, ov3, hro3, hwr3⟩; have H3 := Lib.hid (H2.out.told hwr3 hro3 HVs.out.2.1 HVs.out.2.2); obtain ⟨f0, f1, f2, g0, g1, g2⟩ := B3.of H3.out.zero; clear hro3 hwr3))
  have hz := H3.out.zero
  refine bodyPost_ret (results_row_tmp rfl _ _ V3.heap.size _ _ (0, 0) _ rfl (put3 hz) Tryz.underlying100 rfl (by kernel_rfl)) rfl ?_
  exact ⟨rfl, _, H3.out.ro.put3 hz rfl (Nat.le_trans HB.out HVs.out.1), H3.out.wr.post (below_put3 (Below.refl _ _) HVs.out.1)⟩
end Go.Proofs.YtiblamapjekdeaaGreat
/- The reference's reader at the example: leaf. Condition: the reader stands at the example's line. -/
namespace Go.Proofs.YtiblamapjekdeaaGreat
open Go.RowKit
attribute [local go_sem] Oper.semAt_some
/-- What stands there already is stored. -/
theorem heap_same {W : World} {b i : Nat} {cs : Array Value} {t : TypeId} {fr : Nat × Nat} {v : Value} (h : W.heap[b]? = some (.cells cs t fr)) (hv : cs.setIfInBounds i v = cs) (j : Nat) : (W.setCell ⟨b, i, none⟩ v).heap[j]? = W.heap[j]? := by
  by_cases e : j = b
  · subst e; rw [Go.Joins.block_setCell h v, hv]; exact h.symm
  · exact Below.heap_setCell W ⟨b, i, none⟩ v j e
theorem below_same {W : World} {b i n : Nat} {cs : Array Value} {t : TypeId} {fr : Nat × Nat} {v : Value} (h : W.heap[b]? = some (.cells cs t fr)) (hv : cs.setIfInBounds i v = cs) : Below n W (W.setCell ⟨b, i, none⟩ v) :=
  ⟨rfl, rfl, rfl, by simp, fun j _ => heap_same h hv j⟩
theorem Ro.setn {W : World} {p : RdP} {B : Nat} {ov : Value} {L : List Ev} (h : Ro W p B ov L) : ∃ X, W.setCell ⟨p.rb, 2, none⟩ (.int .i64 (-1)) = X ∧ (∀ n, Below n W X) ∧ W.cell? ⟨p.rb, 2, none⟩ = some (.int .i64 (-1)) ∧ W.frozen? ⟨p.rb, 2, none⟩ = false :=
  ⟨_, rfl, fun _ => below_same h.rd.row rfl, Lib.cell_of_heap h.rd.row 2, Go.Joins.unfrozen_of_block h.rd.row 2⟩
set_option maxRecDepth 100000 in
set_option maxHeartbeats 4000000 in
theorem leaf_ex (p : RdP) (B : Nat) (an : ByteArray) (so : Bool) (ov : Value) (L : List Ev) (w : World) (h : Ro w p B ov L) (hL : L.length ≤ 900) :
    Calls Tryz.prog 74 #[.pointer (some ⟨p.rb, 0, none⟩), .agg #[.int .i64 0, .int .i64 3, .bool false], .int .i64 (-1), .agg #[.string an, .string ⟨#[]⟩, .bool so], .int .i64 0] w
      (Told p B w (L ++ [seqE an, aliasE, endE]) (.agg #[.int .i64 0, .int .i64 7, .bool false])) := by
  obtain ⟨V1, hV1, hb1, hr1, hs1⟩ := box3 w (.int .i64 0) (.int .i64 3) (.bool false) 100
  obtain ⟨V2, hV2, hb2, hr2, hs2⟩ := box3 V1 (.string an) (.string ⟨#[]⟩) (.bool so) 103
  obtain ⟨V3, hV3, hb3, hr3, hs3⟩ := box3 V2 (.int .i64 0) (.int .i64 0) (.bool false) 100
  have q1 := (hb3.block _ (by omega)).trans ((hb2.block _ (by omega)).trans hr1)
  have q2 := (hb3.block _ (by omega)).trans hr2
  have hbw : Below w.heap.size w V3 := below_then (below_then hb1 hb2) hb3
  have HBx : Hid (∀ W, Below V3.heap.size V3 W → LSt p B w w.heap.size V2.heap.size W (.int .i64 3) ov L ∧ B3 W w.heap.size (.int .i64 0) (.int .i64 3) (.bool false) ∧ B3 W V1.heap.size (.string an) (.string ⟨#[]⟩) (.bool so)) := fun W hW =>
    have e1 := (hW.block _ (by omega)).trans q1
    have e2 := (hW.block _ (by omega)).trans q2
    have e4 := (hW.block _ (by omega)).trans hr3
    ⟨⟨e1, e4, Wr.of (below_then hbw hW) (Nat.le_refl _), h.below (below_then hbw hW)⟩, .of e1, .of e2⟩
  obtain ⟨hl, ⟨b0, b1, b2, _⟩, _⟩ := HBx.out V3 (Below.refl _ _)
  have HSe : Hid (Calls Tryz.prog 87 #[.pointer (some ⟨p.rb, 0, none⟩), .agg #[.int .i64 0, .int .i64 3, .bool false]] V3 fun e w' => e = .returned (.int .i64 91) ∧ Below V3.heap.size V3 w') := see_any p 3 ov V3 hl.ro.rd (by omega)
  obtain ⟨rv, hrv⟩ : ∃ z, restV p 3 = z := ⟨_, rfl⟩
  have HRe : Hid (∀ W, Ro W p B ov L → Calls Tryz.prog 67 #[.pointer (some ⟨p.rb, 0, none⟩), .agg #[.int .i64 0, .int .i64 3, .bool false]] W fun e w' => e = .returned rv ∧ Below W.heap.size W w') := fun W hW => hrv ▸ rest_any p 3 ov W hW.rd (by omega)
  have HCo : Hid (∀ W, Ro W p B ov L → Calls Tryz.prog 90 #[.pointer (some ⟨p.rb, 0, none⟩), .agg #[.int .i64 0, .int .i64 3, .bool false], .agg #[.int .i64 0, .int .i64 3, .bool false], .agg #[.string an, .string ⟨#[]⟩, .bool so], .int .i64 0] W (Told p B W (L ++ [seqE an, aliasE, endE]) (.tuple #[.agg #[.int .i64 0, .int .i64 7, .bool false], .bool true]))) := fun W hW => content_list p B 3 an so ov L W hW hL
  have HPa : Hid (∀ W ov' M, Ro W p B ov' M → Calls Tryz.prog 66 #[.pointer (some ⟨p.rb, 0, none⟩), .agg #[.int .i64 0, .int .i64 7, .bool false]] W fun e w' => e = .returned (.agg #[.int .i64 0, .int .i64 7, .bool false]) ∧ Below W.heap.size W w') := fun W ov' M hW => past_zero p 7 ov' W hW.rd (by omega) (by decide) (by decide)
  have HR7 : Hid (∀ W ov' M, Ro W p B ov' M → Calls Tryz.prog 67 #[.pointer (some ⟨p.rb, 0, none⟩), .agg #[.int .i64 0, .int .i64 7, .bool false]] W fun e w' => e = .returned (.slice none 0 0) ∧ Below W.heap.size W w') := fun W ov' M hW => rest_end p ov' W hW.rd
  have hrlt := h.rd.lt
  have HVs : Hid (w.heap.size ≤ V2.heap.size ∧ w.heap.size ≠ p.rb ∧ V2.heap.size ≠ p.rb ∧ p.rb < w.heap.size ∧ V2.heap.size < V3.heap.size) := ⟨by omega, by omega, by omega, by omega, by omega⟩
  have HB : Hid (B ≤ w.heap.size) := h.b6
  clear h hl hbw hr1 hr2 hr3 hb1 hb2 hb3 hs1 hs2 hs3 q1 q2 hL hrlt hrv
  go_enter Tryz.func74, Tryz.ntmps74
  go_wp2_with (first
    | (go_at_call 87; refine HSe.out.mono ?_; rintro e w1 ⟨rfl, hb1⟩; obtain ⟨hl1, ⟨c0, c1, c2, _⟩, _⟩ := HBx.out w1 hb1; have H1 := Lib.hid (And.intro hb1 hl1); clear hb1 hl1)
    | (go_at_call 67; refine (HR7.out w5 _ _ H5.out.ro).mono ?_; rintro e w6 ⟨rfl, hb6⟩; have H6 := Lib.hid (H5.out.below hb6); obtain ⟨s0, s1, s2, _⟩ := B3.of H6.out.box; obtain ⟨t0, t1, t2, u0, u1, u2⟩ := B3.of H6.out.zero; clear hb6)
    | (go_at_call 67; refine (HRe.out w1 H1.out.2.ro).mono ?_; rintro e w2 ⟨rfl, hb2⟩; obtain ⟨X, hX, hXb, z2, zf⟩ := (H1.out.2.ro.below hb2).setn; have hVX := below_then (below_then H1.out.1 hb2) (hXb w2.heap.size); obtain ⟨hlX, ⟨d0, d1, d2, _⟩, _⟩ := HBx.out X hVX; obtain ⟨U, Z, hU, hZ, ⟨e0, e1, e2, g0, g1, g2⟩, hZr, hZb⟩ := box_put X (.int .i64 3); obtain ⟨hlZ, ⟨i0, i1, i2, _⟩, ⟨j0, j1, j2, _⟩⟩ := HBx.out Z (below_then hVX hZb); have H2 := Lib.hid (And.intro hVX.size (LSt.mk (r := X.heap.size) hZr hlZ.zero hlZ.wr hlZ.ro)); clear hb2 hXb hVX hlX hZr hZb hlZ)
    | (go_at_call 90; refine (HCo.out Z H2.out.2.ro).mono ?_; rintro e w3 ⟨rfl, ov3, hro3, hwr3⟩; obtain ⟨Y, hY, ⟨k0, k1, k2, l0, l1, l2⟩, hYs⟩ := (H2.out.2.told hwr3 hro3 (by have := H2.out.1; have := HVs.out; omega) HVs.out.2.2.1).put (by have := H2.out.1; have := HVs.out; omega) (by have := H2.out.1; have := HVs.out; have := HB.out; omega) (by have := H2.out.1; have := HVs.out; omega) (.int .i64 7); obtain ⟨T, hT, hTb, zz2, zzf⟩ := hYs.ro.setn; have H4 := Lib.hid (hYs.below (hTb _)); obtain ⟨m0, m1, m2, _⟩ := B3.of H4.out.box; clear hro3 hwr3 hYs hTb)
    | (go_at_call 66; refine (HPa.out T _ _ H4.out.ro).mono ?_; rintro e w5 ⟨rfl, hb5⟩; have H5 := Lib.hid (H4.out.below hb5); clear hb5))
  have hz := H6.out.zero
  refine bodyPost_ret (results_cell_row rfl _ _ V2.heap.size _ _ (0, 0) _ rfl (put3 hz) Tryz.underlying100 rfl (by kernel_rfl)) rfl ?_
  exact ⟨rfl, _, H6.out.ro.put3 hz rfl (Nat.le_trans HB.out HVs.out.1), H6.out.wr.post (below_put3 (Below.refl _ _) HVs.out.1)⟩
end Go.Proofs.YtiblamapjekdeaaGreat
/- The reference's reader at the example: next, at the line's end. Condition: the reader stands at the example's line. -/
namespace Go.Proofs.YtiblamapjekdeaaGreat
open Go.RowKit
attribute [local go_sem] Oper.semAt_some
theorem Rd.l0 {W : World} {p : RdP} {ov : Value} (h : Rd W p ov) : W.cell? ⟨p.rb, 0, none⟩ = some (.slice (some ⟨p.lb, 0, none⟩) 1 p.lc) := Lib.cell_of_heap h.row 0
set_option maxRecDepth 100000 in
set_option maxHeartbeats 4000000 in
theorem next_ex (p : RdP) (ov : Value) (w : World) (h : Rd w p ov) :
    Calls Tryz.prog 47 #[.pointer (some ⟨p.rb, 0, none⟩), .agg #[.int .i64 0, .int .i64 7, .bool false]] w
      fun e w' => e = .returned (.agg #[.int .i64 1, .int .i64 0, .bool true]) ∧ Below w.heap.size w w' := by
  obtain ⟨V1, hV1, hb1, hr1, hs1⟩ := box3 w (.int .i64 0) (.int .i64 7) (.bool false) 100
  obtain ⟨V2, hV2, hb2, hr2, hs2⟩ := box3 V1 (.int .i64 0) (.int .i64 0) (.bool false) 100
  have q1 := (hb2.block _ (by omega)).trans hr1
  have hbw : Below w.heap.size w V2 := below_then hb1 hb2
  have HBx : Hid (∀ W, Below V2.heap.size V2 W → W.heap[w.heap.size]? = some (krow (.int .i64 7)) ∧ W.heap[V1.heap.size]? = some zrow ∧ Below w.heap.size w W) := fun W hW =>
    ⟨(hW.block _ (by omega)).trans q1, (hW.block _ (by omega)).trans hr2, below_then hbw hW⟩
  obtain ⟨b0, b1, b2, _⟩ := B3.of q1
  have HPa := Lib.hid (past_zero p 7 ov V2 (h.below hbw) (by omega) (by decide) (by decide))
  have HR7 : Hid (∀ W, Below w.heap.size w W → Calls Tryz.prog 67 #[.pointer (some ⟨p.rb, 0, none⟩), .agg #[.int .i64 0, .int .i64 7, .bool false]] W fun e w' => e = .returned (.slice none 0 0) ∧ Below W.heap.size W w') := fun W hW => rest_end p ov W (h.below hW)
  have HL0 : Hid (∀ W, Below w.heap.size w W → W.cell? ⟨p.rb, 0, none⟩ = some (.slice (some ⟨p.lb, 0, none⟩) 1 p.lc)) := fun W hW => (h.below hW).l0
  have HVs : Hid (w.heap.size ≤ V1.heap.size ∧ V1.heap.size ≠ w.heap.size ∧ w.heap.size < V2.heap.size) := ⟨by omega, by omega, by omega⟩
  clear h hbw hr1 hr2 hb1 hb2 hs1 hs2 q1
  go_enter Tryz.func47, Tryz.ntmps47
  go_wp2_with (first
    | (go_at_call 66; refine HPa.out.mono ?_; rintro e w1 ⟨rfl, hb1⟩; obtain ⟨X, hX, ⟨c0, c1, c2, g0, g1, g2⟩, hXr, hXo, hXb⟩ := re_put (HBx.out w1 hb1).1 (.int .i64 7); have HX : Hid (X.heap[w.heap.size]? = some (krow (.int .i64 7)) ∧ X.heap[V1.heap.size]? = some zrow ∧ Below w.heap.size w X) := ⟨hXr, (hXo _ HVs.out.2.1).trans (HBx.out w1 hb1).2.1, (HBx.out w1 hb1).2.2.trans hXb⟩; obtain ⟨d0, d1, d2, _⟩ := B3.of hXr; clear hb1 hXr hXo hXb)
    | (go_at_call 67; refine (HR7.out X HX.out.2.2).mono ?_; rintro e w2 ⟨rfl, hb2⟩; have hz := (hb2.block _ (lt_of_row HX.out.2.1)).trans HX.out.2.1; obtain ⟨e0, e1, e2, _⟩ := B3.of ((hb2.block _ (lt_of_row HX.out.1)).trans HX.out.1); obtain ⟨i0, i1, i2, j0, j1, j2⟩ := B3.of hz; have l0 := HL0.out w2 (below_then HX.out.2.2 hb2); have H2 := Lib.hid (And.intro hz (below_then HX.out.2.2 hb2)); clear hz hb2))
  go_loopw [5] (fun v wr => v = .int .i64 1 ∧ wr = w2) (fun _ _ => 0)
  case atStart => exact ⟨rfl, rfl⟩
  case round =>
    obtain ⟨rfl, rfl⟩ := hrel
    go_wp2_with fail
    have hz := H2.out.1
    refine bodyPost_ret (results_cell_row rfl _ _ V1.heap.size _ _ (0, 0) _ rfl (put3 hz) Tryz.underlying100 rfl (by kernel_rfl)) rfl ?_
    exact ⟨rfl, below_put3 H2.out.2 HVs.out.1⟩
end Go.Proofs.YtiblamapjekdeaaGreat
/- The reference's Full and newReader at the example's line. Condition: the line lies there. -/
namespace Go.Proofs.YtiblamapjekdeaaGreat
open Go.RowKit
attribute [local go_sem] Oper.semAt_some
def FullR (w : World) (e : Ending) (w' : World) : Prop := ∃ g c, e = .returned (.slice (some ⟨g, 0, none⟩) 7 c) ∧ w.heap.size ≤ g ∧ RowT w' g 0 c ∧ Below w.heap.size w w'
set_option maxRecDepth 100000 in
set_option maxHeartbeats 4000000 in
theorem Full_ex (xb xc : Nat) (w : World) (hR : RowT w xb 0 xc) :
    Calls Tryz.prog 45 #[.agg #[.int .i64 0, .slice (some ⟨xb, 0, none⟩) 7 xc]] w (FullR w) := by
  obtain ⟨V, hV, hbV, hrV, hsV⟩ : ∃ V, w.alloc (.cells #[.int .i64 0, .slice (some ⟨xb, 0, none⟩) 7 xc] 64) = V ∧ Below w.heap.size w V ∧ V.heap[w.heap.size]? = some (.cells #[.int .i64 0, .slice (some ⟨xb, 0, none⟩) 7 xc] 64 (0, 0)) ∧ V.heap.size = w.heap.size + 1 :=
    ⟨_, rfl, (Below.refl _ w).alloc (Nat.le_refl _) _, heap_alloc_new w _, by simp⟩
  have hRV := hR.below hbV
  have HI := hRV.ints
  have b0 := Lib.cell_of_heap hrV 0
  have b1 := Lib.cell_of_heap hrV 1
  have HbV := Lib.hid hbV
  have HsV := Lib.hid hsV
  have hz0 : ZOwn V V.heap.size (.slice none 0 0) [] := ZOwn.empty _ _
  clear hR hRV hbV hrV hsV
  go_enter Tryz.func45, Tryz.ntmps45
  go_wp2_with fail
  go_loop [3, 4] (fun t i => t = .slice none 0 0 ∧ i = .int .i64 0) (fun _ _ => 0)
  case atStart => exact ⟨rfl, rfl⟩
  case round =>
    obtain ⟨rfl, rfl⟩ := hrel
    go_wp2_with (at_builtin; refine wpList_appZs rfl _ _ _ rfl Tryz.underlying26 V.heap.size (.slice none 0 0) [] rfl hz0 (some ⟨xb, 0, none⟩) listT 7 xc rfl rfl HI (by decide) (Nat.le_refl _) ?_; intro v' w' hz' hb'; obtain ⟨g, c', hv', hcl, hgl, hgB, hcells⟩ := zown_cap hz' (by decide); subst hv'; have HR9 := Lib.hid (And.intro hgB (And.intro hgl (And.intro hcl (And.intro hcells hb')))); clear hz' hb' hcl hgl hgB hcells)
    go_ret
    obtain ⟨h1, h2, h3, h4, h5⟩ := HR9.out
    refine ⟨g, c', rfl, by have := HsV.out; omega, ⟨h2, h3, fun k hk => ?_⟩, below_then HbV.out h5⟩
    rw [Nat.zero_add]; exact h4 k (by simpa using hk)
end Go.Proofs.YtiblamapjekdeaaGreat
