/- The reference's reader at the example: block. Condition: the reader stands at the example's line and told nothing. -/
import Derived.Test.YtiblamapjekdeaaGreatKu
namespace Go.Proofs.YtiblamapjekdeaaGreat
open Go.RowKit
attribute [local go_sem] Oper.semAt_some
theorem KSt.putr {w0 W : World} {t8 t9 t10 B r : Nat} {p : RdP} {k k2 u : Value} {a : ByteArray} {s : Bool} (h : KSt w0 t8 t9 t10 p B W k k2 a s) (hr : W.heap[r]? = some (krow u)) (h1 : t8 ≠ r) (h2 : t9 ≠ r) (h3 : t10 ≠ r) (hB : B ≤ r) (hw : w0.heap.size ≤ r) (v : Value) :
    ∃ Y, ((W.setCell ⟨r, 0, none⟩ (.int .i64 0)).setCell ⟨r, 1, none⟩ v).setCell ⟨r, 2, none⟩ (.bool false) = Y ∧ B3 W r (.int .i64 0) u (.bool false) ∧ KSt w0 t8 t9 t10 p B Y k k2 a s ∧ Y.heap[r]? = some (krow v) ∧ (∀ b, b ≠ r → Y.heap[b]? = W.heap[b]?) :=
  ⟨_, rfl, .of hr, ⟨(heap_put3 h1).trans h.q, (heap_put3 h2).trans h.x, (heap_put3 h3).trans h.e, h.ro.put3 hr rfl hB, below_put3 h.low hw⟩, put3 hr, fun _ hb => heap_put3 hb⟩
theorem KSt.putq' {w0 W : World} {t8 t9 t10 B : Nat} {p : RdP} {k k2 : Value} {a : ByteArray} {s : Bool} (h : KSt w0 t8 t9 t10 p B W k k2 a s) (h1 : t9 ≠ t8) (h2 : t10 ≠ t8) (hB : B ≤ t8) (hw : w0.heap.size ≤ t8) (u : Value) :
    ∃ Y, ((W.setCell ⟨t8, 0, none⟩ (.int .i64 0)).setCell ⟨t8, 1, none⟩ u).setCell ⟨t8, 2, none⟩ (.bool false) = Y ∧ B3 W t8 (.int .i64 0) k (.bool false) ∧ KSt w0 t8 t9 t10 p B Y u k2 a s ∧ (∀ b, b ≠ t8 → Y.heap[b]? = W.heap[b]?) :=
  ⟨_, rfl, .of h.q, ⟨put3 h.q, (heap_put3 h1).trans h.x, (heap_put3 h2).trans h.e, h.ro.put3 h.q rfl hB, below_put3 h.low hw⟩, fun _ hb => heap_put3 hb⟩
/-- The inner loop's state. -/
structure ISt (w0 : World) (t8 t9 t10 t15 t21 : Nat) (p : RdP) (B : Nat) (W : World) (kp k kt : Value) : Prop where
  st : KSt w0 t8 t9 t10 p B W kp (.int .i64 0) ⟨#[97]⟩ true
  q15 : W.heap[t15]? = some (krow k)
  q21 : W.heap[t21]? = some (krow kt)
theorem ISt.put8 {w0 W : World} {t8 t9 t10 t15 t21 B : Nat} {p : RdP} {kp k kt : Value} (h : ISt w0 t8 t9 t10 t15 t21 p B W kp k kt) (ho : t8 < t9 ∧ t9 < t10 ∧ t10 < t15 ∧ t15 < t21 ∧ B ≤ t8 ∧ w0.heap.size ≤ t8) (u : Value) :
    ∃ Y, ((W.setCell ⟨t8, 0, none⟩ (.int .i64 0)).setCell ⟨t8, 1, none⟩ u).setCell ⟨t8, 2, none⟩ (.bool false) = Y ∧ B3 W t8 (.int .i64 0) kp (.bool false) ∧ ISt w0 t8 t9 t10 t15 t21 p B Y u k kt := by
  obtain ⟨Y, hY, h1, h2, h3⟩ := h.st.putq' (by omega) (by omega) (by omega) (by omega) u
  exact ⟨Y, hY, h1, h2, (h3 _ (by omega)).trans h.q15, (h3 _ (by omega)).trans h.q21⟩
theorem ISt.put15 {w0 W : World} {t8 t9 t10 t15 t21 B : Nat} {p : RdP} {kp k kt : Value} (h : ISt w0 t8 t9 t10 t15 t21 p B W kp k kt) (ho : t8 < t9 ∧ t9 < t10 ∧ t10 < t15 ∧ t15 < t21 ∧ B ≤ t8 ∧ w0.heap.size ≤ t8) (u : Value) :
    ∃ Y, ((W.setCell ⟨t15, 0, none⟩ (.int .i64 0)).setCell ⟨t15, 1, none⟩ u).setCell ⟨t15, 2, none⟩ (.bool false) = Y ∧ B3 W t15 (.int .i64 0) k (.bool false) ∧ ISt w0 t8 t9 t10 t15 t21 p B Y kp u kt := by
  obtain ⟨Y, hY, h1, h2, h3, h4⟩ := h.st.putr h.q15 (by omega) (by omega) (by omega) (by omega) (by omega) u
  exact ⟨Y, hY, h1, h2, h3, (h4 _ (by omega)).trans h.q21⟩
theorem ISt.put21 {w0 W : World} {t8 t9 t10 t15 t21 B : Nat} {p : RdP} {kp k kt : Value} (h : ISt w0 t8 t9 t10 t15 t21 p B W kp k kt) (ho : t8 < t9 ∧ t9 < t10 ∧ t10 < t15 ∧ t15 < t21 ∧ B ≤ t8 ∧ w0.heap.size ≤ t8) (u : Value) :
    ∃ Y, ((W.setCell ⟨t21, 0, none⟩ (.int .i64 0)).setCell ⟨t21, 1, none⟩ u).setCell ⟨t21, 2, none⟩ (.bool false) = Y ∧ B3 W t21 (.int .i64 0) kt (.bool false) ∧ ISt w0 t8 t9 t10 t15 t21 p B Y kp k u := by
  obtain ⟨Y, hY, h1, h2, h3, h4⟩ := h.st.putr h.q21 (by omega) (by omega) (by omega) (by omega) (by omega) u
  exact ⟨Y, hY, h1, h2, (h4 _ (by omega)).trans h.q15, h3⟩
def mb : Value → Nat
  | .bool true => 1
  | _ => 0
theorem ISt.below {w0 W W' : World} {t8 t9 t10 t15 t21 B : Nat} {p : RdP} {kp k kt : Value} (h : ISt w0 t8 t9 t10 t15 t21 p B W kp k kt) (hb : Below W.heap.size W W') : ISt w0 t8 t9 t10 t15 t21 p B W' kp k kt :=
  ⟨h.st.below hb, (hb.block _ (lt_of_row h.q15)).trans h.q15, (hb.block _ (lt_of_row h.q21)).trans h.q21⟩
set_option maxRecDepth 100000 in
set_option maxHeartbeats 4000000 in
theorem block_ex (p : RdP) (B : Nat) (w : World) (h : Ro w p B (.slice none 0 0) []) :
    Calls Tryz.prog 46 #[.pointer (some ⟨p.rb, 0, none⟩), .agg #[.int .i64 0, .int .i64 0, .bool false], .int .i64 (-1), .bool true, .bool false, .agg #[.string ⟨#[]⟩, .string ⟨#[]⟩, .bool false], .int .i64 0] w
      (Told p B w ([] ++ [seqE ⟨#[97]⟩, aliasE, endE]) (.agg #[.int .i64 0, .int .i64 7, .bool false])) := by
  obtain ⟨V1, hV1, hb1, hr1, hs1⟩ := box3 w (.int .i64 0) (.int .i64 0) (.bool false) 100
  obtain ⟨V2, hV2, hb2, hr2, hs2⟩ := box3 V1 (.string ⟨#[]⟩) (.string ⟨#[]⟩) (.bool false) 103
  obtain ⟨V3, hV3, hb3, hr3, hs3⟩ := box3 V2 (.int .i64 0) (.int .i64 0) (.bool false) 100
  have q1 := (hb3.block _ (by omega)).trans ((hb2.block _ (by omega)).trans hr1)
  have q2 := (hb3.block _ (by omega)).trans hr2
  have hbw : Below w.heap.size w V3 := below_then (below_then hb1 hb2) hb3
  have HV : Hid (KSt w w.heap.size V1.heap.size V2.heap.size p B V3 (.int .i64 0) (.int .i64 0) ⟨#[]⟩ false) := ⟨q1, q2, hr3, h.below hbw, hbw⟩
  have hrlt := h.rd.lt
  have HB : Hid (B ≤ w.heap.size ∧ p.rb < w.heap.size) := ⟨h.b6, hrlt⟩
  have HT : Hid (w.heap.size < V1.heap.size ∧ V1.heap.size < V2.heap.size ∧ V2.heap.size < V3.heap.size) := ⟨by omega, by omega, by omega⟩
  clear h hbw hr1 hr2 hr3 hb1 hb2 hb3 hs1 hs2 hs3 q1 q2 hrlt
  go_enter Tryz.func46, Tryz.ntmps46
  go_wp2_with fail
  clear hV1 hV2 hV3
  go_loopw [] (fun wr => wr = V3) (fun _ => 0)
  case atStart => rfl
  case round =>
    subst hrel
    have f3 := HV.out.ro.rd.flt
    obtain ⟨b0, b1, b2, _⟩ := B3.of HV.out.q
    go_wp2_with (first
      | (go_at_call 66; refine (past_zero p 0 (.slice none 0 0) wr HV.out.ro.rd (by omega) (by decide) (by decide)).mono ?_; rintro e w1 ⟨rfl, hb1⟩; obtain ⟨U1, Z1, hU1, hZ1, ⟨c0, c1, c2, g0, g1, g2⟩, hz1, hbZ1⟩ := box_put w1 (.int .i64 0); have hs1 := HV.out.below (below_then hb1 hbZ1); obtain ⟨d0, d1, d2, _⟩ := B3.of hz1; have HQ1 : Hid (Z1.heap[w1.heap.size]? = some (krow (.int .i64 0))) := hz1; have H1 := Lib.hid hs1; have HW1 : Hid (wr.heap.size ≤ w1.heap.size) := hb1.size; clear hb1 hbZ1 hz1 hs1)
      | (go_at_call 67; refine (rest_in p 0 (.slice none 0 0) Z1 H1.out.ro.rd (by omega)).mono ?_; rintro e w2 ⟨rfl, hb2⟩; have hq2 := (hb2.block _ (lt_of_row HQ1.out)).trans HQ1.out; obtain ⟨e0, e1, e2, _⟩ := B3.of hq2; have hs2 := H1.out.below hb2; have f4 := hs2.ro.rd.flt; have H2 := Lib.hid (And.intro hs2 hq2); clear hb2 hq2 hs2)
      | (go_at_call 68; refine (begins_no p 0 63 (.slice none 0 0) w4 H4.out.1.ro.rd (by omega) (by decide)).mono ?_; rintro e w5 ⟨rfl, hb5⟩; have hq5 := (hb5.block _ (lt_of_row H4.out.2)).trans H4.out.2; obtain ⟨k0, k1, k2, _⟩ := B3.of hq5; have hs5 := H4.out.1.below hb5; have f5 := hs5.ro.rd.flt; have H5 := Lib.hid (And.intro hs5 hq5); clear hb5 hq5 hs5)
      | (go_at_call 68; refine (begins_no p 0 45 (.slice none 0 0) w2 H2.out.1.ro.rd (by omega) (by decide)).mono ?_; rintro e w3 ⟨rfl, hb3⟩; have hq3 := (hb3.block _ (lt_of_row H2.out.2)).trans H2.out.2; obtain ⟨i0, i1, i2, _⟩ := B3.of hq3; have hs3 := H2.out.1.below hb3; have H3 := Lib.hid (And.intro hs3 hq3); clear hb3 hq3 hs3)
      | (go_at_call 71; refine (key_ex p (.slice none 0 0) w3 H3.out.1.ro.rd).mono ?_; rintro e w4 ⟨rfl, hb4⟩; have hq4 := (hb4.block _ (lt_of_row H3.out.2)).trans H3.out.2; obtain ⟨j0, j1, j2, _⟩ := B3.of hq4; have hs4 := H3.out.1.below hb4; have H4 := Lib.hid (And.intro hs4 hq4); clear hb4 hq4 hs4)
      | (go_at_call 73; refine (prop_amp p V1.heap.size (.slice none 0 0) w5 H5.out.1.ro.rd H5.out.1.x).mono ?_; rintro e w6 ⟨rfl, hbar, hx6⟩; obtain ⟨U6, Z6, hU6, hZ6, ⟨m0, m1, m2, n0, n1, n2⟩, hz6, hbZ6⟩ := box_put w6 (.int .i64 2); have HT6 : Hid (V2.heap.size < w1.heap.size ∧ w1.heap.size < w6.heap.size) := ⟨(by have := lt_of_row HQ1.out; have h1' := lt_of_row HV.out.e; have := HW1.out; have := HT.out; omega), Nat.lt_of_lt_of_le (lt_of_row H5.out.2) hbar.size⟩; have hI : ISt w w.heap.size V1.heap.size V2.heap.size w1.heap.size w6.heap.size p B Z6 (.int .i64 0) (.int .i64 0) (.int .i64 2) := ⟨(H5.out.1.amp hbar hx6 (by have := HT.out; omega) (by have := HT.out; omega) (by have := HT.out; have := HB.out; omega) (by have := HT.out; omega)).below hbZ6, (hbZ6.block _ HT6.out.2).trans ((hbar.block _ (lt_of_row H5.out.2) (by have := HT6.out; have := HT.out; omega)).trans H5.out.2), hz6⟩; have H6 := Lib.hid hI; clear hbar hx6 hz6 hbZ6 hI))
    have HO : Hid (w.heap.size < V1.heap.size ∧ V1.heap.size < V2.heap.size ∧ V2.heap.size < w1.heap.size ∧ w1.heap.size < w6.heap.size ∧ B ≤ w.heap.size ∧ w.heap.size ≤ w.heap.size) := ⟨HT.out.1, HT.out.2.1, HT6.out.1, HT6.out.2, HB.out.1, Nat.le_refl _⟩
    clear hU1 hZ1 hU6 hZ6 c0 c1 c2 g0 g1 g2 d0 d1 d2 e0 e1 e2 f4 k0 k1 k2 f5 i0 i1 i2 j0 j1 j2 m0 m1 m2 n0 n1 n2 b0 b1 b2 f3 H1 H2 H3 H4 H5 HQ1 HW1 HV
    go_loopw [22] (fun v wr2 => (v = .bool true ∧ Hid (ISt w w.heap.size V1.heap.size V2.heap.size w1.heap.size w6.heap.size p B wr2 (.int .i64 0) (.int .i64 0) (.int .i64 2))) ∨ (v = .bool false ∧ Hid (ISt w w.heap.size V1.heap.size V2.heap.size w1.heap.size w6.heap.size p B wr2 (.int .i64 2) (.int .i64 3) (.int .i64 3)))) (fun v _ => mb v)
    case atStart => exact .inl ⟨rfl, H6⟩
    case round =>
      clear H6
      rcases hrel with ⟨rfl, HA⟩ | ⟨rfl, HA⟩
      · have f3 := HA.out.st.ro.rd.flt
        obtain ⟨b0, b1, b2, _⟩ := B3.of HA.out.q21
        obtain ⟨Y1, hY1, ⟨c0, c1, c2, g0, g1, g2⟩, hs1⟩ := HA.out.put8 HO.out (.int .i64 2)
        obtain ⟨d0, d1, d2, _⟩ := B3.of hs1.q21
        have H1 := Lib.hid hs1
        clear hs1
        go_wp2_with (first
          | (go_at_call 66; refine (past_one p 2 (.slice none 0 0) Y1 H1.out.st.ro.rd (by omega) (by decide) (by decide)).mono ?_; rintro e w7 ⟨rfl, hb7⟩; obtain ⟨Y2, hY2, ⟨i0, i1, i2, j0, j1, j2⟩, hs2⟩ := (H1.out.below hb7).put15 HO.out (.int .i64 3); obtain ⟨k0, k1, k2, _⟩ := B3.of hs2.q15; have H2 := Lib.hid hs2; clear hb7 hs2)
          | (go_at_call 73; refine (prop_no p 3 _ (.slice none 0 0) Y2 H2.out.st.ro.rd (by omega) (by decide) (by decide)).mono ?_; rintro e w8 ⟨rfl, hb8⟩; obtain ⟨Y3, hY3, ⟨m0, m1, m2, n0, n1, n2⟩, hs3⟩ := (H2.out.below hb8).put21 HO.out (.int .i64 3); have H3 := Lib.hid hs3; clear hb8 hs3))
        go_roundw
        case rel => exact .inr ⟨rfl, H3⟩
        case measure => decide
      · have f3 := HA.out.st.ro.rd.flt
        obtain ⟨b0, b1, b2, _⟩ := B3.of HA.out.q15
        go_wp2_with (first
          | (go_at_call 67; refine (rest_in p 3 (.slice none 0 0) wr HA.out.st.ro.rd (by omega)).mono ?_; rintro e w7 ⟨rfl, hb7⟩; have hs7 := HA.out.below hb7; obtain ⟨c0, c1, c2, _⟩ := B3.of hs7.q15; obtain ⟨d0, d1, d2, _⟩ := B3.of hs7.st.x; have H7 := Lib.hid hs7; clear hb7 hs7)
          | (go_at_call 74; refine (leaf_ex p B ⟨#[97]⟩ true (.slice none 0 0) [] w7 H7.out.st.ro (by simp)).mono ?_; rintro e w8 ⟨rfl, ov8, hro8, hwr8⟩; have h8z := hwr8.row H7.out.st.e rfl (by have := HO.out; have := HB.out; omega); obtain ⟨m0, m1, m2, n0, n1, n2⟩ := B3.of h8z; have H8 := Lib.hid (And.intro h8z (And.intro hro8 (Wr.pre H7.out.st.low hwr8))); clear hro8 hwr8 h8z))
        obtain ⟨h5v, h5r, h5w⟩ := H8.out
        refine bodyPost_ret (results_cell_row rfl _ _ V2.heap.size _ _ (0, 0) _ rfl (put3 h5v) Tryz.underlying100 rfl (by kernel_rfl)) rfl ?_
        exact ⟨rfl, _, h5r.put3 h5v rfl (by have := HO.out; omega), h5w.post (below_put3 (Below.refl _ _) (by have := HO.out; omega))⟩
end Go.Proofs.YtiblamapjekdeaaGreat
/- The reference's reader at the example: document. Condition: the reader stands at the example's line and told nothing. -/
namespace Go.Proofs.YtiblamapjekdeaaGreat
open Go.RowKit
attribute [local go_sem] Oper.semAt_some
set_option maxRecDepth 100000 in
set_option maxHeartbeats 4000000 in
theorem document_ex (p : RdP) (B : Nat) (w : World) (h : Ro w p B (.slice none 0 0) []) :
    Calls Tryz.prog 28 #[.pointer (some ⟨p.rb, 0, none⟩), .int .i64 0, .int .i64 0] w
      (Told p B w ([] ++ [seqE ⟨#[97]⟩, aliasE, endE]) (.int .i64 1)) := by
  have HB : Hid (B ≤ w.heap.size ∧ p.rb < w.heap.size) := ⟨h.b6, h.rd.lt⟩
  have HBl := Lib.hid (block_ex p B w h)
  clear h
  go_enter Tryz.func28, Tryz.ntmps28
  go_wp2_with (first
    | (go_at_call 46; refine HBl.out.mono ?_; rintro e w1 ⟨rfl, ov1, hro1, hwr1⟩; obtain ⟨U1, Z1, hU1, hZ1, ⟨c0, c1, c2, g0, g1, g2⟩, hz1, hbZ1⟩ := box_put w1 (.int .i64 7); have hroZ := hro1.below hbZ1; have f3 := hroZ.rd.flt; obtain ⟨d0, d1, d2, _⟩ := B3.of hz1; have H1 := Lib.hid (And.intro hroZ (hwr1.post (hbZ1.mono hwr1.size))); clear hro1 hwr1 hz1 hbZ1 hroZ)
    | (go_at_call 47; refine (next_ex p ov1 Z1 H1.out.1.rd).mono ?_; rintro e w2 ⟨rfl, hb2⟩; obtain ⟨U2, hU2, hbU2, hrU2, _⟩ := box3 w2 (.int .i64 0) (.int .i64 0) (.bool false) 100; obtain ⟨i0, i1, i2, j0, j1, j2⟩ := B3.of hrU2; obtain ⟨Z2, hZ2⟩ : ∃ Z, ((U2.setCell ⟨w2.heap.size, 0, none⟩ (.int .i64 1)).setCell ⟨w2.heap.size, 1, none⟩ (.int .i64 0)).setCell ⟨w2.heap.size, 2, none⟩ (.bool true) = Z := ⟨_, rfl⟩; have hz2 : Z2.heap[w2.heap.size]? = some (.cells #[.int .i64 1, .int .i64 0, .bool true] 100 (0, 0)) := (by rw [← hZ2]; exact put3 hrU2); have hbz : Below Z1.heap.size Z1 Z2 := (by rw [← hZ2]; exact below_then hb2 (below_put3 hbU2 (Nat.le_refl _))); obtain ⟨k0, k1, k2, _⟩ := B3.of hz2; have hro2 := H1.out.1.below hbz; have f4 := hro2.rd.flt; have H2 := Lib.hid (And.intro hro2 (H1.out.2.post (hbz.mono H1.out.2.size))); clear hb2 hbU2 hrU2 hz2 hbz hro2))
  go_ret
  exact ⟨rfl, _, H2.out.1, H2.out.2⟩
end Go.Proofs.YtiblamapjekdeaaGreat
/- The example's line: Marker, Bare; Scope.Whole of no tag. Condition: the line lies there. -/
namespace Go.Proofs.YtiblamapjekdeaaGreat
open Go.RowKit
attribute [local go_sem] Oper.semAt_some
theorem Whole_nil (v : Value) (w : World) : Calls Tryz.prog 29 #[v, .string ⟨#[]⟩] w fun e w' => e = .returned (.tuple #[.string ⟨#[]⟩, .int .i64 0]) ∧ w = w' := by
  go_enter Tryz.func29, Tryz.ntmps29
  go_wp2
  go_ret2
  exact ⟨rfl, rfl⟩
theorem box2L (w : World) (xb xc : Nat) : ∃ V, w.alloc (.cells #[.int .i64 0, .slice (some ⟨xb, 0, none⟩) 7 xc] 64) = V ∧ Below w.heap.size w V ∧ V.heap[w.heap.size]? = some (.cells #[.int .i64 0, .slice (some ⟨xb, 0, none⟩) 7 xc] 64 (0, 0)) :=
  ⟨_, rfl, (Below.refl _ w).alloc (Nat.le_refl _) _, heap_alloc_new w _⟩
set_option maxRecDepth 100000 in
set_option maxHeartbeats 4000000 in
theorem Bare_ex (xb xc : Nat) (w : World) (hR : RowT w xb 0 xc) :
    Calls Tryz.prog 24 #[.agg #[.int .i64 0, .slice (some ⟨xb, 0, none⟩) 7 xc]] w fun e w' => e = .returned (.bool false) ∧ Below w.heap.size w w' := by
  obtain ⟨V, hV, hbV, hrV⟩ := box2L w xb xc
  have b1 := Lib.cell_of_heap hrV 1
  have hRV := hR.below hbV
  have c0 : V.cell? ⟨xb, 0, none⟩ = some (.int .i64 38) := hRV.2.2 0 (by omega)
  have HPa : Hid (Calls Tryz.prog 42 #[.slice (some ⟨xb, 0, none⟩) 7 xc] V fun e w' => e = .returned (.int .i64 0) ∧ V = w') := Past_any (some ⟨xb, 0, none⟩) xc listT V (by decide) hRV.ints
  have Hb := Lib.hid hbV
  clear hR hRV hbV hrV
  go_enter Tryz.func24, Tryz.ntmps24
  go_wp2_with (go_at_call 42; refine HPa.out.mono ?_; rintro e w' ⟨rfl, rfl⟩)
  go_ret
  exact ⟨rfl, Hb.out⟩
set_option maxRecDepth 100000 in
set_option maxHeartbeats 4000000 in
theorem Marker_ex (xb xc : Nat) (w : World) (hR : RowT w xb 0 xc) :
    Calls Tryz.prog 23 #[.agg #[.int .i64 0, .slice (some ⟨xb, 0, none⟩) 7 xc]] w fun e w' => e = .returned (.int .i64 0) ∧ Below w.heap.size w w' := by
  obtain ⟨V, hV, hbV, hrV⟩ := box2L w xb xc
  have b0 := Lib.cell_of_heap hrV 0
  have b1 := Lib.cell_of_heap hrV 1
  have hRV := hR.below hbV
  have c0 : V.cell? ⟨xb, 0, none⟩ = some (.int .i64 38) := hRV.2.2 0 (by omega)
  have c1 : V.cell? ⟨xb, 1, none⟩ = some (.int .i64 97) := hRV.2.2 1 (by omega)
  have Hb := Lib.hid hbV
  clear hR hRV hbV hrV
  go_enter Tryz.func23, Tryz.ntmps23
  go_wp2_with fail
  go_quiet (fail)
  go_wp2_with fail
  go_ret
  exact ⟨rfl, below_drewN Hb.out _⟩
end Go.Proofs.YtiblamapjekdeaaGreat
/- The reference's Stream at the example. Condition: the line lies there. -/
namespace Go.Proofs.YtiblamapjekdeaaGreat
open Go.RowKit Go.ChangeShapes Go.WideShapes Go.ChangeAt Go.Deep
attribute [local go_sem] Oper.semAt_some
/-- A row of events of its own. -/
def EOwn (W : World) (N : Nat) (v : Value) (L : List Ev) : Prop := W.ownsRow N 41 6 v L.length (rows L)
set_option maxRecDepth 10000 in
theorem wpList_out {W : World} {ops : Array Oper} {rest : List Oper} {o : Oper} {a : Act} {Q : Exit → Act → World → Prop} (hgd : o.guard = none) (s x : Operand)
    (ho : o.op = .call { callee := .builtin .append, args := #[s, x], argTypes := #[22, 22] }) (N : Nat) (v : Value) (L : List Ev) (e : Ev) (h : EOwn W N v L) (hN : N ≤ W.heap.size) (hs : a.eval s = v) (hL : L.length ≤ 100000)
    (n0 : Nat) (hn0 : n0 = W.heap.size) (hx : a.eval x = .slice (some ⟨n0, 0, none⟩) 1 1)
    (k : ∀ A c w', EOwn w' N (.slice A (L.length + 1) c) (L ++ [e]) → Below N W w' → wpList Tryz.prog ops Q rest (a.put o.dst (.slice A (L.length + 1) c)) w') : wpList Tryz.prog ops Q (o :: rest) a (W.alloc (.cells e.row 41)) := by
  obtain ⟨i0, hi, hz0, hz1, hz2⟩ := info_parts Tryz.infoEvent
  refine wpList_append_own _ hgd s x _ ho N _ i0 _ 6 72 rfl hi hz0 hz1 hz2 rfl (by decide) v L.length (rows L) hs (World.ownsRow.alloc h _) ⟨n0, 0, none⟩ 1 1 (rows [e]) hx (by rfl) ?_ (rows_one [e]) (by unfold maxLen; omega) (by omega) (by simp; omega) ?_
  · intro j u hj
    subst hn0
    rw [Addr.add_lit, Nat.zero_add, Lib.cell_of_heap (heap_alloc_new W _) j]
    simpa [rows] using hj
  · intro v' w' h1 h2 _
    have hE : EOwn w' N v' (L ++ [e]) := by rw [EOwn, List.length_append, rows_append]; exact h1
    obtain ⟨A, c, hv, _⟩ := evsAt_own hE
    rw [List.length_append] at hv
    subst hv
    have hlt := World.ownsRow.lt h
    refine k A c w' hE ⟨h2.os, h2.tape, h2.output, Nat.le_trans (by simp) h2.size, fun b hb => ?_⟩
    refine (h2.block b (by simp; omega) fun hh => ?_).trans (heap_alloc_old W _ (by omega))
    have := (hlt _ hh.symm).1
    omega
end Go.Proofs.YtiblamapjekdeaaGreat
