/- The reference's reader at the example: key, which finds none. Condition: the reader stands at the example's line. -/
import Derived.Test.YtiblamapjekdeaaGreatKt
namespace Go.Proofs.YtiblamapjekdeaaGreat
open Go.RowKit
attribute [local go_sem] Oper.semAt_some
theorem Rd.ro {W : World} {p : RdP} (h : Rd W p (.slice none 0 0)) : Ro W p W.heap.size (.slice none 0 0) [] :=
  ⟨h, World.ownsRow_nil _ _ _ _, h.lt, h.line.1, h.fb, h.text.1, h.line.2.2.2.1, Nat.le_refl _⟩
/-- key's state. -/
structure KSt (w0 : World) (t8 t9 t10 : Nat) (p : RdP) (B : Nat) (W : World) (k k2 : Value) (a : ByteArray) (s : Bool) : Prop where
  q : W.heap[t8]? = some (krow k)
  x : W.heap[t9]? = some (prow a s)
  e : W.heap[t10]? = some (krow k2)
  ro : Ro W p B (.slice none 0 0) []
  low : Below w0.heap.size w0 W
theorem KSt.below {w0 W W' : World} {t8 t9 t10 B : Nat} {p : RdP} {k k2 : Value} {a : ByteArray} {s : Bool} (h : KSt w0 t8 t9 t10 p B W k k2 a s) (hb : Below W.heap.size W W') : KSt w0 t8 t9 t10 p B W' k k2 a s :=
  ⟨(hb.block _ (lt_of_row h.q)).trans h.q, (hb.block _ (lt_of_row h.x)).trans h.x, (hb.block _ (lt_of_row h.e)).trans h.e, h.ro.below hb, below_then h.low hb⟩
theorem KSt.amp {w0 W W' : World} {t8 t9 t10 B : Nat} {p : RdP} {k k2 : Value} {a a' : ByteArray} {s s' : Bool} (h : KSt w0 t8 t9 t10 p B W k k2 a s) (hb : Bar (· = t9) W W') (hx : W'.heap[t9]? = some (prow a' s')) (h1 : t8 ≠ t9) (h2 : t10 ≠ t9) (h3 : B ≤ t9) (h4 : w0.heap.size ≤ t9) : KSt w0 t8 t9 t10 p B W' k k2 a' s' :=
  ⟨(hb.block _ (lt_of_row h.q) h1).trans h.q, hx, (hb.block _ (lt_of_row h.e) h2).trans h.e, h.ro.keep hb.size fun b hlt hc => hb.block b hlt (by
    rintro rfl
    rcases hc with hc | ⟨cs, fr, hc⟩
    · omega
    · rw [h.x] at hc; cases hc), h.low.trans (hb.below fun b hb' => ⟨Nat.lt_of_lt_of_le hb' h.low.size, by omega⟩)⟩
theorem KSt.putq {w0 W : World} {t8 t9 t10 B : Nat} {p : RdP} {k k2 : Value} {a : ByteArray} {s : Bool} (h : KSt w0 t8 t9 t10 p B W k k2 a s) (h1 : t9 ≠ t8) (h2 : t10 ≠ t8) (hB : B ≤ t8) (hw : w0.heap.size ≤ t8) (u : Value) :
    ∃ Y, ((W.setCell ⟨t8, 0, none⟩ (.int .i64 0)).setCell ⟨t8, 1, none⟩ u).setCell ⟨t8, 2, none⟩ (.bool false) = Y ∧ B3 W t8 (.int .i64 0) k (.bool false) ∧ KSt w0 t8 t9 t10 p B Y u k2 a s :=
  ⟨_, rfl, .of h.q, put3 h.q, (heap_put3 h1).trans h.x, (heap_put3 h2).trans h.e, h.ro.put3 h.q rfl hB, below_put3 h.low hw⟩
theorem KSt.pute {w0 W : World} {t8 t9 t10 B : Nat} {p : RdP} {k k2 : Value} {a : ByteArray} {s : Bool} (h : KSt w0 t8 t9 t10 p B W k k2 a s) (h1 : t9 ≠ t10) (h2 : t8 ≠ t10) (hB : B ≤ t10) (hw : w0.heap.size ≤ t10) (u : Value) :
    ∃ Y, ((W.setCell ⟨t10, 0, none⟩ (.int .i64 0)).setCell ⟨t10, 1, none⟩ u).setCell ⟨t10, 2, none⟩ (.bool false) = Y ∧ B3 W t10 (.int .i64 0) k2 (.bool false) ∧ KSt w0 t8 t9 t10 p B Y k u a s ∧ (∀ b, b ≠ t10 → Y.heap[b]? = W.heap[b]?) :=
  ⟨_, rfl, .of h.e, ⟨(heap_put3 h2).trans h.q, (heap_put3 h1).trans h.x, put3 h.e, h.ro.put3 h.e rfl hB, below_put3 h.low hw⟩, fun _ hb => heap_put3 hb⟩
set_option maxRecDepth 100000 in
set_option maxHeartbeats 4000000 in
theorem key_ex (p : RdP) (ov : Value) (w : World) (h : Rd w p ov) :
    Calls Tryz.prog 71 #[.pointer (some ⟨p.rb, 0, none⟩), .agg #[.int .i64 0, .int .i64 0, .bool false]] w
      fun e w' => e = .returned (.tuple #[.slice none 0 0, .int .i64 0, .bool false]) ∧ Below w.heap.size w w' := by
  obtain ⟨V, hV, hbV, hrV, hsV⟩ := box3 w (.int .i64 0) (.int .i64 0) (.bool false) 100
  have hVr := h.below hbV
  have l0 := hVr.l0
  obtain ⟨b0, b1, b2, _⟩ := B3.of hrV
  have HN : Hid (∀ W, Below V.heap.size V W → Calls Tryz.prog 27 #[.slice (some ⟨p.lb, 0, none⟩) 1 p.lc] W fun e w' => e = .returned (.pointer (some ⟨W.heap.size, 0, none⟩)) ∧ NRd W W.heap.size p.lb p.lc p.xb p.xc w') := fun W hW => newReader_ex p.lb p.lc p.xb p.xc W (hVr.below hW).line (hVr.below hW).lc
  have HV := Lib.hid (And.intro hbV hrV)
  have HS : Hid (∀ W, Below V.heap.size V W → W.cell? ⟨p.rb, 0, none⟩ = some (.slice (some ⟨p.lb, 0, none⟩) 1 p.lc) ∧ W.cell? ⟨w.heap.size, 0, none⟩ = some (.int .i64 0)) := fun W hW => ⟨(hVr.below hW).l0, (B3.of ((hW.block _ (lt_of_row hrV)).trans hrV)).1⟩
  have Hd : Hid (∀ n, Below V.heap.size V (V.drewN n)) := fun n => below_drewN (Below.refl _ V) n
  have hw1 : IntKind.i64.wrap 1 = 1 := by decide
  have hlc := h.lc
  have hlcI : (1 : Int) ≤ (p.lc : Int) := by omega
  clear h hVr hbV hrV hsV hlc
  go_enter Tryz.func71, Tryz.ntmps71
  go_wp2_with fail
  go_quiet (fail)
  go_wp2_with fail
  go_region_held3 (fun W => W.cell? ⟨p.rb, 0, none⟩ = some (.slice (some ⟨p.lb, 0, none⟩) 1 p.lc) ∧ W.cell? ⟨w.heap.size, 0, none⟩ = some (.int .i64 0))
    (first | exact HS.out _ (Hd.out _) | exact HS.out _ (Hd.out _).drew | exact HS.out _ Hb1.out)
    (first | (go_at_call 27; (first | refine (HN.out _ (Hd.out _)).mono ?_ | refine (HN.out _ (Hd.out _).drew).mono ?_); rintro e w1 ⟨rfl, fb, fc, tb, tc, hrd, hb1⟩; have Hrd := Lib.hid hrd; have Hb1 : Hid (Below V.heap.size V w1) := (Hd.out _).trans hb1; clear hrd hb1))
  have hrd := Hrd.out
  obtain ⟨U1, Z1, hU1, hZ1, ⟨c0, c1, c2, e0, e1, e2⟩, hz1, hbZ1⟩ := box_put w1 (.int .i64 0)
  obtain ⟨P1, hP1, hbP1, hrP1, hsP1⟩ := box3 Z1 (.string ⟨#[]⟩) (.string ⟨#[]⟩) (.bool false) 103
  obtain ⟨U2, Z2, hU2, hZ2, ⟨i0, i1, i2, j0, j1, j2⟩, hz2, hbZ2⟩ := box_put P1 (.int .i64 0)
  have hv1 : w1.heap[w.heap.size]? = some (krow (.int .i64 0)) := (Hb1.out.block _ (lt_of_row HV.out.2)).trans HV.out.2
  obtain ⟨d0, d1, d2, _⟩ := B3.of hv1
  have ht8 := (hbP1.block _ (lt_of_row hz1)).trans hz1
  obtain ⟨k0, k1, k2, _⟩ := B3.of ht8
  have hbZ := below_then (below_then hbZ1 hbP1) hbZ2
  have HT : Hid (w.heap.size ≤ w1.heap.size ∧ w1.heap.size < Z1.heap.size ∧ Z1.heap.size < P1.heap.size ∧ P1.heap.size < Z2.heap.size) := ⟨(below_then HV.out.1 Hb1.out).size, lt_of_row hz1, by omega, lt_of_row hz2⟩
  have HZ : Hid (KSt w w1.heap.size Z1.heap.size P1.heap.size ⟨V.heap.size, p.lb, p.lc, fb, fc, tb, tc, p.xb, p.xc⟩ w1.heap.size Z2 (.int .i64 0) (.int .i64 0) ⟨#[]⟩ false) :=
    ⟨(hbZ2.block _ (lt_of_row ht8)).trans ht8, (hbZ2.block _ (lt_of_row hrP1)).trans hrP1, hz2, hrd.ro.below hbZ, below_then (below_then HV.out.1 Hb1.out) hbZ⟩
  clear hrd hz1 hbZ1 hbP1 hrP1 hsP1 hz2 hbZ2 hv1 ht8 hbZ
  go_wp2_with fail
  have HK : Hid (∃ q1 : RdP, q1 = ⟨V.heap.size, p.lb, p.lc, fb, fc, tb, tc, p.xb, p.xc⟩ ∧ q1.rb = V.heap.size) := ⟨_, rfl, rfl⟩
  obtain ⟨q1, hq1, hq1b⟩ := HK.out
  rw [← hq1] at HZ
  rw [← hq1b]
  have HTr : Hid (P1.heap.size ≠ q1.rb) := by have := HT.out; have := lt_of_row (HV.out.2); have := Hb1.out.size; show P1.heap.size ≠ q1.rb; omega
  have HTw : Hid (w.heap.size ≤ q1.rb) := by have := HV.out.1.size; show w.heap.size ≤ q1.rb; omega
  clear HK hq1 hq1b c0 c1 c2 e0 e1 e2 i0 i1 i2 j0 j1 j2 d0 d1 d2 k0 k1 k2 b0 b1 b2 l0 hU1 hZ1 hP1 hU2 hZ2 hV Hrd Hb1 HN HV Hd HS hw1 hlcI
  go_loopw [] (fun wr => Hid (KSt w w1.heap.size Z1.heap.size P1.heap.size q1 w1.heap.size wr (.int .i64 0) (.int .i64 0) ⟨#[]⟩ false) ∨ Hid (KSt w w1.heap.size Z1.heap.size P1.heap.size q1 w1.heap.size wr (.int .i64 3) (.int .i64 2) ⟨#[97]⟩ true)) (fun wr => mzc (wr.cell? ⟨w1.heap.size, 1, none⟩))
  case atStart => exact .inl HZ
  case round =>
    clear HZ
    rcases hrel with HA | HA
    · have f3 := HA.out.ro.rd.flt
      obtain ⟨b0, b1, b2, _⟩ := B3.of HA.out.q
      go_wp2_with (first
        | (go_at_call 73; refine (prop_amp q1 Z1.heap.size (.slice none 0 0) wr HA.out.ro.rd HA.out.x).mono ?_; rintro e w2 ⟨rfl, hbar, hx2⟩; obtain ⟨U3, Z3, hU3, hZ3, ⟨c0, c1, c2, g0, g1, g2⟩, hz3, hbZ3⟩ := box_put w2 (.int .i64 2); have hs2 := (HA.out.amp hbar hx2 (by have := HT.out; omega) (by have := HT.out; omega) (by have := HT.out; omega) (by have := HT.out; omega)).below hbZ3; obtain ⟨Y4, hY4, ⟨d0, d1, d2, e0, e1, e2⟩, hs4, ho4⟩ := hs2.pute (by have := HT.out; omega) (by have := HT.out; omega) (by have := HT.out; omega) (by have := HT.out; omega) (.int .i64 2); obtain ⟨i0, i1, i2, _⟩ := B3.of hz3; have hlt := lt_of_row hs2.e; have hz4 := (ho4 w2.heap.size (by have := lt_of_row ((hbar.block _ (lt_of_row HA.out.e) (show P1.heap.size ≠ Z1.heap.size by have := HT.out; omega)).trans HA.out.e); omega)).trans hz3; obtain ⟨j0, j1, j2, _⟩ := B3.of hz4; have H4 := Lib.hid hs4; clear hbar hx2 hz3 hbZ3 hs2 hs4 ho4 hlt hz4)
        | (go_at_call 66; refine (past_one q1 2 (.slice none 0 0) Y4 H4.out.ro.rd (by omega) (by decide) (by decide)).mono ?_; rintro e w5 ⟨rfl, hb5⟩; obtain ⟨Y6, hY6, ⟨k0, k1, k2, l0, l1, l2⟩, hs6⟩ := (H4.out.below hb5).putq (by have := HT.out; omega) (by have := HT.out; omega) (by have := HT.out; omega) (by have := HT.out; omega) (.int .i64 3); obtain ⟨m0, m1, m2, _⟩ := B3.of hs6.q; have H6 := Lib.hid hs6; clear hb5 hs6))
      go_roundw
      case rel => exact .inr H6.out
      case measure => rw [b1, m1]; decide
    · have f3 := HA.out.ro.rd.flt
      obtain ⟨b0, b1, b2, _⟩ := B3.of HA.out.q
      obtain ⟨rv, hrv⟩ : ∃ z, restV q1 3 = z := ⟨_, rfl⟩
      have HRe : Hid (∀ W, Ro W q1 w1.heap.size (.slice none 0 0) [] → Calls Tryz.prog 67 #[.pointer (some ⟨q1.rb, 0, none⟩), .agg #[.int .i64 0, .int .i64 3, .bool false]] W fun e w' => e = .returned rv ∧ Below W.heap.size W w') := fun W hW => hrv ▸ rest_any q1 3 _ W hW.rd (by omega)
      clear hrv
      go_wp2_with (first
        | (go_at_call 73; refine (prop_no q1 3 _ (.slice none 0 0) wr HA.out.ro.rd (by omega) (by decide) (by decide)).mono ?_; rintro e w2 ⟨rfl, hb2⟩; obtain ⟨U3, Z3, hU3, hZ3, ⟨c0, c1, c2, g0, g1, g2⟩, hz3, hbZ3⟩ := box_put w2 (.int .i64 3); have hs3 := HA.out.below (below_then hb2 hbZ3); obtain ⟨d0, d1, d2, _⟩ := B3.of hs3.q; have H3 := Lib.hid hs3; clear hb2 hbZ3 hz3 hs3)
        | (go_at_call 67; refine (HRe.out Z3 H3.out.ro).mono ?_; rintro e w3 ⟨rfl, hb3⟩; have hs4 := H3.out.below hb3; obtain ⟨e0, e1, e2, _⟩ := B3.of hs4.q; have H4 := Lib.hid hs4; clear hb3 hs4)
        | (go_at_call 87; refine (see_any q1 3 (.slice none 0 0) w3 H4.out.ro.rd (by omega)).mono ?_; rintro e w4 ⟨rfl, hb4⟩; have h91 : seeV 3 = 91 := rfl; rw [h91]; have hs5 := H4.out.below hb4; obtain ⟨i0, i1, i2, _⟩ := B3.of hs5.q; obtain ⟨j0, j1, j2, _⟩ := B3.of hs5.x; obtain ⟨k0, k1, k2, _⟩ := B3.of hs5.e; have f3' := hs5.ro.rd.flt; have H5 := Lib.hid hs5; clear hb4 hs5 h91)
        | (go_at_call 90; refine (content_list q1 w1.heap.size 2 ⟨#[97]⟩ true (.slice none 0 0) [] w4 H5.out.ro (by simp)).mono ?_; rintro e w5 ⟨rfl, ov5, hro5, hwr5⟩; have h5e := hwr5.row H5.out.e rfl HTr.out; obtain ⟨Y5, hY5, ⟨m0, m1, m2, n0, n1, n2⟩, h5r, _, h5b⟩ := re_put h5e (.int .i64 7); have hro6 := hro5.put3 (x := .int .i64 0) (y := .int .i64 7) (z := .bool false) h5e rfl (show w1.heap.size ≤ P1.heap.size by have := HT.out; omega); rw [hY5] at hro6; have hlow : Below w.heap.size w Y5 := (H5.out.low.trans ⟨hwr5.os, hwr5.tape, hwr5.output, hwr5.size, fun b hb => hwr5.low (by have := HT.out; omega) (Nat.lt_of_lt_of_le hb H5.out.low.size) (by have := HTw.out; omega)⟩).trans (h5b.mono (by have := HT.out; omega)); obtain ⟨o0, o1, o2, _⟩ := B3.of h5r; have H6 := Lib.hid (And.intro h5r (And.intro hro6 hlow)); clear hro5 hwr5 h5e h5r h5b hro6 hlow))
      have HC : Hid (∀ W, Below Y5.heap.size Y5 W → W.heap[P1.heap.size]? = some (krow (.int .i64 7)) ∧ Rd W q1 ov5 ∧ Below w.heap.size w W) := fun W hW => ⟨(hW.block _ (lt_of_row H6.out.1)).trans H6.out.1, H6.out.2.1.rd.below hW, below_then H6.out.2.2 hW⟩
      have HC3 : Hid (∀ W, Below Y5.heap.size Y5 W → W.cell? ⟨P1.heap.size, 0, none⟩ = some (.int .i64 0) ∧ W.cell? ⟨P1.heap.size, 1, none⟩ = some (.int .i64 7) ∧ W.cell? ⟨P1.heap.size, 2, none⟩ = some (.bool false)) := fun W hW => by
        obtain ⟨h0, h1, h2, _⟩ := B3.of (HC.out W hW).1
        exact ⟨h0, h1, h2⟩
      have Hz : Hid (Below Y5.heap.size Y5 Y5.drew) := (Below.refl _ _).drew
      have HWk : Hid (IntKind.i64.wrap 7 = 7) := (by decide : IntKind.i64.wrap 7 = 7)
      have HR7 : Hid (∀ W, Below Y5.heap.size Y5 W → Calls Tryz.prog 67 #[.pointer (some ⟨q1.rb, 0, none⟩), .agg #[.int .i64 0, .int .i64 7, .bool false]] W fun e w' => e = .returned (.slice none 0 0) ∧ Below Y5.heap.size Y5 w') := fun W hW => (rest_end q1 ov5 W (HC.out W hW).2.1).mono fun e w' h => ⟨h.1, below_then hW h.2⟩
      have HPn : Hid (∀ W, Calls Tryz.prog 42 #[.slice none 0 0] W fun e w' => e = .returned (.int .i64 0) ∧ W = w') := fun W => Past_any none 0 [] W (by simp) (fun h => by simp at h)
      have HS7 : Hid (∀ W, Below Y5.heap.size Y5 W → Calls Tryz.prog 87 #[.pointer (some ⟨q1.rb, 0, none⟩), .agg #[.int .i64 0, .int .i64 7, .bool false]] W fun e w' => e = .returned (.int .i64 0) ∧ Below Y5.heap.size Y5 w') := fun W hW => (see_any q1 7 ov5 W (HC.out W hW).2.1 (by omega)).mono fun e w' h => ⟨h.1, below_then hW h.2⟩
      go_region_held3 (fun W => W.cell? ⟨P1.heap.size, 0, none⟩ = some (.int .i64 0) ∧ W.cell? ⟨P1.heap.size, 1, none⟩ = some (.int .i64 7) ∧ W.cell? ⟨P1.heap.size, 2, none⟩ = some (.bool false))
        (first | exact HC3.out _ Hz.out | exact HC3.out _ Hb7.out | (rw [HWk.out]; exact HQ.out) | exact HQ.out)
        (first
          | (go_at_call 67; refine (HR7.out _ Hz.out).mono ?_; rintro e w7 ⟨rfl, hb7⟩; have Hb7 := Lib.hid hb7; obtain ⟨u0, u1, u2, _, f1, _⟩ := B3.of (HC.out w7 hb7).1; have HQ : Hid ((w7.setCell ⟨P1.heap.size, 1, none⟩ (.int .i64 7)).cell? ⟨P1.heap.size, 0, none⟩ = some (.int .i64 0) ∧ (w7.setCell ⟨P1.heap.size, 1, none⟩ (.int .i64 7)).cell? ⟨P1.heap.size, 1, none⟩ = some (.int .i64 7) ∧ (w7.setCell ⟨P1.heap.size, 1, none⟩ (.int .i64 7)).cell? ⟨P1.heap.size, 2, none⟩ = some (.bool false)) := (by have hr := Go.Joins.block_setCell (i := 1) (HC.out w7 hb7).1 (.int .i64 7); exact ⟨Lib.cell_of_heap hr 0, Lib.cell_of_heap hr 1, Lib.cell_of_heap hr 2⟩); clear hb7)
          | (go_at_call 42; refine (HPn.out _).mono ?_; rintro e w' ⟨rfl, rfl⟩))
      try rw [HWk.out]
      obtain ⟨X, hX⟩ : ∃ X, w7.setCell ⟨P1.heap.size, 1, none⟩ (.int .i64 7) = X := ⟨_, rfl⟩
      have HX : Hid (Below Y5.heap.size Y5 X) := by rw [← hX]; exact Hb7.out.trans (below_same (HC.out w7 Hb7.out).1 rfl)
      rw [hX]
      clear hX HQ
      obtain ⟨p0, p1, p2⟩ := HC3.out X HX.out
      go_wp2_with (first
        | (go_at_call 67; refine (HR7.out X HX.out).mono ?_; rintro e w8 ⟨rfl, hb8⟩; obtain ⟨r0, r1, r2⟩ := HC3.out w8 hb8; have f8 := (HC.out w8 hb8).2.1.flt; have Hb8 := Lib.hid hb8; clear hb8)
        | (go_at_call 87; refine (HS7.out w8 Hb8.out).mono ?_; rintro e w9 ⟨rfl, hb9⟩; have Hb9 := Lib.hid (HC.out w9 hb9).2.2; clear hb9))
      go_ret3
      exact ⟨rfl, Hb9.out⟩
end Go.Proofs.YtiblamapjekdeaaGreat
