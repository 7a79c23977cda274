/- The reference's Stream at the example. Condition: the line lies there. -/
import Derived.Test.YtiblamapjekdeaaGreatSb
namespace Go.Proofs.YtiblamapjekdeaaGreat
open Go.RowKit
attribute [local go_sem] Oper.semAt_some
abbrev docE : Ev := ⟨1, ⟨#[]⟩, ⟨#[]⟩, ⟨#[]⟩, 0, false⟩
abbrev doneE : Ev := ⟨2, ⟨#[]⟩, ⟨#[]⟩, ⟨#[]⟩, 0, false⟩
abbrev lrE : List Ev := [seqE ⟨#[97]⟩, aliasE, endE]
abbrev exE : List Ev := [docE] ++ lrE ++ [doneE]
abbrev erow (a b c d e f : Value) : Obj := .cells #[a, b, c, d, e, f] 41 (0, 0)
/-- A box of an event, filled. -/
theorem box_ev (w : World) (a b c d e f : Value) : ∃ U Z, w.alloc (.cells #[.int .i64 0, .string ⟨#[]⟩, .string ⟨#[]⟩, .string ⟨#[]⟩, .int .i64 0, .bool false] 41) = U ∧ (((((U.setCell ⟨w.heap.size, 0, none⟩ a).setCell ⟨w.heap.size, 1, none⟩ b).setCell ⟨w.heap.size, 2, none⟩ c).setCell ⟨w.heap.size, 3, none⟩ d).setCell ⟨w.heap.size, 4, none⟩ e).setCell ⟨w.heap.size, 5, none⟩ f = Z ∧ U.heap[w.heap.size]? = some (erow (.int .i64 0) (.string ⟨#[]⟩) (.string ⟨#[]⟩) (.string ⟨#[]⟩) (.int .i64 0) (.bool false)) ∧ Z.heap[w.heap.size]? = some (erow a b c d e f) ∧ Below w.heap.size w Z := by
  have hr := heap_alloc_new w (.cells #[.int .i64 0, .string ⟨#[]⟩, .string ⟨#[]⟩, .string ⟨#[]⟩, .int .i64 0, .bool false] 41)
  refine ⟨_, _, rfl, rfl, hr, Go.Joins.block_setCell (i := 5) (Go.Joins.block_setCell (i := 4) (Go.Joins.block_setCell (i := 3) (Go.Joins.block_setCell (i := 2) (Go.Joins.block_setCell (i := 1) (Go.Joins.block_setCell (i := 0) hr a) b) c) d) e) f, ?_⟩
  have hb : Below w.heap.size w (w.alloc (.cells #[.int .i64 0, .string ⟨#[]⟩, .string ⟨#[]⟩, .string ⟨#[]⟩, .int .i64 0, .bool false] 41)) := (Below.refl _ w).alloc (Nat.le_refl _) _
  exact (((((hb.setCell (p := ⟨w.heap.size, 0, none⟩) (Nat.le_refl _) a).setCell (p := ⟨w.heap.size, 1, none⟩) (Nat.le_refl _) b).setCell (p := ⟨w.heap.size, 2, none⟩) (Nat.le_refl _) c).setCell (p := ⟨w.heap.size, 3, none⟩) (Nat.le_refl _) d).setCell (p := ⟨w.heap.size, 4, none⟩) (Nat.le_refl _) e).setCell (p := ⟨w.heap.size, 5, none⟩) (Nat.le_refl _) f
theorem boxE (w : World) (x : Ev) : ∃ V, w.alloc (.cells #[.int .i64 x.kind, .string x.text, .string x.tag, .string x.anchor, .int .i64 x.style, .bool x.flag] 41) = V ∧ Below w.heap.size w V ∧ V.heap[w.heap.size]? = some (.cells #[.int .i64 x.kind, .string x.text, .string x.tag, .string x.anchor, .int .i64 x.style, .bool x.flag] 41 (0, 0)) ∧ V.heap.size = w.heap.size + 1 :=
  ⟨_, rfl, (Below.refl _ w).alloc (Nat.le_refl _) _, heap_alloc_new w _, by simp⟩
theorem wpList_outN {W : World} {ops : Array Oper} {rest : List Oper} {o : Oper} {a : Act} {Q : Exit → Act → World → Prop} (hgd : o.guard = none) (s x : Operand)
    (ho : o.op = .call { callee := .builtin .append, args := #[s, x], argTypes := #[22, 22] }) (N : Nat) (v : Value) (L : List Ev) (e : Ev) (m : Nat) (hm : L.length + 1 = m) (h : EOwn W N v L) (hN : N ≤ W.heap.size) (hs : a.eval s = v) (hL : L.length ≤ 100000)
    (n0 : Nat) (hn0 : n0 = W.heap.size) (hx : a.eval x = .slice (some ⟨n0, 0, none⟩) 1 1)
    (k : ∀ A c w', EOwn w' N (.slice A m c) (L ++ [e]) → Below N W w' → wpList Tryz.prog ops Q rest (a.put o.dst (.slice A m c)) w') : wpList Tryz.prog ops Q (o :: rest) a (W.alloc (.cells e.row 41)) := by
  subst hm
  exact wpList_out hgd s x ho N v L e h hN hs hL n0 hn0 hx k
theorem low_below {p : RdP} {w w4 w5 : World} (h4 : Below w.heap.size w w4) (h5 : Wr p w4.heap.size w4 w5) (hr : w.heap.size ≤ p.rb) : Below w.heap.size w w5 :=
  ⟨h5.os.trans h4.os, h5.tape.trans h4.tape, h5.output.trans h4.output, Nat.le_trans h4.size h5.size, fun b hb => (h5.low (by have := h4.size; omega) (by have := h4.size; omega) (by omega)).trans (h4.block b hb)⟩
theorem take_lr {j : Nat} (h : j < lrE.length) : lrE.take (j + 1) = lrE.take j ++ [evs lrE j] := by
  rw [evs_eq h, List.take_succ_eq_append_getElem h]
theorem lr_tag {j : Nat} (h : j < lrE.length) : (evs lrE j).tag = ⟨#[]⟩ := by
  match j, h with
  | 0, _ => rfl
  | 1, _ => rfl
  | 2, _ => rfl
theorem evsAt_of_own {w : World} {N : Nat} {v : Value} {L : List Ev} {m : Nat} {A : Option Addr} {c : Nat} (h : EOwn w N v L) (hv : v = .slice A m c) : m ≤ c ∧ EvsAt w w.heap.size A L := by
  obtain ⟨A', c', h1, h2, h3⟩ := evsAt_own h
  rw [hv] at h1
  cases h1
  exact ⟨h2, h3⟩
def StrR (w : World) (e : Ending) (w' : World) : Prop := ∃ A c, e = .returned (.tuple #[.slice A 5 c, .int .i64 0]) ∧ 5 ≤ c ∧ EvsAt w' w'.heap.size A exE ∧ Below w.heap.size w w'
set_option maxRecDepth 100000 in
set_option maxHeartbeats 1000000 in
theorem Stream_ex (lb lc xb xc : Nat) (w : World) (hL : LnT w lb 0 xb xc) (hc : 1 ≤ lc) :
    Calls Tryz.prog 16 #[.slice (some ⟨lb, 0, none⟩) 1 lc] w (StrR w) := by
  have l0 := hL.2.1
  have l1 := hL.2.2.1
  obtain ⟨U, hU⟩ : ∃ U, w.alloc (.cells #[.int .i64 0, .slice none 0 0] 64) = U := ⟨_, rfl⟩
  have hrU : U.heap[w.heap.size]? = some (.cells #[.int .i64 0, .slice none 0 0] 64 (0, 0)) := by rw [← hU]; exact heap_alloc_new w _
  have hbU : Below w.heap.size w U := by rw [← hU]; exact (Below.refl _ w).alloc (Nat.le_refl _) _
  obtain ⟨Z, hZ⟩ : ∃ Z, (U.setCell ⟨w.heap.size, 0, none⟩ (.int .i64 0)).setCell ⟨w.heap.size, 1, none⟩ (.slice (some ⟨xb, 0, none⟩) 7 xc) = Z := ⟨_, rfl⟩
  have hrZ : Z.heap[w.heap.size]? = some (.cells #[.int .i64 0, .slice (some ⟨xb, 0, none⟩) 7 xc] 64 (0, 0)) := by rw [← hZ]; exact Go.Joins.block_setCell (i := 1) (Go.Joins.block_setCell (i := 0) hrU _) _
  have hbZ : Below w.heap.size w Z := by rw [← hZ]; exact (hbU.setCell (p := ⟨w.heap.size, 0, none⟩) (Nat.le_refl _) _).setCell (p := ⟨w.heap.size, 1, none⟩) (Nat.le_refl _) _
  have u0 := Lib.cell_of_heap hrU 0
  have u1 := Lib.cell_of_heap hrU 1
  have v0 := Go.Joins.unfrozen_of_block hrU 0
  have v1 := Go.Joins.unfrozen_of_block hrU 1
  have z0 := Lib.cell_of_heap hrZ 0
  have z1 := Lib.cell_of_heap hrZ 1
  have HZ : Hid (∀ W, Below Z.heap.size Z W → W.heap[w.heap.size]? = some (.cells #[.int .i64 0, .slice (some ⟨xb, 0, none⟩) 7 xc] 64 (0, 0)) ∧ LnT W lb 0 xb xc ∧ Below w.heap.size w W) := fun W hW => ⟨(hW.block _ (lt_of_row hrZ)).trans hrZ, hL.below (below_then hbZ hW), below_then hbZ hW⟩
  have Hc := Lib.hid hc
  clear hrU hbU hrZ hbZ hc
  go_enter Tryz.func16, Tryz.ntmps16
  go_wp2_with fail
  go_loopw [4, 5, 6] (fun o f i wr => (o = .slice none 0 0 ∧ f = .bool true ∧ i = .int .i64 0 ∧ wr = w) ∨ (i = .int .i64 1 ∧ ∃ A c, o = .slice A 5 c ∧ Hid (5 ≤ c ∧ EvsAt wr wr.heap.size A exE ∧ Below w.heap.size w wr))) (fun _ _ i _ => 1 - (intOf i).toNat)
  case atStart => exact .inl ⟨rfl, rfl, rfl, rfl⟩
  case round =>
    rcases hrel with ⟨rfl, rfl, rfl, rfl⟩ | ⟨rfl, A, c, rfl, HE⟩
    · go_wp2_with (first
        | (go_at_call 23; refine (Marker_ex xb xc Z (HZ.out Z (Below.refl _ _)).2.1.2.2.2).mono ?_; rintro e w1 ⟨rfl, hb1⟩; have hr1 := (HZ.out w1 hb1).1; have y0 := Lib.cell_of_heap hr1 0; have y1 := Lib.cell_of_heap hr1 1; have Hb1 := Lib.hid hb1; clear hb1 hr1)
        | (go_at_call 24; refine (Bare_ex xb xc w1 (HZ.out w1 Hb1.out).2.1.2.2.2).mono ?_; rintro e w2 ⟨rfl, hb2⟩; have hb12 := below_then Hb1.out hb2; obtain ⟨S, hS⟩ : ∃ S, w2.alloc (.cells #[.slice none 0 0] 70) = S := ⟨_, rfl⟩; have hbS : Below Z.heap.size Z S := (by rw [← hS]; exact below_then hb12 ((Below.refl _ _).alloc (Nat.le_refl _) _)); have hr2 := (HZ.out S hbS).1; have x0 := Lib.cell_of_heap hr2 0; have x1 := Lib.cell_of_heap hr2 1; have t0 : S.cell? ⟨xb, 0, none⟩ = some (.int .i64 38) := (HZ.out S hbS).2.1.2.2.2.2.2 0 (by omega); have HbS := Lib.hid hbS; clear hb2 hb12 hbS hr2)
        | (go_at_call 27; refine (newReader_ex lb lc xb xc S (HZ.out S HbS.out).2.1 Hc.out).mono ?_; rintro e w4 ⟨rfl, fb, fc, tb, tc, hrd, hb4⟩; obtain ⟨q1, hq1⟩ : ∃ q1 : RdP, q1 = ⟨S.heap.size, lb, lc, fb, fc, tb, tc, xb, xc⟩ := ⟨_, rfl⟩; rw [← hq1] at hrd; have HQ : Hid (Z.heap.size ≤ q1.rb) := (by rw [hq1]; exact HbS.out.size); have hq1b : q1.rb = S.heap.size := (by rw [hq1]); rw [← hq1b]; have H4 := Lib.hid (And.intro hrd.ro (below_then HbS.out hb4)); clear hrd hb4 hq1 hq1b)
        | (go_at_call 28; (with_reducible refine (document_ex q1 w4.heap.size w4 H4.out.1).mono ?_); rintro e w5 ⟨rfl, ov5, hro5, hwr5⟩; have hlw := (HZ.out w5 (low_below H4.out.2 hwr5 HQ.out)).2.2; have hq3 := Lib.cell_of_heap hro5.rd.row 3; have hq4 := Lib.cell_of_heap hro5.rd.row 4; obtain ⟨A6, c6, rfl, hc6, hE6⟩ := evsAt_own hro5.own; have hrb5 := hro5.rd.lt; have H5 : Hid (∀ W, Below w5.heap.size w5 W → W.cell? ⟨q1.rb, 3, none⟩ = some (.int .i64 0) ∧ W.cell? ⟨q1.rb, 4, none⟩ = some (.slice A6 3 c6) ∧ EvsAt W w5.heap.size A6 lrE ∧ Below wr.heap.size wr W) := (fun W hW => ⟨(hW.cell (p := ⟨q1.rb, 3, none⟩) hrb5).trans hq3, (hW.cell (p := ⟨q1.rb, 4, none⟩) hrb5).trans hq4, hE6.below hW (Nat.le_refl _), hlw.trans (hW.mono hlw.size)⟩); clear hlw hro5 hwr5 hE6 hrb5)
        | (at_builtin; refine wpList_outN rfl _ _ rfl w5.heap.size (.slice none 0 0) [] docE 1 rfl ⟨rfl, .inl ⟨rfl, rfl⟩⟩ (Nat.le_refl _) rfl (by decide) w5.heap.size rfl (by rfl) ?_; intro A7 c7 w6 ho7 hb7; have H7 := Lib.hid (And.intro ho7 hb7); clear ho7 hb7))
      go_loopw [4, 17] (fun o j wr2 => ∃ (m : Nat) (A : Option Addr) (c : Nat), m ≤ 3 ∧ j = .int .i64 (m : Int) ∧ o = .slice A (m + 1) c ∧ Hid (EOwn wr2 w5.heap.size (.slice A (m + 1) c) ([docE] ++ lrE.take m)) ∧ Hid (Below w5.heap.size w5 wr2)) (fun _ j _ => 3 - (intOf j).toNat)
      case atStart => exact ⟨0, A7, c7, Nat.zero_le _, rfl, rfl, H7.out.1, H7.out.2⟩
      case round =>
        obtain ⟨m, A, c, hm, rfl, rfl, hO, hb⟩ := hrel
        obtain ⟨r3, r4, rE, rB⟩ := H5.out _ hb.out
        by_cases hlt : m < 3
        · have hlt3 : m < lrE.length := hlt
          have hltI : (m : Int) < 3 := by omega
          obtain ⟨b6, o6, rfl, hb6, hcell⟩ := rE (by decide)
          have hce := hcell m hlt3
          have htk := take_lr hlt3
          have htg := lr_tag hlt3
          obtain ⟨e, he⟩ : ∃ e, evs lrE m = e := ⟨_, rfl⟩
          rw [he] at hce htk htg
          obtain ⟨kd, tx, tg, an, st, fl⟩ := e
          simp only at htg
          subst htg
          obtain ⟨X, hX, hbX, hrX, hsX⟩ := boxE wr ⟨kd, tx, ⟨#[]⟩, an, st, fl⟩
          obtain ⟨X2, hX2⟩ : ∃ X2, X.setCell ⟨wr.heap.size, 2, none⟩ (.string ⟨#[]⟩) = X2 := ⟨_, rfl⟩
          have hrX2 : X2.heap[wr.heap.size]? = some (.cells #[.int .i64 kd, .string tx, .string ⟨#[]⟩, .string an, .int .i64 st, .bool fl] 41 (0, 0)) := by rw [← hX2]; exact Go.Joins.block_setCell (i := 2) hrX _
          have hbX2 : Below wr.heap.size wr X2 := by rw [← hX2]; exact hbX.setCell (p := ⟨wr.heap.size, 2, none⟩) (Nat.le_refl _) _
          obtain ⟨c0, c1, c2, c3, c4, c5⟩ := hce
          have y0 := Lib.cell_of_heap hrX2 0
          have y1 := Lib.cell_of_heap hrX2 1
          have y2 := Lib.cell_of_heap hrX2 2
          have y3 := Lib.cell_of_heap hrX2 3
          have y4 := Lib.cell_of_heap hrX2 4
          have y5 := Lib.cell_of_heap hrX2 5
          have x2 := Lib.cell_of_heap hrX 2
          have f2 := Go.Joins.unfrozen_of_block hrX 2
          have HO2 : Hid (EOwn X2 w5.heap.size (.slice A (m + 1) c) ([docE] ++ lrE.take m)) := ownsRow_below hO.out hbX2
          have HB2 : Hid (Below w5.heap.size w5 X2) := hb.out.trans (hbX2.mono hb.out.size)
          have hlen : ([docE] ++ lrE.take m).length + 1 = m + 1 + 1 := by rw [List.length_append, List.length_take]; show 1 + min m 3 + 1 = _; omega
          have HT : Hid ([docE] ++ lrE.take (m + 1) = [docE] ++ lrE.take m ++ [⟨kd, tx, ⟨#[]⟩, an, st, fl⟩]) := by show _ = _; rw [htk, List.append_assoc]
          have HWh : Hid (∀ v, Calls Tryz.prog 29 #[v, .string ⟨#[]⟩] X fun e w' => e = .returned (.tuple #[.string ⟨#[]⟩, .int .i64 0]) ∧ X = w') := fun v => Whole_nil v X
          clear hcell htk he hrX hsX hbX hrX2 hbX2 hm rB r3 hlt3
          go_wp2_with (first
            | (go_at_call 29; refine (HWh.out _).mono ?_; rintro e w6 ⟨rfl, rfl⟩)
            | (at_builtin; refine wpList_outN rfl _ _ rfl w5.heap.size (.slice A (m + 1) c) ([docE] ++ lrE.take m) ⟨kd, tx, ⟨#[]⟩, an, st, fl⟩ (m + 1 + 1) hlen HO2.out HB2.out.size rfl (by omega) X2.heap.size rfl (by rfl) ?_; intro A8 c8 w8 ho8 hb8))
          go_roundw
          case rel => exact ⟨m + 1, A8, c8, by omega, by go_num, rfl, by rw [HT.out]; exact ho8, HB2.out.trans hb8⟩
          case measure => simp [intOf]; omega
        · obtain rfl : m = 3 := by omega
          have hO3 := hO.out
          have hrn : ¬ ((3 : Int) < 3) := by omega
          have HwB := Lib.hid rB
          clear rE rB r3 hm
          go_wp2_with (first
            | (at_builtin; refine wpList_outN rfl _ _ rfl w5.heap.size (.slice A (3 + 1) c) ([docE] ++ lrE.take 3) doneE 5 rfl hO.out hb.out.size rfl (by decide) wr.heap.size rfl (by rfl) ?_; intro A8 c8 w8 ho8 hb8))
          refine ⟨.inr ⟨rfl, A8, c8, rfl, ?_⟩, by decide⟩
          obtain ⟨q1, q2⟩ := evsAt_of_own ho8 rfl
          exact ⟨q1, q2, HwB.out.trans (hb8.mono (H5.out w5 (Below.refl _ _)).2.2.2.size)⟩
    · have Hx := HE.out
      clear HE
      go_wp2_with fail
      go_ret2
      exact ⟨A, c, rfl, Hx.1, Hx.2.1, Hx.2.2⟩
end Go.Proofs.YtiblamapjekdeaaGreat
