/- Rows of events; the reader with what it told. No condition. -/
import Derived.Test.YtiblamapjekdeaaGreatKg
import Derived.Test.YtiblamapjekdeaaGreatEvO
import Derived.Deep.AppendLies
import Derived.Laws.AppendOwnNone
import Derived.Deep.RegionLaw
import Derived.Maps.AppendAt
namespace Go.Proofs.YtiblamapjekdeaaGreat
open Go.RowKit Go.ChangeShapes Go.WideShapes Go.ChangeAt Go.Deep
def rows (L : List Ev) : List Value := L.flatMap (fun e => e.row.toList)
theorem rows_len (L : List Ev) : (rows L).length = L.length * 6 := by
  induction L with
  | nil => rfl
  | cons x L ih => simp only [rows, List.flatMap_cons, List.length_append] at ih ⊢; rw [ih]; simp [Ev.row]; omega
theorem rows_append (L M : List Ev) : rows (L ++ M) = rows L ++ rows M := by simp [rows]
theorem rows_get : ∀ (L : List Ev) (k j : Nat), k < L.length → j < 6 → (rows L)[k * 6 + j]? = (evs L k).row[j]?
  | [], k, j, hk, _ => by simp at hk
  | x :: L, 0, j, _, hj => by
    have h : rows (x :: L) = x.row.toList ++ rows L := rfl
    rw [h, List.getElem?_append_left (by simp [Ev.row]; omega)]
    simp [evs]
  | x :: L, k + 1, j, hk, hj => by
    have h : rows (x :: L) = x.row.toList ++ rows L := rfl
    have hs : x.row.toList.length = 6 := by simp [Ev.row]
    rw [h, List.getElem?_append_right (by omega), hs, show (k + 1) * 6 + j - 6 = k * 6 + j by omega, rows_get L k j (by simpa using hk) hj]
    simp [evs]
/-- Cells that lie as a row's say: the events lie there. -/
theorem evsAt_rows {w : World} {b off : Nat} {L : List Ev} {B : Nat} (hb : b < B) (h : ∀ j u, (rows L)[j]? = some u → w.cell? ((⟨b, off, none⟩ : Addr).add j) = some u) : EvsAt w B (some ⟨b, off, none⟩) L := fun _ => by
  refine ⟨b, off, rfl, hb, fun k hk => ?_⟩
  have g : ∀ j (hj : j < 6), w.cell? ⟨b, off + k * 6 + j, none⟩ = some ((evs L k).row[j]'(by simpa [Ev.row] using hj)) := fun j hj => by
    have e := h (k * 6 + j) _ ((rows_get L k j hk hj).trans (Array.getElem?_eq_getElem (by simpa [Ev.row] using hj)))
    rw [Addr.add_lit] at e
    rwa [show off + k * 6 + j = off + (k * 6 + j) by omega]
  exact ⟨g 0 (by omega), g 1 (by omega), g 2 (by omega), g 3 (by omega), g 4 (by omega), g 5 (by omega)⟩
theorem rows_one (L : List Ev) : ∀ u ∈ rows L, u.oneCell' = true := by
  intro u hu
  simp only [rows, List.mem_flatMap, Ev.row, List.mem_cons, List.not_mem_nil, or_false] at hu
  obtain ⟨e, _, rfl | rfl | rfl | rfl | rfl | rfl⟩ := hu <;> rfl
/-- A row of its own holds events: they lie there. -/
theorem evsAt_own {w : World} {B : Nat} {v : Value} {L : List Ev} (h : w.ownsRow B 41 6 v L.length (rows L)) : ∃ A c, v = .slice A L.length c ∧ L.length ≤ c ∧ EvsAt w w.heap.size A L := by
  have h' := h
  rcases h.2 with ⟨rfl, h0⟩ | ⟨g, cap, cur, rfl, _, hg, hc, _⟩
  · rw [List.length_eq_zero_iff.1 h0]
    exact ⟨none, 0, rfl, by simp, EvsAt.nil⟩
  · refine ⟨_, cap, rfl, hc, evsAt_rows (Array.getElem?_eq_some_iff.1 hg).1 (h'.cells (g := g) rfl)⟩
theorem Tryz.infoEvent : (Tryz.prog.info? 41).map (fun i => (i.zero, i.size, i.bytes)) = some (some (.agg #[.int .i64 0, .string ⟨#[]⟩, .string ⟨#[]⟩, .string ⟨#[]⟩, .int .i64 0, .bool false]), 6, 72) := by kernel_rfl
/-- Not what the reader writes. -/
def Loc (p : RdP) (B : Nat) (w : World) (b : Nat) : Prop := b ≠ p.rb ∧ (b < B ∨ ∀ cs fr, w.heap[b]? ≠ some (.cells cs 41 fr))
/-- All as before, but for the reader and its rows of events. -/
structure Wr (p : RdP) (B : Nat) (w w' : World) : Prop where
  os : w'.os = w.os
  tape : w'.tape = w.tape
  output : w'.output = w.output
  size : w.heap.size ≤ w'.heap.size
  block : ∀ b, b < w.heap.size → Loc p B w b → w'.heap[b]? = w.heap[b]?
theorem Wr.refl (p : RdP) (B : Nat) (w : World) : Wr p B w w := ⟨rfl, rfl, rfl, Nat.le_refl _, fun _ _ _ => rfl⟩
theorem Wr.trans {p : RdP} {B : Nat} {a b c : World} (h : Wr p B a b) (k : Wr p B b c) : Wr p B a c :=
  ⟨k.os.trans h.os, k.tape.trans h.tape, k.output.trans h.output, Nat.le_trans h.size k.size, fun x hx hl => by
    have e := h.block x hx hl
    exact (k.block x (Nat.lt_of_lt_of_le hx h.size) ⟨hl.1, hl.2.imp_right fun hh cs fr => by rw [e]; exact hh cs fr⟩).trans e⟩
theorem Wr.of {p : RdP} {B n : Nat} {w w' : World} (h : Below n w w') (hn : w.heap.size ≤ n) : Wr p B w w' := ⟨h.os, h.tape, h.output, h.size, fun b hb _ => h.block b (by omega)⟩
theorem Wr.pre {p : RdP} {B : Nat} {a b c : World} (h : Below a.heap.size a b) (k : Wr p B b c) : Wr p B a c := (Wr.of h (Nat.le_refl _)).trans k
theorem Wr.post {p : RdP} {B : Nat} {a b c : World} (h : Wr p B a b) (k : Below a.heap.size b c) : Wr p B a c :=
  ⟨k.os.trans h.os, k.tape.trans h.tape, k.output.trans h.output, Nat.le_trans h.size k.size, fun x hx hl => (k.block x hx).trans (h.block x hx hl)⟩
theorem Wr.row {p : RdP} {B : Nat} {w w' : World} (h : Wr p B w w') {b : Nat} {cs : Array Value} {t : TypeId} {fr : Nat × Nat} (hr : w.heap[b]? = some (.cells cs t fr)) (ht : (t == 41) = false) (hb : b ≠ p.rb) : w'.heap[b]? = some (.cells cs t fr) :=
  (h.block b (lt_of_row hr) ⟨hb, .inr fun cs' fr' e => by rw [hr] at e; cases e; simp at ht⟩).trans hr
theorem Wr.low {p : RdP} {B : Nat} {w w' : World} (h : Wr p B w w') {b : Nat} (hb : b < B) (hw : b < w.heap.size) (hr : b ≠ p.rb) : w'.heap[b]? = w.heap[b]? := h.block b hw ⟨hr, .inl hb⟩
/-- The reader, and what it told. -/
structure Ro (W : World) (p : RdP) (B : Nat) (ov : Value) (L : List Ev) : Prop where
  rd : Rd W p ov
  own : W.ownsRow B 41 6 ov L.length (rows L)
  b1 : p.rb < B
  b2 : p.lb < B
  b3 : p.fb < B
  b4 : p.tb < B
  b5 : p.xb < B
  b6 : B ≤ W.heap.size
theorem ownsRow_below {w w' : World} {B : Nat} {e : TypeId} {sz n : Nat} {v : Value} {xs : List Value} (h : w.ownsRow B e sz v n xs) (hb : Below w.heap.size w w') : w'.ownsRow B e sz v n xs := by
  rcases h.2 with ⟨rfl, h0⟩ | ⟨g, cap, cur, rfl, hB, hg, hc, r⟩
  · exact ⟨h.1, .inl ⟨rfl, h0⟩⟩
  · exact ⟨h.1, .inr ⟨g, cap, cur, rfl, hB, (hb.block g (Array.getElem?_eq_some_iff.1 hg).1).trans hg, hc, r⟩⟩
theorem Ro.below {W W' : World} {p : RdP} {B : Nat} {ov : Value} {L : List Ev} (h : Ro W p B ov L) (hb : Below W.heap.size W W') : Ro W' p B ov L :=
  ⟨h.rd.below hb, ownsRow_below h.own hb, h.b1, h.b2, h.b3, h.b4, h.b5, Nat.le_trans h.b6 hb.size⟩
theorem Ro.keep {W W' : World} {p : RdP} {B : Nat} {ov : Value} {L : List Ev} (k : Ro W p B ov L) (hsz : W.heap.size ≤ W'.heap.size)
    (hb : ∀ b, b < W.heap.size → (b < B ∨ ∃ cs fr, W.heap[b]? = some (.cells cs 41 fr)) → W'.heap[b]? = W.heap[b]?) : Ro W' p B ov L := by
  have hlow : ∀ b, b < B → W'.heap[b]? = W.heap[b]? := fun b h => hb b (Nat.lt_of_lt_of_le h k.b6) (.inl h)
  have hcell : ∀ b i, b < B → W'.cell? ⟨b, i, none⟩ = W.cell? ⟨b, i, none⟩ := fun b i h => World.cell?_of_block (a := ⟨b, i, none⟩) (hlow b h)
  have r := k.rd
  refine ⟨⟨(hlow _ k.b1).trans r.row, r.lc, r.fc, ?_, Nat.lt_of_lt_of_le r.fb hsz, (hcell _ _ k.b3).trans r.full, ?_, r.n1, r.n2, r.n3, r.n4⟩, ?_, k.b1, k.b2, k.b3, k.b4, k.b5, Nat.le_trans k.b6 hsz⟩
  · obtain ⟨h1, h2, h3, h4, h5, h6⟩ := r.line
    exact ⟨Nat.lt_of_lt_of_le h1 hsz, (hcell _ _ k.b2).trans h2, (hcell _ _ k.b2).trans h3, Nat.lt_of_lt_of_le h4 hsz, h5, fun j hj => (hcell _ _ k.b5).trans (h6 j hj)⟩
  · obtain ⟨h4, h5, h6⟩ := r.text
    exact ⟨Nat.lt_of_lt_of_le h4 hsz, h5, fun j hj => (hcell _ _ k.b4).trans (h6 j hj)⟩
  · rcases k.own.2 with ⟨rfl, h0⟩ | ⟨g, cap, cur, rfl, hB, hg, hc, r⟩
    · exact ⟨k.own.1, .inl ⟨rfl, h0⟩⟩
    · exact ⟨k.own.1, .inr ⟨g, cap, cur, rfl, hB, (hb g (lt_of_row hg) (.inr ⟨_, _, hg⟩)).trans hg, hc, r⟩⟩
theorem Ro.put3 {W : World} {p : RdP} {B r : Nat} {ov a b c x y z : Value} {L : List Ev} {t : TypeId} (k : Ro W p B ov L) (h : W.heap[r]? = some (.cells #[a, b, c] t (0, 0))) (ht : (t == 41) = false) (hr : B ≤ r) : Ro (((W.setCell ⟨r, 0, none⟩ x).setCell ⟨r, 1, none⟩ y).setCell ⟨r, 2, none⟩ z) p B ov L :=
  k.keep (by simp) fun j _ hj => heap_put3 (by
    rintro rfl
    rcases hj with h1 | ⟨cs, fr, h1⟩
    · omega
    · rw [h] at h1; cases h1; simp at ht)
/-- What an append of an event to the reader's row leaves. -/
structure Say (p : RdP) (B : Nat) (W w' : World) (v' : Value) (L : List Ev) : Prop where
  wr : Wr p B W w'
  rb : w'.heap[p.rb]? = W.heap[p.rb]?
  own : w'.ownsRow B 41 6 v' L.length (rows L)
theorem Say.cell {p : RdP} {B : Nat} {W w' : World} {v' ov : Value} {L M : List Ev} (h : Say p B W w' v' L) (k : Ro W p B ov M) : w'.cell? ⟨p.rb, 4, none⟩ = some ov ∧ w'.frozen? ⟨p.rb, 4, none⟩ = false :=
  have e := h.rb.trans k.rd.row
  ⟨Lib.cell_of_heap e 4, Go.Joins.unfrozen_of_block e 4⟩
theorem Say.form {p : RdP} {B : Nat} {W w' : World} {v' : Value} {M : List Ev} {e : Ev} (h : Say p B W w' v' (M ++ [e])) : ∃ A c, v' = .slice A (M.length + 1) c := by
  obtain ⟨A, c, h1, _⟩ := evsAt_own h.own
  exact ⟨A, c, by rw [h1, List.length_append]; rfl⟩
/-- The row is stored. -/
theorem Say.stored {p : RdP} {B : Nat} {W w' : World} {v' ov : Value} {L M : List Ev} (h : Say p B W w' v' L) (k : Ro W p B ov M) : Ro (w'.setCell ⟨p.rb, 4, none⟩ v') p B v' L ∧ Wr p B W (w'.setCell ⟨p.rb, 4, none⟩ v') := by
  have hw : Wr p B W (w'.setCell ⟨p.rb, 4, none⟩ v') := ⟨h.wr.os, h.wr.tape, h.wr.output, by simpa using h.wr.size, fun b hb hl => (Below.heap_setCell w' ⟨p.rb, 4, none⟩ v' b hl.1).trans (h.wr.block b hb hl)⟩
  have hlow : ∀ b, b < B → b ≠ p.rb → (w'.setCell ⟨p.rb, 4, none⟩ v').heap[b]? = W.heap[b]? := fun b hb hn => hw.low hb (Nat.lt_of_lt_of_le hb k.b6) hn
  have hcell : ∀ b i, b < B → b ≠ p.rb → (w'.setCell ⟨p.rb, 4, none⟩ v').cell? ⟨b, i, none⟩ = W.cell? ⟨b, i, none⟩ := fun b i hb hn => World.cell?_of_block (a := ⟨b, i, none⟩) (hlow b hb hn)
  have hsz := hw.size
  have r := k.rd
  refine ⟨⟨⟨?_, r.lc, r.fc, ?_, Nat.lt_of_lt_of_le r.fb hsz, ?_, ?_, r.n1, r.n2, r.n3, r.n4⟩, ?_, k.b1, k.b2, k.b3, k.b4, k.b5, Nat.le_trans k.b6 hsz⟩, hw⟩
  · exact Go.Joins.block_setCell (i := 4) (h.rb.trans r.row) v'
  · obtain ⟨h1, h2, h3, h4, h5, h6⟩ := r.line
    exact ⟨Nat.lt_of_lt_of_le h1 hsz, (hcell _ _ k.b2 r.n1).trans h2, (hcell _ _ k.b2 r.n1).trans h3, Nat.lt_of_lt_of_le h4 hsz, h5, fun j hj => (hcell _ _ k.b5 r.n4).trans (h6 j hj)⟩
  · exact (hcell _ _ k.b3 r.n2).trans r.full
  · obtain ⟨h4, h5, h6⟩ := r.text
    exact ⟨Nat.lt_of_lt_of_le h4 hsz, h5, fun j hj => (hcell _ _ k.b4 r.n3).trans (h6 j hj)⟩
  · exact ownsRow_setCell_below h.own (a := ⟨p.rb, 4, none⟩) k.b1 v'

set_option maxRecDepth 10000 in
theorem wpList_say {W : World} {ops : Array Oper} {rest : List Oper} {o : Oper} {a : Act} {Q : Exit → Act → World → Prop} (hgd : o.guard = none) (s x : Operand)
    (ho : o.op = .call { callee := .builtin .append, args := #[s, x], argTypes := #[22, 22] }) (p : RdP) (B : Nat) (ov : Value) (L : List Ev) (e : Ev) (h : Ro W p B ov L) (hs : a.eval s = ov) (hL : L.length ≤ 100000)
    (n0 : Nat) (hn0 : n0 = W.heap.size) (hx : a.eval x = .slice (some ⟨n0, 0, none⟩) 1 1)
    (k : ∀ v' w', Say p B W w' v' (L ++ [e]) → wpList Tryz.prog ops Q rest (a.put o.dst v') w') : wpList Tryz.prog ops Q (o :: rest) a (W.alloc (.cells e.row 41)) := by
  obtain ⟨i0, hi, hz0, hz1, hz2⟩ := info_parts Tryz.infoEvent
  have hb6 := h.b6
  refine wpList_append_own _ hgd s x _ ho B _ i0 _ 6 72 rfl hi hz0 hz1 hz2 rfl (by decide) ov L.length (rows L) hs (h.own.alloc _) ⟨n0, 0, none⟩ 1 1 (rows [e]) hx (by rfl) ?_ (rows_one [e]) (by unfold maxLen; omega) (by omega) (by simp; omega) ?_
  · intro j u hj
    subst hn0
    rw [Addr.add_lit, Nat.zero_add, Lib.cell_of_heap (heap_alloc_new W _) j]
    simpa [rows] using hj
  · intro v' w' h1 h2 _
    have hlt := (h.own.alloc (.cells e.row 41)).lt
    have hne : some p.rb ≠ ov.ownBlock := fun hh => by
      have := (hlt _ hh.symm).1
      have := h.b1
      omega
    have hrlt : p.rb < W.heap.size := h.rd.lt
    refine k v' w' ⟨⟨h2.os, h2.tape, h2.output, Nat.le_trans (by simp) h2.size, fun b hb hl => ?_⟩, ?_, ?_⟩
    · refine (h2.block b (by simp; omega) fun hh => ?_).trans (heap_alloc_old W _ hb)
      rcases h.own.2 with ⟨rfl, _⟩ | ⟨g, cap, cur, rfl, hB, hg, _⟩
      · cases hh
      · obtain rfl : b = g := Option.some.inj hh
        rcases hl.2 with h3 | h3
        · omega
        · exact h3 _ _ hg
    · exact (h2.block p.rb (by simp; omega) hne).trans (heap_alloc_old W _ hrlt)
    · rw [List.length_append, rows_append]; exact h1
end Go.Proofs.YtiblamapjekdeaaGreat
/- The reference's reader at the example: content at the alias. Condition: the reader stands at the example's line. -/
namespace Go.Proofs.YtiblamapjekdeaaGreat
open Go.RowKit
attribute [local go_sem] Oper.semAt_some
theorem n93 : nameB 93 = false := by decide
/-- What a call leaves that tells events. -/
def Told (p : RdP) (B : Nat) (w : World) (L : List Ev) (v : Value) (e : Ending) (w' : World) : Prop := e = .returned v ∧ ∃ ov', Ro w' p B ov' L ∧ Wr p B w w'
abbrev aliasE : Ev := ⟨8, ⟨#[]⟩, ⟨#[]⟩, ⟨#[97]⟩, 0, false⟩
abbrev zrow : Obj := .cells #[.int .i64 0, .int .i64 0, .bool false] 100 (0, 0)
set_option maxRecDepth 100000 in
set_option maxHeartbeats 4000000 in
theorem content_star (p : RdP) (B j : Nat) (an : ByteArray) (dp : Int) (ov : Value) (L : List Ev) (w : World) (h : Ro w p B ov L) (hL : L.length ≤ 1000) :
    Calls Tryz.prog 90 #[.pointer (some ⟨p.rb, 0, none⟩), .agg #[.int .i64 0, .int .i64 4, .bool false], plc j, .agg #[.string an, .string ⟨#[]⟩, .bool false], .int .i64 dp] w
      (Told p B w (L ++ [aliasE]) (.tuple #[.agg #[.int .i64 0, .int .i64 6, .bool false], .bool false])) := by
  obtain ⟨V1, hV1, hb1, hr1, hs1⟩ := box3 w (.int .i64 0) (.int .i64 4) (.bool false) 100
  obtain ⟨V2, hV2, hb2, hr2, hs2⟩ := box3 V1 (.int .i64 0) (.int .i64 (j : Int)) (.bool false) 100
  obtain ⟨V3, hV3, hb3, hr3, hs3⟩ := box3 V2 (.string an) (.string ⟨#[]⟩) (.bool false) 103
  obtain ⟨V4, hV4, hb4, hr4, hs4⟩ := box3 V3 (.int .i64 0) (.int .i64 0) (.bool false) 100
  have q1 := (hb4.block _ (by omega)).trans ((hb3.block _ (by omega)).trans ((hb2.block _ (by omega)).trans hr1))
  have q3 := (hb4.block _ (by omega)).trans hr3
  have hbw : Below w.heap.size w V4 := below_then (below_then (below_then hb1 hb2) hb3) hb4
  have HBx : Hid (∀ W, Below V4.heap.size V4 W → W.heap[w.heap.size]? = some (.cells #[.int .i64 0, .int .i64 4, .bool false] 100 (0, 0)) ∧ W.heap[V3.heap.size]? = some zrow ∧ B3 W w.heap.size (.int .i64 0) (.int .i64 4) (.bool false) ∧ B3 W V2.heap.size (.string an) (.string ⟨#[]⟩) (.bool false) ∧ Below w.heap.size w W) := fun W hW =>
    have e1 := (hW.block _ (by omega)).trans q1
    have e3 := (hW.block _ (by omega)).trans q3
    have e4 := (hW.block _ (by omega)).trans hr4
    ⟨e1, e4, .of e1, .of e3, below_then hbw hW⟩
  have hVr := h.below hbw
  obtain ⟨_, _, ⟨b0, b1, b2, _⟩, ⟨a0, a1, a2, _⟩, _⟩ := HBx.out V4 (Below.refl _ _)
  have htc := h.rd.text.2.1
  have hRe := rest_any p 4 ov V4 hVr.rd (by omega)
  rw [restV, if_pos (by omega)] at hRe
  have HRe : Hid (Calls Tryz.prog 67 #[.pointer (some ⟨p.rb, 0, none⟩), .agg #[.int .i64 0, .int .i64 4, .bool false]] V4 fun e w' => e = .returned (.slice (some ⟨p.tb, 4, none⟩) 3 (p.tc - 4)) ∧ Below V4.heap.size V4 w') := hRe
  have HSe : Hid (∀ W, Below V4.heap.size V4 W → Calls Tryz.prog 87 #[.pointer (some ⟨p.rb, 0, none⟩), .agg #[.int .i64 0, .int .i64 4, .bool false]] W fun e w' => e = .returned (.int .i64 42) ∧ Below V4.heap.size V4 w') := fun W hW => (see_any p 4 ov W (hVr.rd.below hW) (by omega)).mono fun e w' h => ⟨h.1, below_then hW h.2⟩
  have HAn : Hid (∀ W, Below V4.heap.size V4 W → Calls Tryz.prog 94 #[.slice (some ⟨p.tb, 5, none⟩) 2 (p.tc - 4 - 1)] W fun e w' => e = .returned (.tuple #[.string ⟨#[97]⟩, .int .i64 1, .bool true]) ∧ Below V4.heap.size V4 w') := fun W hW => (Anchor_a p.tb 5 2 (p.tc - 4 - 1) W (by omega) (by omega) (by omega) (hVr.rd.below hW).text.1 ((hVr.rd.below hW).text.2.2 5 (by omega)) (fun _ => ⟨93, (hVr.rd.below hW).text.2.2 6 (by omega), n93⟩)).mono fun e w' h => ⟨h.1, below_then hW h.2⟩
  have HTo : Hid (∀ W, Calls Tryz.prog 89 #[.agg #[.int .i64 0, .int .i64 4, .bool false], .int .i64 2] W fun e w' => e = .returned (.agg #[.int .i64 0, .int .i64 6, .bool false]) ∧ Below W.heap.size W w') := fun W => to_any 4 2 6 W (by omega) (by omega)
  have HRo : Hid (∀ W, Below V4.heap.size V4 W → Ro W p B ov L ∧ W.cell? ⟨p.rb, 4, none⟩ = some ov) := fun W hW => ⟨hVr.below hW, Lib.cell_of_heap (hVr.below hW).rd.row 4⟩
  have hrlt := h.rd.lt
  have hne : ¬ w.heap.size = p.rb := by omega
  have hne' : ¬ p.rb = w.heap.size := by omega
  have HVs : Hid (w.heap.size ≤ V3.heap.size ∧ V3.heap.size ≠ p.rb) := ⟨by omega, by omega⟩
  have htI : (1 : Int) ≤ ((p.tc - 4 : Nat) : Int) := by omega
  have ht7 : (3 : Int) ≤ ((p.tc - 4 : Nat) : Int) := by omega
  have HL := Lib.hid hL
  have HB : Hid (B ≤ w.heap.size) := h.b6
  clear h hRe hVr hbw hr1 hr2 hr3 hr4 hb1 hb2 hb3 hb4 hs1 hs2 hs3 hs4 q1 q3 htc hL hrlt
  go_enter Tryz.func90, Tryz.ntmps90
  go_wp2_with (first
    | (go_at_call 67; refine HRe.out.mono ?_; rintro e w1 ⟨rfl, hb1⟩; obtain ⟨_, _, ⟨c0, c1, c2, _⟩, _⟩ := HBx.out w1 hb1; have Hb1 := Lib.hid hb1; clear hb1)
    | (go_at_call 87; refine (HSe.out _ Hb1.out).mono ?_; rintro e w2 ⟨rfl, hb2⟩; have Hb2 := Lib.hid hb2; clear hb2)
    | (go_at_call 94; refine (HAn.out _ Hb2.out).mono ?_; rintro e w3 ⟨rfl, hb3⟩; obtain ⟨_, _, ⟨d0, d1, d2, _⟩, ⟨e0, e1, e2, _⟩, _⟩ := HBx.out w3 hb3; obtain ⟨_, k4⟩ := HRo.out w3 hb3; have Hb3 := Lib.hid hb3; clear hb3)
    | (at_builtin; refine wpList_say rfl _ _ rfl p B ov L aliasE (HRo.out w3 Hb3.out).1 (by rfl) (by have := HL.out; omega) w3.heap.size rfl (by rfl) ?_; intro v' w4 hsay; obtain ⟨A5, c5, rfl⟩ := hsay.form; obtain ⟨s4, z4⟩ := hsay.cell (HRo.out w3 Hb3.out).1; obtain ⟨f0, f1, f2, _⟩ := B3.of (hsay.wr.row (HBx.out w3 Hb3.out).1 rfl hne); have Hsay := Lib.hid hsay; clear hsay)
    | (go_at_call 89; obtain ⟨X, hX⟩ : ∃ X, w4.setCell ⟨p.rb, 4, none⟩ (.slice A5 (L.length + 1) c5) = X := ⟨_, rfl⟩; rw [hX]; have hst := Hsay.out.stored (HRo.out w3 Hb3.out).1; rw [hX] at hst; have hXv : X.heap[V3.heap.size]? = some zrow := hst.2.row (HBx.out w3 Hb3.out).2.1 rfl HVs.out.2; have hw := Wr.pre (HBx.out w3 Hb3.out).2.2.2.2 hst.2; refine (HTo.out X).mono ?_; rintro e w5 ⟨rfl, hb5⟩; have h5v := (hb5.block _ (lt_of_row hXv)).trans hXv; obtain ⟨m0, m1, m2, k0, k1, k2⟩ := B3.of h5v; have H5 := Lib.hid (And.intro h5v (And.intro (hst.1.below hb5) (hw.post (hb5.mono hw.size)))); clear hX hXv hst hb5 h5v hw))
  obtain ⟨h5v, h5r, h5w⟩ := H5.out
  refine bodyPost_ret (results_row_tmp rfl _ _ V3.heap.size _ _ (0, 0) _ rfl (put3 h5v) Tryz.underlying100 rfl (by kernel_rfl)) rfl ?_
  exact ⟨rfl, _, h5r.put3 h5v rfl (Nat.le_trans HB.out HVs.out.1), h5w.post (below_put3 (Below.refl _ _) HVs.out.1)⟩
end Go.Proofs.YtiblamapjekdeaaGreat
/- The reference's reader at the example: node at the alias. Condition: the reader stands at the example's line. -/
namespace Go.Proofs.YtiblamapjekdeaaGreat
open Go.RowKit
attribute [local go_sem] Oper.semAt_some
set_option maxRecDepth 100000 in
set_option maxHeartbeats 4000000 in
theorem node_star (p : RdP) (B : Nat) (dp : Int) (ov : Value) (L : List Ev) (w : World) (h : Ro w p B ov L) (hL : L.length ≤ 1000) :
    Calls Tryz.prog 129 #[.pointer (some ⟨p.rb, 0, none⟩), .agg #[.int .i64 0, .int .i64 4, .bool false], .int .i64 dp] w
      (Told p B w (L ++ [aliasE]) (.tuple #[.agg #[.int .i64 0, .int .i64 6, .bool false], .bool false])) := by
  obtain ⟨V1, hV1, hb1, hr1, hs1⟩ := box3 w (.int .i64 0) (.int .i64 4) (.bool false) 100
  obtain ⟨V2, hV2, hb2, hr2, hs2⟩ := box3 V1 (.int .i64 0) (.int .i64 0) (.bool false) 100
  obtain ⟨V3, hV3, hb3, hr3, hs3⟩ := box3 V2 (.string ⟨#[]⟩) (.string ⟨#[]⟩) (.bool false) 103
  obtain ⟨V4, hV4, hb4, hr4, hs4⟩ := box3 V3 (.int .i64 0) (.int .i64 0) (.bool false) 100
  have q1 := (hb3.block _ (by omega)).trans ((hb2.block _ (by omega)).trans hr1)
  have q1' := (hb4.block _ (by omega)).trans q1
  have q2 := (hb4.block _ (by omega)).trans ((hb3.block _ (by omega)).trans hr2)
  have q3 := (hb4.block _ (by omega)).trans hr3
  have hw4 : Below w.heap.size w V4 := below_then (below_then (below_then hb1 hb2) hb3) hb4
  obtain ⟨b0, b1, b2, _⟩ := B3.of q1
  obtain ⟨e0, e1, e2, g0, g1, g2⟩ := B3.of hr4
  obtain ⟨X, hX⟩ : ∃ X, ((V4.setCell ⟨V3.heap.size, 0, none⟩ (.int .i64 0)).setCell ⟨V3.heap.size, 1, none⟩ (.int .i64 4)).setCell ⟨V3.heap.size, 2, none⟩ (.bool false) = X := ⟨_, rfl⟩
  have hne : ¬ w.heap.size = V3.heap.size := by omega
  have x1 : X.heap[w.heap.size]? = some (.cells #[.int .i64 0, .int .i64 4, .bool false] 100 (0, 0)) := by rw [← hX]; exact (heap_put3 hne).trans q1'
  have x2 : X.heap[V1.heap.size]? = some zrow := by rw [← hX]; exact (heap_put3 (show V1.heap.size ≠ V3.heap.size by omega)).trans q2
  have x3 : X.heap[V2.heap.size]? = some (prow ⟨#[]⟩ false) := by rw [← hX]; exact (heap_put3 (show V2.heap.size ≠ V3.heap.size by omega)).trans q3
  have x4 : X.heap[V3.heap.size]? = some (.cells #[.int .i64 0, .int .i64 4, .bool false] 100 (0, 0)) := by rw [← hX]; exact put3 hr4
  obtain ⟨a0, a1, a2, _⟩ := B3.of x1
  have xw : Below w.heap.size w X := by rw [← hX]; exact below_put3 hw4 (by omega)
  have HX : Hid (∀ W, Below X.heap.size X W → W.heap[w.heap.size]? = some (.cells #[.int .i64 0, .int .i64 4, .bool false] 100 (0, 0)) ∧ W.heap[V1.heap.size]? = some zrow ∧ W.heap[V2.heap.size]? = some (prow ⟨#[]⟩ false) ∧ W.heap[V3.heap.size]? = some (.cells #[.int .i64 0, .int .i64 4, .bool false] 100 (0, 0)) ∧ Below w.heap.size w W) := fun W hW =>
    ⟨(hW.block _ (lt_of_row x1)).trans x1, (hW.block _ (lt_of_row x2)).trans x2, (hW.block _ (lt_of_row x3)).trans x3, (hW.block _ (lt_of_row x4)).trans x4, below_then xw hW⟩
  have HRo : Hid (∀ W, Below w.heap.size w W → Ro W p B ov L) := fun W hW => h.below hW
  have HOn : Hid (∀ W, Below w.heap.size w W → Calls Tryz.prog 117 #[.pointer (some ⟨p.rb, 0, none⟩), .agg #[.int .i64 0, .int .i64 4, .bool false]] W fun e w' => e = .returned (.agg #[.int .i64 0, .int .i64 4, .bool false]) ∧ Below W.heap.size W w') := fun W hW =>
    on_any p 4 4 ov W (h.below hW).rd (by omega) fun W' hR => past_zero p 4 ov W' hR (by omega) (by decide) (by decide)
  have HY : Hid (∀ w1, Below X.heap.size X w1 → ∃ Y, ((w1.setCell ⟨w.heap.size, 0, none⟩ (.int .i64 0)).setCell ⟨w.heap.size, 1, none⟩ (.int .i64 4)).setCell ⟨w.heap.size, 2, none⟩ (.bool false) = Y ∧ Below X.heap.size X Y) := fun w1 hw1 => by
    have f1 := (HX.out w1 hw1).1
    obtain ⟨Y, hY⟩ : ∃ Y, ((w1.setCell ⟨w.heap.size, 0, none⟩ (.int .i64 0)).setCell ⟨w.heap.size, 1, none⟩ (.int .i64 4)).setCell ⟨w.heap.size, 2, none⟩ (.bool false) = Y := ⟨_, rfl⟩
    refine ⟨Y, hY, by rw [← hY]; exact hw1.os, by rw [← hY]; exact hw1.tape, by rw [← hY]; exact hw1.output, by rw [← hY]; simpa using hw1.size, fun b hb => ?_⟩
    by_cases e : b = w.heap.size
    · subst e; rw [← hY, put3 f1]; exact x1.symm
    · rw [← hY, heap_put3 e]; exact hw1.block b hb
  have HPr : Hid (∀ W, Below w.heap.size w W → Calls Tryz.prog 73 #[.pointer (some ⟨p.rb, 0, none⟩), .agg #[.int .i64 0, .int .i64 4, .bool false], .pointer (some ⟨V2.heap.size, 0, none⟩)] W fun e w' => e = .returned (.tuple #[.agg #[.int .i64 0, .int .i64 4, .bool false], .bool false]) ∧ Below W.heap.size W w') := fun W hW =>
    prop_no p 4 _ ov W (h.below hW).rd (by omega) (by decide) (by decide)
  have HCo : Hid (∀ W, Below w.heap.size w W → Calls Tryz.prog 90 #[.pointer (some ⟨p.rb, 0, none⟩), .agg #[.int .i64 0, .int .i64 4, .bool false], .agg #[.int .i64 0, .int .i64 4, .bool false], .agg #[.string ⟨#[]⟩, .string ⟨#[]⟩, .bool false], .int .i64 dp] W (Told p B W (L ++ [aliasE]) (.tuple #[.agg #[.int .i64 0, .int .i64 6, .bool false], .bool false]))) := fun W hW =>
    content_star p B 4 ⟨#[]⟩ dp ov L W (h.below hW) hL
  have HF : Hid (∀ W, Below w.heap.size w W → W.cell? ⟨p.rb, 3, none⟩ = some (.int .i64 0)) := fun W hW => (h.below hW).rd.flt
  have HB : Hid (B ≤ w.heap.size) := h.b6
  have hrlt := h.rd.lt
  have HVs : Hid (w.heap.size ≤ V1.heap.size ∧ V1.heap.size ≠ p.rb) := ⟨by omega, by omega⟩
  clear hrlt hs1 hs2 hs3 hs4 hb1 hb2 hb3 hb4 h q1 q1' q2 q3 hw4 x1 x2 x3 x4
  have Hxw := Lib.hid xw
  clear xw
  go_enter Tryz.func129, Tryz.ntmps129
  go_wp2_with (first
    | (go_at_call 117; refine (HOn.out X Hxw.out).mono ?_; rintro e w1 ⟨rfl, hb1⟩; obtain ⟨_, _, _, c3, c4, c5⟩ := B3.of (HX.out w1 hb1).1; obtain ⟨c0, c1, c2, _⟩ := B3.of (HX.out w1 hb1).1; obtain ⟨Y, hY, hYb⟩ := HY.out w1 hb1; have HYb := Lib.hid hYb; clear hb1 hYb))
  clear b0 b1 b2 a0 a1 a2 e0 e1 e2 g0 g1 g2 c0 c1 c2 c3 c4 c5 hX hV1 hV2 hV3 hV4 hY
  go_loopw [11] (fun v wr => v = undef ∧ wr = Y) (fun _ _ => 0)
  case atStart => exact ⟨rfl, rfl⟩
  case round =>
    obtain ⟨rfl, rfl⟩ := hrel
    have f3 := HF.out wr (HX.out wr HYb.out).2.2.2.2
    obtain ⟨b0, b1, b2, _⟩ := B3.of (HX.out wr HYb.out).1
    go_wp2_with (first
      | (go_at_call 73; refine (HPr.out wr (HX.out wr HYb.out).2.2.2.2).mono ?_; rintro e w2 ⟨rfl, hb2⟩; obtain ⟨U, hU, hbU, hrU, hsU⟩ := box3 w2 (.int .i64 0) (.int .i64 0) (.bool false) 100; obtain ⟨e0, e1, e2, g0, g1, g2⟩ := B3.of hrU; obtain ⟨Z, hZ⟩ : ∃ Z, ((U.setCell ⟨w2.heap.size, 0, none⟩ (.int .i64 0)).setCell ⟨w2.heap.size, 1, none⟩ (.int .i64 4)).setCell ⟨w2.heap.size, 2, none⟩ (.bool false) = Z := ⟨_, rfl⟩; have hYZ : Below X.heap.size X Z := (by rw [← hZ]; exact below_then HYb.out (below_put3 ((below_then hb2 hbU)) hb2.size)); have HZ := HX.out Z hYZ; have f3' := HF.out Z HZ.2.2.2.2; obtain ⟨k0, k1, k2, _⟩ := B3.of HZ.1; obtain ⟨l0, l1, l2, _⟩ := B3.of HZ.2.2.1; obtain ⟨m0, m1, m2, _⟩ := B3.of HZ.2.2.2.1; have HZh := Lib.hid HZ; clear hb2 hbU hrU hsU hYZ HZ)
      | (go_at_call 90; refine (HCo.out Z HZh.out.2.2.2.2).mono ?_; rintro e w3 ⟨rfl, ov', hro, hwr⟩; have h6 := hwr.row HZh.out.2.1 rfl HVs.out.2; obtain ⟨n0, n1, n2, o0, o1, o2⟩ := B3.of h6; have H6 := Lib.hid (And.intro h6 (And.intro hro (Wr.pre HZh.out.2.2.2.2 hwr))); clear hro hwr h6))
    obtain ⟨h5v, h5r, h5w⟩ := H6.out
    refine bodyPost_ret (results_row_tmp rfl _ _ V1.heap.size _ _ (0, 0) _ rfl (put3 h5v) Tryz.underlying100 rfl (by kernel_rfl)) rfl ?_
    exact ⟨rfl, _, h5r.put3 h5v rfl (Nat.le_trans HB.out HVs.out.1), h5w.post (below_put3 (Below.refl _ _) HVs.out.1)⟩
end Go.Proofs.YtiblamapjekdeaaGreat
/- The reference's reader at the example: inSeq at the alias. Condition: the reader stands at the example's line. -/
namespace Go.Proofs.YtiblamapjekdeaaGreat
open Go.RowKit
attribute [local go_sem] Oper.semAt_some
/-- A place on the line, as a row. -/
abbrev krow (v : Value) : Obj := .cells #[.int .i64 0, v, .bool false] 100 (0, 0)
theorem box_put (w : World) (v : Value) : ∃ U Z, w.alloc (.cells #[.int .i64 0, .int .i64 0, .bool false] 100) = U ∧ ((U.setCell ⟨w.heap.size, 0, none⟩ (.int .i64 0)).setCell ⟨w.heap.size, 1, none⟩ v).setCell ⟨w.heap.size, 2, none⟩ (.bool false) = Z ∧ B3 U w.heap.size (.int .i64 0) (.int .i64 0) (.bool false) ∧ Z.heap[w.heap.size]? = some (krow v) ∧ Below w.heap.size w Z := by
  obtain ⟨U, hU, hbU, hrU, _⟩ := box3 w (.int .i64 0) (.int .i64 0) (.bool false) 100
  exact ⟨U, _, hU, rfl, .of hrU, put3 hrU, below_put3 hbU (Nat.le_refl _)⟩
theorem re_put {W : World} {r : Nat} {u : Value} (h : W.heap[r]? = some (krow u)) (v : Value) : ∃ Y, ((W.setCell ⟨r, 0, none⟩ (.int .i64 0)).setCell ⟨r, 1, none⟩ v).setCell ⟨r, 2, none⟩ (.bool false) = Y ∧ B3 W r (.int .i64 0) u (.bool false) ∧ Y.heap[r]? = some (krow v) ∧ (∀ b, b ≠ r → Y.heap[b]? = W.heap[b]?) ∧ Below r W Y :=
  ⟨_, rfl, .of h, put3 h, fun _ hb => heap_put3 hb, below_put3 (Below.refl _ _) (Nat.le_refl _)⟩
theorem Ro.ov {W : World} {p : RdP} {B : Nat} {ov : Value} {L : List Ev} (h : Ro W p B ov L) : ∃ A c, ov = .slice A L.length c := by
  obtain ⟨A, c, h1, _⟩ := evsAt_own h.own
  exact ⟨A, c, h1⟩
set_option maxRecDepth 100000 in
set_option maxHeartbeats 4000000 in
theorem inSeq_star (p : RdP) (B : Nat) (dp : Int) (ov : Value) (L : List Ev) (w : World) (h : Ro w p B ov L) (hL : L.length ≤ 1000) :
    Calls Tryz.prog 119 #[.pointer (some ⟨p.rb, 0, none⟩), .agg #[.int .i64 0, .int .i64 4, .bool false], .int .i64 dp] w
      (Told p B w (L ++ [aliasE]) (.agg #[.int .i64 0, .int .i64 6, .bool false])) := by
  obtain ⟨A, c, rfl⟩ := h.ov
  obtain ⟨V1, hV1, hb1, hr1, hs1⟩ := box3 w (.int .i64 0) (.int .i64 4) (.bool false) 100
  obtain ⟨V2, hV2, hb2, hr2, hs2⟩ := box3 V1 (.int .i64 0) (.int .i64 0) (.bool false) 100
  have q1 := (hb2.block _ (by omega)).trans hr1
  obtain ⟨b0, b1, b2, _⟩ := B3.of q1
  have HBx : Hid (∀ W, Below V2.heap.size V2 W → W.heap[w.heap.size]? = some (krow (.int .i64 4)) ∧ W.heap[V1.heap.size]? = some zrow ∧ Below w.heap.size w W) := fun W hW =>
    ⟨(hW.block _ (by omega)).trans q1, (hW.block _ (by omega)).trans hr2, below_then (below_then hb1 hb2) hW⟩
  have hV := h.below (below_then hb1 hb2)
  have HQu := Lib.hid (question_no p 4 _ V2 hV.rd (by omega) (by decide))
  have HNo : Hid (∀ W, Below V2.heap.size V2 W → Calls Tryz.prog 129 #[.pointer (some ⟨p.rb, 0, none⟩), .agg #[.int .i64 0, .int .i64 4, .bool false], .int .i64 dp] W (Told p B W (L ++ [aliasE]) (.tuple #[.agg #[.int .i64 0, .int .i64 6, .bool false], .bool false]))) := fun W hW => node_star p B dp _ L W (hV.below hW) hL
  have HR4 : Hid (∀ W, Below V2.heap.size V2 W → W.cell? ⟨p.rb, 4, none⟩ = some (.slice A L.length c)) := fun W hW => Lib.cell_of_heap (hV.below hW).rd.row 4
  have HOn : Hid (∀ W ov', Ro W p B ov' (L ++ [aliasE]) → Calls Tryz.prog 117 #[.pointer (some ⟨p.rb, 0, none⟩), .agg #[.int .i64 0, .int .i64 6, .bool false]] W fun e w' => e = .returned (.agg #[.int .i64 0, .int .i64 6, .bool false]) ∧ Below W.heap.size W w') := fun W ov' hW =>
    on_any p 6 6 ov' W hW.rd (by omega) fun W' hR => past_zero p 6 ov' W' hR (by omega) (by decide) (by decide)
  have HSi : Hid (∀ W ov', Ro W p B ov' (L ++ [aliasE]) → Calls Tryz.prog 130 #[.pointer (some ⟨p.rb, 0, none⟩), .agg #[.int .i64 0, .int .i64 6, .bool false], .agg #[.int .i64 0, .int .i64 6, .bool false], .bool false] W fun e w' => e = .returned (.bool false) ∧ Below W.heap.size W w') := fun W ov' hW =>
    sign_no p 6 6 false ov' W hW.rd (by omega) (by decide)
  have HB : Hid (B ≤ w.heap.size) := h.b6
  have hrlt := h.rd.lt
  have HVs : Hid (w.heap.size ≤ V1.heap.size ∧ V1.heap.size ≠ p.rb) := ⟨by omega, by omega⟩
  clear hrlt hs1 hs2 hb1 hb2 h hV q1 hr1 hr2 hL
  go_enter Tryz.func119, Tryz.ntmps119
  go_wp2_with (first
    | (go_at_call 127; refine HQu.out.mono ?_; rintro e w1 ⟨rfl, hb1⟩; obtain ⟨c0, c1, c2, _⟩ := B3.of (HBx.out w1 hb1).1; have k4 := HR4.out w1 hb1; have Hb1 := Lib.hid hb1; clear hb1 b0 b1 b2)
    | (go_at_call 129; refine (HNo.out w1 Hb1.out).mono ?_; rintro e w2 ⟨rfl, ov2, hro2, hwr2⟩; obtain ⟨U2, Z2, hU2, hZ2, ⟨d0, d1, d2, g0, g1, g2⟩, hz2, hbZ2⟩ := box_put w2 (.int .i64 6); obtain ⟨e0, e1, e2, _⟩ := B3.of hz2; have hroZ := hro2.below hbZ2; have f3 := hroZ.rd.flt; have hv := hwr2.row (HBx.out w1 Hb1.out).2.1 rfl HVs.out.2; have H2 := Lib.hid (And.intro hz2 (And.intro hroZ (And.intro ((hbZ2.block _ (lt_of_row hv)).trans hv) ((Wr.pre (HBx.out w1 Hb1.out).2.2 hwr2).post (hbZ2.mono (Nat.le_trans (HBx.out w1 Hb1.out).2.2.size hwr2.size)))))); clear hro2 hwr2 hz2 hbZ2 hroZ hv c0 c1 c2 k4)
    | (go_at_call 117; refine (HOn.out Z2 ov2 H2.out.2.1).mono ?_; rintro e w3 ⟨rfl, hb3⟩; obtain ⟨U3, Z3, hU3, hZ3, ⟨h0, h1, h2, i0, i1, i2⟩, hz3, hbZ3⟩ := box_put w3 (.int .i64 6); have hbz := below_then hb3 hbZ3; have hz9 := (hbz.block _ (lt_of_row H2.out.1)).trans H2.out.1; have hro3 := H2.out.2.1.below hbz; have f3' := hro3.rd.flt; obtain ⟨m0, m1, m2, _⟩ := B3.of hz3; obtain ⟨n0, n1, n2, _⟩ := B3.of hz9; have H3 := Lib.hid (And.intro hz9 (And.intro hro3 (And.intro ((hbz.block _ (lt_of_row H2.out.2.2.1)).trans H2.out.2.2.1) (H2.out.2.2.2.post (hbz.mono H2.out.2.2.2.size))))); clear hb3 hbZ3 hbz hz9 hro3 hz3 e0 e1 e2 d0 d1 d2 g0 g1 g2 f3)
    | (go_at_call 130; refine (HSi.out Z3 ov2 H3.out.2.1).mono ?_; rintro e w4 ⟨rfl, hb4⟩; have hz9 := (hb4.block _ (lt_of_row H3.out.1)).trans H3.out.1; have hzv := (hb4.block _ (lt_of_row H3.out.2.2.1)).trans H3.out.2.2.1; obtain ⟨r0, r1, r2, _⟩ := B3.of hz9; obtain ⟨s0, s1, s2, t0, t1, t2⟩ := B3.of hzv; have H4 := Lib.hid (And.intro hzv (And.intro (H3.out.2.1.below hb4) (H3.out.2.2.2.post (hb4.mono H3.out.2.2.2.size)))); clear hb4 hz9 hzv m0 m1 m2 n0 n1 n2 f3' h0 h1 h2 i0 i1 i2))
  obtain ⟨h5v, h5r, h5w⟩ := H4.out
  refine bodyPost_ret (results_cell_row rfl _ _ V1.heap.size _ _ (0, 0) _ rfl (put3 h5v) Tryz.underlying100 rfl (by kernel_rfl)) rfl ?_
  exact ⟨rfl, _, h5r.put3 h5v rfl (Nat.le_trans HB.out HVs.out.1), h5w.post (below_put3 (Below.refl _ _) HVs.out.1)⟩
end Go.Proofs.YtiblamapjekdeaaGreat
/- The reference's reader at the example: list. Condition: the reader stands at the example's line. -/
namespace Go.Proofs.YtiblamapjekdeaaGreat
open Go.RowKit
attribute [local go_sem] Oper.semAt_some
abbrev stillPost3 (A : Act) (w2 : World) : Exit → Act → World → Prop
  | .normal, a, w => a = A ∧ w = w2
  | _, _, _ => False
theorem wp_still3 {P : Program} {c : Code} {a A : Act} {w w2 : World} {Q : Exit → Act → World → Prop} (h : c.wp P (stillPost3 A w2) a w) (hq : Q .normal A w2) : c.wp P Q a w :=
  wp_mono h fun e a' w' h => by
    cases e <;> first | (obtain ⟨rfl, rfl⟩ := h; exact hq) | exact h.elim
theorem step_appT {T : TypeId} {W w' : World} {ops : Array Oper} {o : Oper} {a : Act} {K : Act → World → Prop} {Q : Exit → Act → World → Prop} {E : Prop} {v' : Value} (hgd : o.guard = none) (s x : Operand)
    (ho : o.op = .call { callee := .builtin .append, args := #[s, x], argTypes := #[T, T] }) (v vx : Value) (hs : a.eval s = v) (hx : a.eval x = vx)
    (hr : (Builtin.append_ #[T, T] o.type #[v, vx]).run Tryz.prog W = .ok v' w') (k : K (a.put o.dst v') w') :
    if Region.wanted o (yielded ops a.tmps) = true then Oper.wp Tryz.prog o a W K Q else E := by
  have hw : Region.wanted o (yielded ops a.tmps) = true := by simp [Region.wanted, hgd]
  rw [if_pos hw]
  unfold Oper.wp execOp
  simp only [ho, resolve, invoke, builtin, Sem.run_bind, Sem.run_pure, Result.andThen_ok, List.map_toArray, List.map_cons, List.map_nil, hs, hx, hr]
  exact k
set_option maxRecDepth 10000 in
theorem run_say {W Wx : World} (hx : Below W.heap.size W Wx) (n0 : Nat) {p : RdP} {B : Nat} {ov : Value} {L : List Ev} {e : Ev} (hn : Wx.heap[n0]? = some (.cells e.row 41 (0, 0))) (h : Ro W p B ov L) (hL : L.length ≤ 100000) :
    ∃ A c w', (Builtin.append_ #[22, 22] 22 #[ov, .slice (some ⟨n0, 0, none⟩) 1 1]).run Tryz.prog Wx = .ok (.slice A (L.length + 1) c) w' ∧ Say p B W w' (.slice A (L.length + 1) c) (L ++ [e]) := by
  obtain ⟨i0, hi, hz0, hz1, hz2⟩ := info_parts Tryz.infoEvent
  have hb6 := h.b6
  have hsz := hx.size
  obtain ⟨v', w', hr, h1, h2, _, _⟩ := run_append_own_at (P := Tryz.prog) Wx B 22 22 41 i0 _ 6 72 Tryz.underlying22 hi hz0 hz1 hz2 rfl (by decide) ov L.length (rows L) (ownsRow_below h.own hx) ⟨n0, 0, none⟩ 1 1 (rows [e]) (by rfl) (fun j u hj => by
    rw [Addr.add_lit, Nat.zero_add, Lib.cell_of_heap hn j]
    simpa [rows] using hj) (rows_one [e]) (by unfold maxLen; omega) (by omega) (by omega)
  have hrlt : p.rb < W.heap.size := h.rd.lt
  have hne : some p.rb ≠ ov.ownBlock := fun hh => by
    have := (h.own.lt _ hh.symm).1
    have := h.b1
    omega
  have hs : Say p B W w' v' (L ++ [e]) := by
    refine ⟨⟨h2.os.trans hx.os, h2.tape.trans hx.tape, h2.output.trans hx.output, Nat.le_trans hsz h2.size, fun b hb hl => ?_⟩, ?_, ?_⟩
    · refine (h2.block b (by omega) fun hh => ?_).trans (hx.block b hb)
      rcases h.own.2 with ⟨rfl, _⟩ | ⟨g, cap, cur, rfl, hB, hg, _⟩
      · cases hh
      · obtain rfl : b = g := Option.some.inj hh
        rcases hl.2 with h3 | h3
        · omega
        · exact h3 _ _ hg
    · exact (h2.block p.rb (by omega) hne).trans (hx.block p.rb hrlt)
    · rw [List.length_append, rows_append]; exact h1
  obtain ⟨A, c, rfl⟩ := hs.form
  exact ⟨A, c, w', hr, hs⟩
/-- A function's state: its place, its result's cell, the reader. -/
structure LSt (p : RdP) (B : Nat) (w0 : World) (r z : Nat) (W : World) (v : Value) (ov : Value) (M : List Ev) : Prop where
  box : W.heap[r]? = some (krow v)
  zero : W.heap[z]? = some zrow
  wr : Wr p B w0 W
  ro : Ro W p B ov M
theorem LSt.below {p : RdP} {B : Nat} {w0 W W' : World} {r z : Nat} {v ov : Value} {M : List Ev} (h : LSt p B w0 r z W v ov M) (hb : Below W.heap.size W W') : LSt p B w0 r z W' v ov M :=
  ⟨(hb.block _ (lt_of_row h.box)).trans h.box, (hb.block _ (lt_of_row h.zero)).trans h.zero, h.wr.post (hb.mono h.wr.size), h.ro.below hb⟩
theorem LSt.told {p : RdP} {B : Nat} {w0 W W' : World} {r z : Nat} {v ov ov' : Value} {M M' : List Ev} (h : LSt p B w0 r z W v ov M) (hw : Wr p B W W') (hr : Ro W' p B ov' M') (h1 : r ≠ p.rb) (h2 : z ≠ p.rb) : LSt p B w0 r z W' v ov' M' :=
  ⟨hw.row h.box rfl h1, hw.row h.zero rfl h2, h.wr.trans hw, hr⟩
theorem LSt.put {p : RdP} {B : Nat} {w0 W : World} {r z : Nat} {v ov : Value} {M : List Ev} (h : LSt p B w0 r z W v ov M) (hz : z ≠ r) (hB : B ≤ r) (hw : w0.heap.size ≤ r) (u : Value) :
    ∃ Y, ((W.setCell ⟨r, 0, none⟩ (.int .i64 0)).setCell ⟨r, 1, none⟩ u).setCell ⟨r, 2, none⟩ (.bool false) = Y ∧ B3 W r (.int .i64 0) v (.bool false) ∧ LSt p B w0 r z Y u ov M :=
  ⟨_, rfl, .of h.box, put3 h.box, (heap_put3 hz).trans h.zero, h.wr.post (below_put3 (Below.refl _ _) hw), h.ro.put3 h.box rfl hB⟩
abbrev seqE (a : ByteArray) : Ev := ⟨3, ⟨#[]⟩, ⟨#[]⟩, a, 0, true⟩
abbrev endE : Ev := ⟨4, ⟨#[]⟩, ⟨#[]⟩, ⟨#[]⟩, 0, false⟩
end Go.Proofs.YtiblamapjekdeaaGreat
