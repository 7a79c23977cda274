/- ComposeAnchors in memory: the events' row, the row of what is wanted, the array of the last ones. No condition but the sizes. -/
import Derived.Test.YtiblamapjekdeaaGreatPa
import Derived.Test.YtiblamapjekdeaaGreatKl
namespace Go.Proofs.YtiblamapjekdeaaGreat
open Go.RowKit
/-- 'append' of some elements to a row of the family. -/
theorem Fam.appM {W Wx : World} {N : Nat} {R : Nat → ORow} (h : Fam W N R) (hx : Below W.heap.size W Wx) (hN : N ≤ W.heap.size) (i : Nat) {t e : TypeId} {s n bytes : Nat} {v : Value} {xs : List Value} (hr : R i = ⟨e, s, v, n, xs⟩)
    (ht : Tryz.prog.underlying t = some (.slice e)) {z : Value} (hinfo : (Tryz.prog.info? e).map (fun i => (i.zero, i.size, i.bytes)) = some (some z, s, bytes)) (hzs : z.cells.size = s) (hsz : 0 < s) (hby : bytes ≤ 1000)
    (ad : Addr) (m c0 : Nat) (news : List Value) (hl : news.length = m * s) (hn : ∀ j u, news[j]? = some u → Wx.cell? (ad.add j) = some u) (h1 : ∀ u ∈ news, u.oneCell' = true) (hm : 0 < m) (hnn : n + m ≤ 4000000) :
    ∃ A c w', (Builtin.append_ #[t, t] t #[v, .slice (some ad) m c0]).run Tryz.prog Wx = .ok (.slice A (n + m) c) w' ∧ n + m ≤ c ∧
      Fam w' N (upd R i ⟨e, s, .slice A (n + m) c, n + m, xs ++ news⟩) ∧ Turn R (upd R i ⟨e, s, .slice A (n + m) c, n + m, xs ++ news⟩) W w' := by
  obtain ⟨i0, hi, hz0, hz1, hz2⟩ := info_parts hinfo
  have hf := h.below hx
  have hsz2 := hx.size
  have ho := hf.own i
  rw [hr] at ho
  have hb2 : (n + m) * bytes ≤ 140737488355328 := Nat.le_trans (Nat.mul_le_mul hnn hby) (by decide)
  obtain ⟨v', w', hrun, h2, h3, _, h5⟩ := run_append_own_at (P := Tryz.prog) Wx N t t e i0 z s bytes ht hi hz0 hz1 hz2 hzs hsz v n xs ho ad m c0 news hl hn h1 (by unfold maxLen; omega) hb2 (by omega)
  have h2' : ORow.At w' N ⟨e, s, v', n + m, xs ++ news⟩ := h2
  obtain ⟨q1, q2⟩ := hf.turn i ⟨e, s, v', n + m, xs ++ news⟩ (by rw [hr]; exact h3) h2' (fun g hg => by
    rw [hr]
    rcases h5 with h5 | h5
    · exact .inl (h5.symm.trans hg)
    · have : some g = some Wx.heap.size := hg.symm.trans h5
      injection this with this
      exact .inr (by omega))
  have q3 : Turn R (upd R i ⟨e, s, v', n + m, xs ++ news⟩) W w' := (Turn.of_below R hx).trans q2
  rcases h2.2 with ⟨_, h0⟩ | ⟨g, cap, cur, rfl, _, _, hc, _⟩
  · omega
  · exact ⟨_, cap, w', hrun, hc, q1, q3⟩
def lastC (l : List Nat) : Array Value := (l.map fun (n : Nat) => Value.int .i64 (n : Int)).toArray
structure AnAt (U W : World) (nb lb : Nat) (ev : List Ev) (want : List Int) (last : List Nat) (R : Nat → ORow) : Prop where
  fam : Fam W (nb + 1) R
  ev0 : R 0 = ⟨41, 6, (R 0).v, ev.length, rows ev⟩
  wt : R 1 = ⟨3, 1, (R 1).v, want.length, zcells want⟩
  cp : R 2 = ⟨41, 6, .slice none 0 0, 0, []⟩
  lr : W.heap[lb]? = some (.cells (lastC last) 42 (0, 0))
  lf : ∀ i, (R i).v.ownBlock ≠ some lb
  lb2 : nb + 1 ≤ lb
  bel : Below (nb + 1) U W
theorem AnAt.lt {U W : World} {nb lb : Nat} {ev : List Ev} {want : List Int} {last : List Nat} {R : Nat → ORow} (h : AnAt U W nb lb ev want last R) : lb < W.heap.size := (Array.getElem?_eq_some_iff.1 h.lr).1
theorem AnAt.turn {U W w' : World} {nb lb : Nat} {ev ev' : List Ev} {want want' : List Int} {last : List Nat} {R R' : Nat → ORow} (h : AnAt U W nb lb ev want last R) (ht : Turn R R' W w') (hf : Fam w' (nb + 1) R')
    (h0 : R' 0 = ⟨41, 6, (R' 0).v, ev'.length, rows ev'⟩) (h1 : R' 1 = ⟨3, 1, (R' 1).v, want'.length, zcells want'⟩) (h2 : R' 2 = ⟨41, 6, .slice none 0 0, 0, []⟩) : AnAt U w' nb lb ev' want' last R' := by
  have hl := h.lt
  have hx := ht.free lb hl h.lf
  have hb2 := h.lb2
  exact ⟨hf, h0, h1, h2, hx.1.trans h.lr, hx.2, h.lb2, h.bel.trans (ht.below h.fam (by omega))⟩
theorem AnAt.below {U W w' : World} {nb lb : Nat} {ev : List Ev} {want : List Int} {last : List Nat} {R : Nat → ORow} (h : AnAt U W nb lb ev want last R) (hb : Below W.heap.size W w') : AnAt U w' nb lb ev want last R :=
  h.turn (Turn.of_below R hb) (h.fam.below hb) h.ev0 h.wt h.cp
theorem AnAt.evs {U W w0 : World} {nb lb : Nat} {ev : List Ev} {want : List Int} {last : List Nat} {R : Nat → ORow} (h : AnAt U W nb lb ev want last R) (hx : Below W.heap.size W w0) (hl : ev.length ≤ 1000) (e : Ev) {n0 : Nat} {fr : Nat × Nat} (hn0 : w0.heap[n0]? = some (.cells e.row 41 fr)) :
    ∃ A c w', (Builtin.append_ #[22, 22] 22 #[(R 0).v, .slice (some ⟨n0, 0, none⟩) 1 1]).run Tryz.prog w0 = .ok (.slice A (ev.length + 1) c) w' ∧
      ∃ R', AnAt U w' nb lb (ev ++ [e]) want last R' ∧ (R' 0).v = .slice A (ev.length + 1) c ∧ (R' 1).v = (R 1).v := by
  have hlt := h.lt
  have hb2 := h.lb2
  have hre : rows [e] = e.row.toList := by simp [rows]
  obtain ⟨A, c, w', hrun, hc, hf, ht⟩ := h.fam.appM hx (by omega) 0 h.ev0 (t := 22) Tryz.underlying22 Tryz.infoEvent rfl (by decide) (by decide) ⟨n0, 0, none⟩ 1 1 (rows [e]) (by rw [rows_len]; rfl) (fun j u hj => by
    rw [Addr.add_lit, Nat.zero_add, Lib.cell_of_heap hn0 j]
    rw [hre] at hj
    rw [← Array.getElem?_toList]; exact hj) (rows_one [e]) (by omega) (by omega)
  rw [← rows_append] at hf ht
  refine ⟨A, c, w', hrun, _, h.turn (ev' := ev ++ [e]) (want' := want) ht hf ?_ ?_ ?_, ?_, ?_⟩
  · rw [upd_same, List.length_append]; rfl
  · rw [upd_other _ _ (by omega)]; exact h.wt
  · rw [upd_other _ _ (by omega)]; exact h.cp
  · rw [upd_same]
  · rw [upd_other _ _ (by omega)]
theorem AnAt.ends {U W w0 : World} {nb lb : Nat} {ev : List Ev} {want : List Int} {last : List Nat} {R : Nat → ORow} (h : AnAt U W nb lb ev want last R) (hx : Below W.heap.size W w0) (hl : ev.length ≤ 1000) (e1 e2 : Ev) {n0 : Nat} {fr : Nat × Nat} (hn0 : w0.heap[n0]? = some (.cells (e1.row ++ e2.row) 41 fr)) :
    ∃ A c w', (Builtin.append_ #[22, 22] 22 #[(R 0).v, .slice (some ⟨n0, 0, none⟩) 2 2]).run Tryz.prog w0 = .ok (.slice A (ev.length + 2) c) w' ∧
      ∃ R', AnAt U w' nb lb (ev ++ [e1, e2]) want last R' ∧ (R' 0).v = .slice A (ev.length + 2) c ∧ (R' 1).v = (R 1).v := by
  have hlt := h.lt
  have hb2 := h.lb2
  have hre : rows [e1, e2] = (e1.row ++ e2.row).toList := by simp [rows]
  obtain ⟨A, c, w', hrun, hc, hf, ht⟩ := h.fam.appM hx (by omega) 0 h.ev0 (t := 22) Tryz.underlying22 Tryz.infoEvent rfl (by decide) (by decide) ⟨n0, 0, none⟩ 2 2 (rows [e1, e2]) (by rw [rows_len]; rfl) (fun j u hj => by
    rw [Addr.add_lit, Nat.zero_add, Lib.cell_of_heap hn0 j]
    rw [hre] at hj
    rw [← Array.getElem?_toList]; exact hj) (rows_one [e1, e2]) (by omega) (by omega)
  rw [← rows_append] at hf ht
  refine ⟨A, c, w', hrun, _, h.turn (ev' := ev ++ [e1, e2]) (want' := want) ht hf ?_ ?_ ?_, ?_, ?_⟩
  · rw [upd_same, List.length_append]; rfl
  · rw [upd_other _ _ (by omega)]; exact h.wt
  · rw [upd_other _ _ (by omega)]; exact h.cp
  · rw [upd_same]
  · rw [upd_other _ _ (by omega)]
theorem AnAt.wants {U W : World} {nb lb : Nat} {ev : List Ev} {want : List Int} {last : List Nat} {R : Nat → ORow} (h : AnAt U W nb lb ev want last R) (hl : want.length ≤ 1000) (z : Int) :
    ∃ A c w', (Builtin.append_ #[26, 26] 26 #[(R 1).v, .slice (some ⟨W.heap.size, 0, none⟩) 1 1]).run Tryz.prog (W.alloc (.cells #[.int .i64 z] 3)) = .ok (.slice A (want.length + 1) c) w' ∧
      ∃ R', AnAt U w' nb lb ev (want ++ [z]) last R' ∧ (R' 0).v = (R 0).v ∧ (R' 1).v = .slice A (want.length + 1) c := by
  have hlt := h.lt
  have hb2 := h.lb2
  obtain ⟨A, c, w', hrun, hc, hf, ht⟩ := h.fam.app (Wx := W.alloc (.cells #[.int .i64 z] 3)) ((Below.refl _ W).alloc (Nat.le_refl _) _) (by omega) 1 h.wt (t := 26) Tryz.underlying26 Tryz.infoIntF rfl (by decide) (by decide) W.heap.size (0, 0) [.int .i64 z] rfl (heap_alloc_new W _) (by intro u hu; simp at hu; subst hu; rfl) (by omega)
  have hxs : (⟨3, 1, .slice A (want.length + 1) c, want.length + 1, zcells want ++ [.int .i64 z]⟩ : ORow) = ⟨3, 1, .slice A (want.length + 1) c, (want ++ [z]).length, zcells (want ++ [z])⟩ := by simp [zcells]
  rw [hxs] at hf ht
  refine ⟨A, c, w', hrun, _, h.turn (ev' := ev) (want' := want ++ [z]) ht hf ?_ ?_ ?_, ?_, ?_⟩
  · rw [upd_other _ _ (by omega)]; exact h.ev0
  · rw [upd_same]
  · rw [upd_other _ _ (by omega)]; exact h.cp
  · rw [upd_other _ _ (by omega)]
  · rw [upd_same]
theorem AnAt.set {U W : World} {nb lb : Nat} {ev : List Ev} {want : List Int} {last : List Nat} {R : Nat → ORow} (h : AnAt U W nb lb ev want last R) (k n : Nat) : AnAt U (W.setCell ⟨lb, k, none⟩ (.int .i64 (n : Int))) nb lb ev want (last.set k n) R := by
  have ho : ∀ b, b ≠ lb → (W.setCell ⟨lb, k, none⟩ (.int .i64 (n : Int))).heap[b]? = W.heap[b]? := fun b hb => Below.heap_setCell W ⟨lb, k, none⟩ _ b hb
  refine ⟨⟨fun i => ownsRow_by (h.fam.own i) fun g hg => ho g (fun e => h.lf i (by rw [hg, e])), h.fam.sep⟩, h.ev0, h.wt, h.cp, ?_, h.lf, h.lb2, h.bel.setCell (p := ⟨lb, k, none⟩) h.lb2 _⟩
  have := Go.Joins.block_setCell (i := k) h.lr (.int .i64 (n : Int))
  have e : lastC (last.set k n) = (lastC last).setIfInBounds k (.int .i64 (n : Int)) := by simp [lastC, List.map_set]
  rw [e]; exact this
theorem AnAt.lasts {U W : World} {nb lb : Nat} {ev : List Ev} {want : List Int} {last : List Nat} {R : Nat → ORow} (h : AnAt U W nb lb ev want last R) (hl : last.length = 3) {k : Nat} (hk : k < 3) : W.cell? ⟨lb, k, none⟩ = some (.int .i64 ((last.getD k 0 : Nat) : Int)) ∧ W.frozen? ⟨lb, k, none⟩ = false := by
  refine ⟨?_, Go.Joins.unfrozen_of_block h.lr k⟩
  rw [Lib.cell_of_heap h.lr k]
  have hk' : k < last.length := by omega
  simp [lastC, hk']
theorem AnAt.names {U W : World} {nb lb : Nat} {ev : List Ev} {want : List Int} {last : List Nat} {R : Nat → ORow} (h : AnAt U W nb lb ev want last R) (hU : U.heap[nb]? = some (.cells #[.string ⟨#[97]⟩, .string ⟨#[98]⟩, .string ⟨#[99]⟩] 9 (0, 0))) {k : Nat} (hk : k < 3) : W.cell? ⟨nb, k, none⟩ = some (.string (nmA k)) := by
  have hr := (h.bel.block nb (Nat.lt_succ_self _)).trans hU
  rw [Lib.cell_of_heap hr k]
  match k, hk with
  | 0, _ => rfl
  | 1, _ => rfl
  | 2, _ => rfl
theorem AnAt.evForm {U W : World} {nb lb : Nat} {ev : List Ev} {want : List Int} {last : List Nat} {R : Nat → ORow} (h : AnAt U W nb lb ev want last R) : ∃ A c, (R 0).v = .slice A ev.length c ∧ ev.length ≤ c ∧ EvsAt W W.heap.size A ev := by
  have ho := h.fam.own 0
  rw [h.ev0] at ho
  exact evsAt_own ho
theorem AnAt.wantForm {U W : World} {nb lb : Nat} {ev : List Ev} {want : List Int} {last : List Nat} {R : Nat → ORow} (h : AnAt U W nb lb ev want last R) : ∃ A c, (R 1).v = .slice A want.length c ∧ IntsAt W W.heap.size A want := by
  have ho := h.fam.own 1
  rw [h.wt] at ho
  obtain ⟨A, c, h1, _, h2, _⟩ := zcells_ints ho
  exact ⟨A, c, h1, h2⟩
def R0a (nb : Nat) : Nat → ORow := fun i => if i = 0 then ⟨41, 6, .slice (some ⟨nb + 1, 0, none⟩) 2 2, 2, rows an0.ev⟩ else if i = 1 then ⟨3, 1, .slice none 0 0, 0, []⟩ else ⟨41, 6, .slice none 0 0, 0, []⟩
/-- The start. -/
theorem an_start (w1 : World) : ∃ U V, ((w1.alloc (.cells #[.string ⟨#[97]⟩, .string ⟨#[98]⟩, .string ⟨#[99]⟩] 9)).alloc (.cells #[.int .i64 1, .string ⟨#[]⟩, .string ⟨#[]⟩, .string ⟨#[]⟩, .int .i64 0, .bool false, .int .i64 3, .string ⟨#[]⟩, .string ⟨#[]⟩, .string ⟨#[]⟩, .int .i64 0, .bool false] 41)).alloc (.cells #[.int .i64 0, .int .i64 0, .int .i64 0] 42) = V ∧
    U.heap[w1.heap.size]? = some (.cells #[.string ⟨#[97]⟩, .string ⟨#[98]⟩, .string ⟨#[99]⟩] 9 (0, 0)) ∧ Below w1.heap.size w1 U ∧ AnAt U V w1.heap.size (w1.heap.size + 1 + 1) an0.ev an0.want an0.last (R0a w1.heap.size) := by
  obtain ⟨U, hU⟩ : ∃ U, w1.alloc (.cells #[.string ⟨#[97]⟩, .string ⟨#[98]⟩, .string ⟨#[99]⟩] 9) = U := ⟨_, rfl⟩
  have hUs : U.heap.size = w1.heap.size + 1 := by rw [← hU]; simp
  have hUr := heap_alloc_new w1 (.cells #[.string ⟨#[97]⟩, .string ⟨#[98]⟩, .string ⟨#[99]⟩] 9)
  rw [hU] at hUr
  refine ⟨U, _, rfl, hUr, by rw [← hU]; exact (Below.refl _ _).alloc (Nat.le_refl _) _, ?_⟩
  rw [hU]
  obtain ⟨X, hX⟩ : ∃ X, U.alloc (.cells #[.int .i64 1, .string ⟨#[]⟩, .string ⟨#[]⟩, .string ⟨#[]⟩, .int .i64 0, .bool false, .int .i64 3, .string ⟨#[]⟩, .string ⟨#[]⟩, .string ⟨#[]⟩, .int .i64 0, .bool false] 41) = X := ⟨_, rfl⟩
  have hXs : X.heap.size = w1.heap.size + 1 + 1 := by rw [← hX]; simp [hUs]
  have hbX : Below U.heap.size U X := by rw [← hX]; exact (Below.refl _ _).alloc (Nat.le_refl _) _
  have ho : X.ownsRow (w1.heap.size + 1) 41 6 (.slice (some ⟨w1.heap.size + 1, 0, none⟩) 2 2) 2 (rows an0.ev) := by
    have := World.ownsRow_lit (base := w1.heap.size + 1) (e := 41) (size := 6) U #[.int .i64 1, .string ⟨#[]⟩, .string ⟨#[]⟩, .string ⟨#[]⟩, .int .i64 0, .bool false, .int .i64 3, .string ⟨#[]⟩, .string ⟨#[]⟩, .string ⟨#[]⟩, .int .i64 0, .bool false] 2 (by omega) (by decide) rfl
    rw [hX, hUs] at this
    exact this
  rw [hX]
  have hbL : Below X.heap.size X (X.alloc (.cells #[.int .i64 0, .int .i64 0, .int .i64 0] 42)) := (Below.refl _ _).alloc (Nat.le_refl _) _
  have hrL := heap_alloc_new X (.cells #[.int .i64 0, .int .i64 0, .int .i64 0] 42)
  rw [hXs] at hrL
  refine ⟨⟨fun i => ?_, fun i j g hne hi hj => ?_⟩, rfl, rfl, rfl, hrL, fun i hi => ?_, Nat.le_succ _, (hbX.mono (by omega)).trans (hbL.mono (by omega))⟩
  · unfold R0a
    split
    · exact ownsRow_by (r := ⟨41, 6, .slice (some ⟨w1.heap.size + 1, 0, none⟩) 2 2, 2, rows an0.ev⟩) ho fun g hg => by
        have : g = w1.heap.size + 1 := by injection hg with hg; exact hg.symm
        exact hbL.block g (by omega)
    split
    · exact ⟨rfl, .inl ⟨rfl, rfl⟩⟩
    · exact ⟨rfl, .inl ⟨rfl, rfl⟩⟩
  · have hv : ∀ k : Nat, k ≠ 0 → (R0a w1.heap.size k).v = .slice none 0 0 := fun k hk => by unfold R0a; rw [if_neg hk]; split <;> rfl
    by_cases h0 : i = 0
    · rw [hv j (by omega)] at hj; cases hj
    · rw [hv i h0] at hi; cases hi
  · by_cases h0 : i = 0
    · subst h0
      have : w1.heap.size + 1 = w1.heap.size + 1 + 1 := by injection hi
      omega
    · have hv : (R0a w1.heap.size i).v = .slice none 0 0 := by unfold R0a; rw [if_neg h0]; split <;> rfl
      rw [hv] at hi; cases hi
theorem evs_copy {W : World} {N g c : Nat} {L : List Ev} (h : W.ownsRow N 41 6 (.slice (some ⟨g, 0, none⟩) L.length c) L.length (rows L)) (hl0 : 0 < L.length) (hl : L.length ≤ 1000) :
    ∃ A8 c8 w8, (Builtin.append_ #[22, 22] 22 #[.slice none 0 0, .slice (some ⟨g, 0, none⟩) L.length c]).run Tryz.prog W = .ok (.slice A8 L.length c8) w8 ∧
      w8.ownsRow W.heap.size 41 6 (.slice A8 L.length c8) L.length (rows L) ∧ Below W.heap.size W w8 := by
  obtain ⟨i0, hi, hz0, hz1, hz2⟩ := info_parts Tryz.infoEvent
  obtain ⟨v', w', hr, h1, h2, _, _⟩ := run_append_own_at (P := Tryz.prog) W W.heap.size 22 22 41 i0 _ 6 72 Tryz.underlying22 hi hz0 hz1 hz2 rfl (by decide) (.slice none 0 0) 0 [] ⟨rfl, .inl ⟨rfl, rfl⟩⟩ ⟨g, 0, none⟩ L.length c (rows L) (rows_len L) (h.cells (g := g) rfl) (rows_one L) (by unfold maxLen; omega) (by omega) (Nat.le_refl _)
  rw [Nat.zero_add, List.nil_append] at h1
  have hb : Below W.heap.size W w' := ⟨h2.os, h2.tape, h2.output, h2.size, fun b hb => h2.block b hb (by intro e; cases e)⟩
  rcases h1.2 with ⟨_, h0⟩ | ⟨g', cap, cur, rfl, _⟩
  · omega
  · exact ⟨_, cap, w', hr, h1, hb⟩
theorem evs_more {W : World} {B n m : Nat} {v : Value} {L M : List Ev} (h : W.ownsRow B 41 6 v L.length (rows L)) (hB : B ≤ W.heap.size) (hn : L.length = n) (hm : M.length = m) (hm0 : 0 < m) (hl : n + m ≤ 1000) {cs : Array Value} (hcs : cs.toList = rows M) :
    ∃ A9 c9 w9, (Builtin.append_ #[22, 22] 22 #[v, .slice (some ⟨W.heap.size, 0, none⟩) m m]).run Tryz.prog (W.alloc (.cells cs 41)) = .ok (.slice A9 (n + m) c9) w9 ∧
      EvsAt w9 w9.heap.size A9 (L ++ M) ∧ n + m ≤ c9 ∧ Below B W w9 := by
  subst hn hm
  obtain ⟨i0, hi, hz0, hz1, hz2⟩ := info_parts Tryz.infoEvent
  obtain ⟨v', w', hr, h1, h2, _, _⟩ := run_append_own_at (P := Tryz.prog) (W.alloc (.cells cs 41)) B 22 22 41 i0 _ 6 72 Tryz.underlying22 hi hz0 hz1 hz2 rfl (by decide) v L.length (rows L) (h.alloc _) ⟨W.heap.size, 0, none⟩ M.length M.length (rows M) (rows_len M) (fun j u hj => by
    rw [Addr.add_lit, Nat.zero_add, Lib.cell_of_heap (heap_alloc_new W _) j, ← Array.getElem?_toList, hcs]; exact hj) (rows_one M) (by unfold maxLen; omega) (by omega) (by simp; omega)
  have hb : Below B W w' := by
    have hba : Below B W (W.alloc (.cells cs 41)) := (Below.refl B W).alloc hB _
    exact ⟨h2.os, h2.tape, h2.output, Nat.le_trans hba.size h2.size, fun b hb => (h2.block b (by have := hba.size; omega) (by
      intro e
      have := ((h.alloc (.cells cs 41)).lt b e.symm).1
      omega)).trans (hba.block b hb)⟩
  rcases h1.2 with ⟨_, h0⟩ | ⟨g', cap, cur, rfl, _⟩
  · omega
  · rw [← rows_append] at h1
    have hlen : L.length + M.length = (L ++ M).length := by simp
    rw [hlen] at h1
    obtain ⟨A, c', q1, q2, q3⟩ := evsAt_own h1
    cases q1
    exact ⟨_, cap, w', hr, q3, by omega, hb⟩
theorem more_cells : (#[.int .i64 1, .string ⟨#[]⟩, .string ⟨#[]⟩, .string ⟨#[]⟩, .int .i64 0, .bool false, .int .i64 8, .string ⟨#[]⟩, .string ⟨#[]⟩, .string ⟨#[97]⟩, .int .i64 0, .bool false, .int .i64 2, .string ⟨#[]⟩, .string ⟨#[]⟩, .string ⟨#[]⟩, .int .i64 0, .bool false] : Array Value).toList = rows moreA := by
  simp [rows, moreA, Ev.row, nmA]
end Go.Proofs.YtiblamapjekdeaaGreat
