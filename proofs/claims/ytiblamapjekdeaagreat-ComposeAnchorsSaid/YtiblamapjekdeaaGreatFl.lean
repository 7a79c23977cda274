/- The reference's cut. No condition. -/
import Derived.Test.YtiblamapjekdeaaGreatFj
namespace Go.Proofs.YtiblamapjekdeaaGreat
open Go.RowKit
attribute [local go_sem] Oper.semAt_some
theorem cut_any (d m : Int) (w : World) (hm : 0 ≤ m) : Calls Tryz.prog 21 #[.int .i64 d, .int .i64 m] w fun e w' => e = .returned (.int .i64 ((min d m).toNat : Nat)) ∧ w = w' := by
  have h1 : d < 0 → ((min d m).toNat : Int) = 0 := by omega
  have h2 : ¬ d < 0 → m < d → ((min d m).toNat : Int) = m := by omega
  have h3 : ¬ d < 0 → ¬ m < d → ((min d m).toNat : Int) = d := by omega
  obtain ⟨z, hz⟩ : ∃ z : Int, ((min d m).toNat : Int) = z := ⟨_, rfl⟩
  rw [hz] at h1 h2 h3 ⊢
  clear hz hm
  by_cases c1 : d < 0
  · have h := h1 c1
    subst h
    clear h1 h2 h3
    go_enter Tryz.func21, Tryz.ntmps21
    go_wp2
    go_ret
    exact ⟨rfl, rfl⟩
  by_cases c2 : m < d
  · have h := h2 c1 c2
    subst h
    clear h1 h2 h3
    go_enter Tryz.func21, Tryz.ntmps21
    go_wp2
    go_ret
    exact ⟨rfl, rfl⟩
  · have h := h3 c1 c2
    subst h
    clear h1 h2 h3
    go_enter Tryz.func21, Tryz.ntmps21
    go_wp2
    go_ret
    exact ⟨rfl, rfl⟩
end Go.Proofs.YtiblamapjekdeaaGreat
/- The reference's Compose in memory: the graph's box, the event's box, the rows. No condition but the sizes. -/
namespace Go.Proofs.YtiblamapjekdeaaGreat
open Go.RowKit
theorem Tryz.infoNamed : (Tryz.prog.info? 62).map (fun i => (i.zero, i.size, i.bytes)) = some (some (.agg #[.string ⟨#[]⟩, .int .i64 0]), 2, 24) := by kernel_rfl
def mcells (l : List (ByteArray × Nat)) : List Value := l.flatMap fun (p : ByteArray × Nat) => [Value.string p.1, Value.int .i64 (p.2 : Int)]
theorem mcells_len (l : List (ByteArray × Nat)) : (mcells l).length = l.length * 2 := by
  induction l with
  | nil => rfl
  | cons p l ih => simp only [mcells, List.flatMap_cons, List.length_append] at ih ⊢; rw [ih]; simp; omega
theorem mcells_get : ∀ (l : List (ByteArray × Nat)) (k : Nat) (h : k < l.length), (mcells l)[k * 2]? = some (.string l[k].1) ∧ (mcells l)[k * 2 + 1]? = some (.int .i64 (l[k].2 : Int)) := by
  intro l
  induction l with
  | nil => intro k h; simp at h
  | cons p l ih =>
    intro k h
    cases k with
    | zero => exact ⟨rfl, rfl⟩
    | succ k =>
      obtain ⟨h1, h2⟩ := ih k (by simpa using h)
      have e : mcells (p :: l) = [Value.string p.1, Value.int .i64 (p.2 : Int)] ++ mcells l := rfl
      rw [e, List.getElem?_append_right (by simp; omega), List.getElem?_append_right (by simp; omega)]
      simp only [List.length_cons, List.length_nil, List.getElem_cons_succ]
      rw [show (k + 1) * 2 - (0 + 1 + 1) = k * 2 by omega, show (k + 1) * 2 + 1 - (0 + 1 + 1) = k * 2 + 1 by omega]
      exact ⟨h1, h2⟩
/-- What has been made, and the graph's box. -/
structure RfAt (U W : World) (gb : Nat) (s : Mk) (R : Nat → ORow) : Prop where
  made : MkAt W (gb + 1) s R
  nms : R 3 = ⟨62, 2, (R 3).v, s.names.length, mcells s.names⟩
  g0 : W.heap[gb]? = some (.cells #[(R 0).v, (R 1).v] 28 (0, 0))
  bel : Below gb U W
theorem RfAt.lt {U W : World} {gb : Nat} {s : Mk} {R : Nat → ORow} (h : RfAt U W gb s R) : gb + 1 ≤ W.heap.size := (Array.getElem?_eq_some_iff.1 h.g0).1
theorem RfAt.below {U W W' : World} {gb : Nat} {s : Mk} {R : Nat → ORow} (h : RfAt U W gb s R) (hb : Below W.heap.size W W') : RfAt U W' gb s R :=
  ⟨h.made.below hb, h.nms, (hb.block gb h.lt).trans h.g0, h.bel.trans (hb.mono (by have := h.lt; omega))⟩
abbrev xrow (x : Ev) : Obj := .cells #[.int .i64 x.kind, .string x.text, .string x.tag, .string x.anchor, .int .i64 x.style, .bool x.flag] 41 (0, 0)
/-- .. and the event's box. -/
structure RSt (U W : World) (gb xb : Nat) (x : Ev) (s : Mk) (R : Nat → ORow) : Prop extends RfAt U W gb s R where
  xr : W.heap[xb]? = some (xrow x)
  xfree : ∀ i, (R i).v.ownBlock ≠ some xb
  xlt : gb < xb
theorem RSt.below {U W W' : World} {gb xb : Nat} {x : Ev} {s : Mk} {R : Nat → ORow} (h : RSt U W gb xb x s R) (hb : Below W.heap.size W W') : RSt U W' gb xb x s R :=
  ⟨h.toRfAt.below hb, (hb.block xb (Array.getElem?_eq_some_iff.1 h.xr).1).trans h.xr, h.xfree, h.xlt⟩
/-- The cells of the two boxes. -/
structure RCells (W : World) (gb xb : Nat) (x : Ev) (v0 v1 : Value) : Prop where
  g0 : W.cell? ⟨gb, 0, none⟩ = some v0
  g1 : W.cell? ⟨gb, 1, none⟩ = some v1
  f0 : W.frozen? ⟨gb, 0, none⟩ = false
  f1 : W.frozen? ⟨gb, 1, none⟩ = false
  x0 : W.cell? ⟨xb, 0, none⟩ = some (.int .i64 x.kind)
  x1 : W.cell? ⟨xb, 1, none⟩ = some (.string x.text)
  x2 : W.cell? ⟨xb, 2, none⟩ = some (.string x.tag)
  x3 : W.cell? ⟨xb, 3, none⟩ = some (.string x.anchor)
  x4 : W.cell? ⟨xb, 4, none⟩ = some (.int .i64 x.style)
theorem RSt.cells {U W : World} {gb xb : Nat} {x : Ev} {s : Mk} {R : Nat → ORow} (h : RSt U W gb xb x s R) : RCells W gb xb x (R 0).v (R 1).v :=
  ⟨Lib.cell_of_heap h.g0 0, Lib.cell_of_heap h.g0 1, Go.Joins.unfrozen_of_block h.g0 0, Go.Joins.unfrozen_of_block h.g0 1, Lib.cell_of_heap h.xr 0, Lib.cell_of_heap h.xr 1, Lib.cell_of_heap h.xr 2, Lib.cell_of_heap h.xr 3, Lib.cell_of_heap h.xr 4⟩
theorem RSt.fin {U W w' : World} {gb xb : Nat} {x : Ev} {s s' : Mk} {R R' : Nat → ORow} (h : RSt U W gb xb x s R) (ht : Turn R R' W w') (hm : MkAt w' (gb + 1) s' R')
    (hn : R' 3 = ⟨62, 2, (R' 3).v, s'.names.length, mcells s'.names⟩) (h0 : (R' 0).v = (R 0).v) (h1 : (R' 1).v = (R 1).v) : RSt U w' gb xb x s' R' := by
  have hb := ht.below h.made.fam h.lt
  have hx := ht.free xb (Array.getElem?_eq_some_iff.1 h.xr).1 h.xfree
  exact ⟨⟨hm, hn, by rw [h0, h1]; exact (hb.block gb (by omega)).trans h.g0, h.bel.trans (hb.mono (by omega))⟩, hx.1.trans h.xr, hx.2, h.xlt⟩
theorem RSt.set {U W w' : World} {gb xb : Nat} {x : Ev} {s s' : Mk} {R R' : Nat → ORow} (h : RSt U W gb xb x s R) (ht : Turn R R' W w') (hm : MkAt w' (gb + 1) s' R')
    (hn : R' 3 = ⟨62, 2, (R' 3).v, s'.names.length, mcells s'.names⟩) (j : Nat) (v : Value) (hj : #[(R 0).v, (R 1).v].setIfInBounds j v = #[(R' 0).v, (R' 1).v]) :
    RSt U (w'.setCell ⟨gb, j, none⟩ v) gb xb x s' R' := by
  have hb := ht.below h.made.fam h.lt
  have hx := ht.free xb (Array.getElem?_eq_some_iff.1 h.xr).1 h.xfree
  have hg := (hb.block gb (by omega)).trans h.g0
  have ho : ∀ b, b ≠ gb → (w'.setCell ⟨gb, j, none⟩ v).heap[b]? = w'.heap[b]? := fun b hb => Below.heap_setCell w' ⟨gb, j, none⟩ v b hb
  refine ⟨⟨hm.of (hm.fam.other fun b hb => ho b (by omega)), hn, ?_, ?_⟩, (ho xb (by have := h.xlt; omega)).trans (hx.1.trans h.xr), hx.2, h.xlt⟩
  · rw [← hj]; exact Go.Joins.block_setCell (i := j) hg v
  · exact (h.bel.trans (hb.mono (by omega))).setCell (p := ⟨gb, j, none⟩) (Nat.le_refl _) v
theorem RSt.cell0 {U W w' : World} {gb xb : Nat} {x : Ev} {s : Mk} {R R' : Nat → ORow} (h : RSt U W gb xb x s R) (ht : Turn R R' W w') : RCells w' gb xb x (R 0).v (R 1).v := by
  have hb := ht.below h.made.fam h.lt
  have hx := (ht.free xb (Array.getElem?_eq_some_iff.1 h.xr).1 h.xfree).1.trans h.xr
  have hg := (hb.block gb (by omega)).trans h.g0
  exact ⟨Lib.cell_of_heap hg 0, Lib.cell_of_heap hg 1, Go.Joins.unfrozen_of_block hg 0, Go.Joins.unfrozen_of_block hg 1, Lib.cell_of_heap hx 0, Lib.cell_of_heap hx 1, Lib.cell_of_heap hx 2, Lib.cell_of_heap hx 3, Lib.cell_of_heap hx 4⟩
/-- A new node. -/
theorem RSt.node {U W Wx : World} {gb xb : Nat} {x : Ev} {s : Mk} {R : Nat → ORow} (h : RSt U W gb xb x s R) (hs : s.Sz 1900000) (hx : Below W.heap.size W Wx) {e : Nd} (hk : e.kids = []) {n0 : Nat} {fr : Nat × Nat} (hn0 : Wx.heap[n0]? = some (.cells (nrowF (.slice none 0 0) e).toArray 46 fr)) :
    ∃ A c w', (Builtin.append_ #[25, 25] 25 #[(R 0).v, .slice (some ⟨n0, 0, none⟩) 1 1]).run Tryz.prog Wx = .ok (.slice A (s.nodes.length + 1) c) w' ∧
      RCells w' gb xb x (R 0).v (R 1).v ∧ ∃ R', RSt U (w'.setCell ⟨gb, 0, none⟩ (.slice A (s.nodes.length + 1) c)) gb xb x { s with nodes := s.nodes ++ [e] } R' ∧ (R' 2).v = (R 2).v ∧ (R' 3).v = (R 3).v := by
  have hr1 := hs.nodes
  obtain ⟨A, c, w', hrun, hc, hf, ht⟩ := h.made.fam.app hx h.lt 0 h.made.nodes (t := 25) Tryz.underlying25 Tryz.infoNodeF rfl (by decide) (by decide) n0 fr (nrowF (.slice none 0 0) e) rfl hn0 (by intro u hu; simp [nrowF] at hu; rcases hu with rfl | rfl | rfl | rfl | rfl <;> rfl) (by omega)
  refine ⟨A, c, w', hrun, h.cell0 ht, _, h.set ht (h.made.node hk hf) ?_ 0 _ ?_, ?_, ?_⟩
  · rw [upd_other _ _ (by omega)]; exact h.nms
  · rw [upd_same, upd_other _ _ (by omega)]; rfl
  · rw [upd_other _ _ (by omega)]
  · rw [upd_other _ _ (by omega)]
/-- A name more. -/
theorem RSt.name {U W : World} {gb xb : Nat} {x : Ev} {s : Mk} {R : Nat → ORow} (h : RSt U W gb xb x s R) (hs : s.Sz 1900000) (a : ByteArray) (i : Nat) :
    ∃ A c w', (Builtin.append_ #[60, 60] 60 #[(R 3).v, .slice (some ⟨W.heap.size, 0, none⟩) 1 1]).run Tryz.prog (W.alloc (.cells #[.string a, .int .i64 (i : Int)] 62)) = .ok (.slice A (s.names.length + 1) c) w' ∧
      ∃ R', RSt U w' gb xb x { s with names := s.names ++ [(a, i)] } R' ∧ (R' 2).v = (R 2).v ∧ (R' 3).v = .slice A (s.names.length + 1) c := by
  have hr1 := hs.names
  obtain ⟨A, c, w', hrun, hc, hf, ht⟩ := h.made.fam.app (Wx := W.alloc (.cells #[.string a, .int .i64 (i : Int)] 62)) ((Below.refl _ W).alloc (Nat.le_refl _) _) h.lt 3 h.nms (t := 60) Tryz.underlying60 Tryz.infoNamed rfl (by decide) (by decide) W.heap.size (0, 0) [.string a, .int .i64 (i : Int)] rfl (heap_alloc_new W _) (by intro u hu; simp at hu; rcases hu with rfl | rfl <;> rfl) (by omega)
  refine ⟨A, c, w', hrun, _, h.fin ht (let q := h.made.third hf; ⟨q.fam, q.nodes, q.roots, q.way, q.kids, q.rest⟩) ?_ ?_ ?_, ?_, ?_⟩
  · rw [upd_same]; simp [mcells]
  · rw [upd_other _ _ (by omega)]
  · rw [upd_other _ _ (by omega)]
  · rw [upd_other _ _ (by omega)]
  · rw [upd_same]
/-- The names are forgotten. -/
theorem RSt.doc {U W : World} {gb xb : Nat} {x : Ev} {s : Mk} {R : Nat → ORow} (h : RSt U W gb xb x s R) : ∃ R', RSt U W gb xb x { s with names := [] } R' ∧ (R' 2).v = (R 2).v ∧ (R' 3).v = .slice none 0 0 := by
  obtain ⟨hf, ht⟩ := h.made.fam.less 3 ⟨62, 2, .slice none 0 0, 0, []⟩ ⟨rfl, .inl ⟨rfl, rfl⟩⟩ (by intro g hg; cases hg)
  refine ⟨_, h.fin ht (let q := h.made.third hf; ⟨q.fam, q.nodes, q.roots, q.way, q.kids, q.rest⟩) ?_ ?_ ?_, ?_, ?_⟩
  · rw [upd_same]; rfl
  · rw [upd_other _ _ (by omega)]
  · rw [upd_other _ _ (by omega)]
  · rw [upd_other _ _ (by omega)]
  · rw [upd_same]
/-- The number among the roots. -/
theorem RSt.root {U W : World} {gb xb : Nat} {x : Ev} {s : Mk} {R : Nat → ORow} (h : RSt U W gb xb x s R) (hs : s.Sz 1900000) (hw : s.way = []) (i : Nat) :
    ∃ A c w', (Builtin.append_ #[26, 26] 26 #[(R 1).v, .slice (some ⟨W.heap.size, 0, none⟩) 1 1]).run Tryz.prog (W.alloc (.cells #[.int .i64 (i : Int)] 3)) = .ok (.slice A (s.roots.length + 1) c) w' ∧
      RCells w' gb xb x (R 0).v (R 1).v ∧ ∃ R', RSt U (w'.setCell ⟨gb, 1, none⟩ (.slice A (s.roots.length + 1) c)) gb xb x (place i s) R' ∧ (R' 2).v = (R 2).v ∧ (R' 3).v = (R 3).v := by
  have hr1 := hs.roots
  obtain ⟨A, c, w', hrun, hc, hf, ht⟩ := h.made.fam.app (Wx := W.alloc (.cells #[.int .i64 (i : Int)] 3)) ((Below.refl _ W).alloc (Nat.le_refl _) _) h.lt 1 h.made.roots (t := 26) Tryz.underlying26 Tryz.infoIntF rfl (by decide) (by decide) W.heap.size (0, 0) [.int .i64 (i : Int)] rfl (heap_alloc_new W _) (by intro u hu; simp at hu; subst hu; rfl) (by omega)
  have hxs : (⟨3, 1, .slice A (s.roots.length + 1) c, s.roots.length + 1, zcells s.roots ++ [.int .i64 (i : Int)]⟩ : ORow) = ⟨3, 1, .slice A (s.roots.length + 1) c, (s.roots ++ [(i : Int)]).length, zcells (s.roots ++ [(i : Int)])⟩ := by simp [zcells]
  have hp : place i s = { s with roots := s.roots ++ [(i : Int)] } := by rw [place, hw]; rfl
  rw [hxs] at hf ht
  rw [hp]
  refine ⟨A, c, w', hrun, h.cell0 ht, _, h.set ht (h.made.root hf) ?_ 1 _ ?_, ?_, ?_⟩
  · rw [upd_other _ _ (by omega)]; exact h.nms
  · rw [upd_same, upd_other _ _ (by omega)]; rfl
  · rw [upd_other _ _ (by omega)]
  · rw [upd_other _ _ (by omega)]
/-- The number among the Kids of what is open. -/
theorem RSt.kid {U W Wx : World} {gb xb : Nat} {x : Ev} {s : Mk} {R : Nat → ORow} (h : RSt U W gb xb x s R) (hs : s.Sz 1900000) {u : Nat} (hw : s.way.getLast? = some u) (hu : u < s.nodes.length) (i : Nat) (hx : Below W.heap.size W Wx) {n0 : Nat} {fr : Nat × Nat} (hn0 : Wx.heap[n0]? = some (.cells #[.int .i64 (i : Int)] 3 fr)) :
    ∃ ng nc wg wc, (R 0).v = .slice (some ⟨ng, 0, none⟩) s.nodes.length nc ∧ (R 2).v = .slice (some ⟨wg, 0, none⟩) s.way.length wc ∧ 0 < s.way.length ∧ W.cell? ⟨wg, s.way.length - 1, none⟩ = some (.int .i64 (u : Int)) ∧
    W.cell? ⟨ng, u * 5 + 3, none⟩ = some (R (4 + u)).v ∧ ng < W.heap.size ∧
    ∃ A c w' l, (Builtin.append_ #[26, 26] 26 #[(R (4 + u)).v, .slice (some ⟨n0, 0, none⟩) 1 1]).run Tryz.prog Wx = .ok (.slice A l c) w' ∧
      RCells w' gb xb x (R 0).v (R 1).v ∧ w'.cell? ⟨ng, u * 5 + 3, none⟩ = some (R (4 + u)).v ∧ w'.frozen? ⟨ng, u * 5 + 3, none⟩ = false ∧ ∃ R', RSt U (w'.setCell ⟨ng, u * 5 + 3, none⟩ (.slice A l c)) gb xb x (place i s) R' ∧ (R' 2).v = (R 2).v ∧ (R' 3).v = (R 3).v := by
  obtain ⟨r, hr⟩ := getLast?_snoc hw
  have hwl : s.way.length = r.length + 1 := by rw [hr]; simp
  have hk1 := hs.kids u
  rcases h.made.fam.form 2 (n := s.way.length) (by rw [h.made.way]) with ⟨_, h0⟩ | ⟨wg, wc, hv2, _, _, _⟩
  · omega
  rcases h.made.fam.form 0 (n := s.nodes.length) (by rw [h.made.nodes]) with ⟨_, h0⟩ | ⟨ng, nc, hv0, _, _, hng⟩
  · omega
  have hR2 : R 2 = ⟨3, 1, .slice (some ⟨wg, 0, none⟩) s.way.length wc, s.way.length, wcells s.way⟩ := by rw [← hv2]; exact h.made.way
  have hR0 : R 0 = ⟨46, 5, .slice (some ⟨ng, 0, none⟩) s.nodes.length nc, s.nodes.length, nrowsF (fun k => (R (4 + k)).v) 0 s.nodes⟩ := by rw [← hv0]; exact h.made.nodes
  have hcw := (h.made.fam.cell 2 hR2 (j := s.way.length - 1) (u := .int .i64 (u : Int)) (by rw [hr]; simp [wcells]) (by omega)).1
  have hget : ∀ K : Nat → Value, (nrowsF K 0 s.nodes)[u * 5 + 3]? = some (K u) := fun K => by rw [nrowsF_get K s.nodes 0 u 3 hu (by omega), Nat.zero_add]; rfl
  have hcn := (h.made.fam.cell 0 hR0 (j := u * 5 + 3) (u := (R (4 + u)).v) (hget _) (by omega)).1
  obtain ⟨A, c, w', hrun, hc, hf, ht⟩ := h.made.fam.app hx h.lt (4 + u) (h.made.kids u) (t := 26) Tryz.underlying26 Tryz.infoIntF rfl (by decide) (by decide) n0 fr [.int .i64 (i : Int)] rfl hn0 (by intro u hu; simp at hu; subst hu; rfl) (by omega)
  have e0 : upd R (4 + u) ⟨3, 1, .slice A ((nd s.nodes u).kids.length + 1) c, (nd s.nodes u).kids.length + 1, zcells (nd s.nodes u).kids ++ [.int .i64 (i : Int)]⟩ 0 = ⟨46, 5, .slice (some ⟨ng, 0, none⟩) s.nodes.length nc, s.nodes.length, nrowsF (fun k => (R (4 + k)).v) 0 s.nodes⟩ := by rw [upd_other _ _ (by omega)]; exact hR0
  have hxs : (⟨3, 1, .slice A ((nd s.nodes u).kids.length + 1) c, (nd s.nodes u).kids.length + 1, zcells (nd s.nodes u).kids ++ [.int .i64 (i : Int)]⟩ : ORow) = ⟨3, 1, .slice A ((nd s.nodes u).kids.length + 1) c, ((nd s.nodes u).kids ++ [(i : Int)]).length, zcells ((nd s.nodes u).kids ++ [(i : Int)])⟩ := by simp [zcells]
  have hc1 := hf.cell 0 e0 (j := u * 5 + 3) (u := (R (4 + u)).v) (hget _) (by omega)
  obtain ⟨hf2, ht2⟩ := hf.store 0 e0 (u * 5 + 3) (.slice A ((nd s.nodes u).kids.length + 1) c)
  have hcells := h.cell0 ht
  refine ⟨ng, nc, wg, wc, hv0, hv2, by omega, hcw, hcn, hng, A, c, w', _, hrun, hcells, hc1.1, hc1.2.1, ?_⟩
  rw [hxs] at hf hf2 ht ht2
  have hp : place i s = { s with nodes := s.nodes.modify u (addKid i) } := by rw [place, hw]
  rw [hp]
  refine ⟨_, h.fin (ht.trans ht2) (h.made.kid (i := (i : Int)) hu rfl hf2) ?_ ?_ ?_, ?_, ?_⟩
  · rw [upd_other _ _ (by omega), upd_other _ _ (by omega)]; exact h.nms
  · rw [upd_same]; exact hv0.symm
  · rw [upd_other _ _ (by omega), upd_other _ _ (by omega)]
  · rw [upd_other _ _ (by omega), upd_other _ _ (by omega)]
  · rw [upd_other _ _ (by omega), upd_other _ _ (by omega)]
/-- A collection begins. -/
theorem RSt.open {U W : World} {gb xb : Nat} {x : Ev} {s : Mk} {R : Nat → ORow} (h : RSt U W gb xb x s R) (hs : s.Sz 1900000) (i : Nat) :
    ∃ A c w', (Builtin.append_ #[26, 26] 26 #[(R 2).v, .slice (some ⟨W.heap.size, 0, none⟩) 1 1]).run Tryz.prog (W.alloc (.cells #[.int .i64 (i : Int)] 3)) = .ok (.slice A (s.way.length + 1) c) w' ∧
      ∃ R', RSt U w' gb xb x { s with way := s.way ++ [i] } R' ∧ (R' 2).v = .slice A (s.way.length + 1) c ∧ (R' 3).v = (R 3).v := by
  have hr1 := hs.way
  obtain ⟨A, c, w', hrun, hc, hf, ht⟩ := h.made.fam.app (Wx := W.alloc (.cells #[.int .i64 (i : Int)] 3)) ((Below.refl _ W).alloc (Nat.le_refl _) _) h.lt 2 h.made.way (t := 26) Tryz.underlying26 Tryz.infoIntF rfl (by decide) (by decide) W.heap.size (0, 0) [.int .i64 (i : Int)] rfl (heap_alloc_new W _) (by intro u hu; simp at hu; subst hu; rfl) (by omega)
  have hxs : (⟨3, 1, .slice A (s.way.length + 1) c, s.way.length + 1, wcells s.way ++ [.int .i64 (i : Int)]⟩ : ORow) = ⟨3, 1, .slice A (s.way.length + 1) c, (s.way ++ [i]).length, wcells (s.way ++ [i])⟩ := by simp [wcells]
  rw [hxs] at hf ht
  refine ⟨A, c, w', hrun, _, h.fin ht (h.made.ways hf) ?_ ?_ ?_, ?_, ?_⟩
  · rw [upd_other _ _ (by omega)]; exact h.nms
  · rw [upd_other _ _ (by omega)]
  · rw [upd_other _ _ (by omega)]
  · rw [upd_same]
  · rw [upd_other _ _ (by omega)]
/-- A collection ends. -/
theorem RSt.shut {U W : World} {gb xb : Nat} {x : Ev} {s : Mk} {R : Nat → ORow} (h : RSt U W gb xb x s R) (hw : s.way ≠ []) :
    ∃ wg wc, (R 2).v = .slice (some ⟨wg, 0, none⟩) s.way.length wc ∧ 0 < s.way.length ∧ s.way.length ≤ wc ∧ ∃ R', RSt U W gb xb x { s with way := s.way.dropLast } R' ∧ (R' 2).v = .slice (some ⟨wg, 0, none⟩) (s.way.length - 1) wc ∧ (R' 3).v = (R 3).v := by
  have hl : 0 < s.way.length := List.length_pos_iff.2 hw
  rcases h.made.fam.form 2 (n := s.way.length) (by rw [h.made.way]) with ⟨_, h0⟩ | ⟨wg, wc, hv2, hwc, _, _⟩
  · omega
  have hR2 : R 2 = ⟨3, 1, .slice (some ⟨wg, 0, none⟩) s.way.length wc, s.way.length, wcells s.way⟩ := by rw [← hv2]; exact h.made.way
  have ho := h.made.fam.own 2
  rw [hR2] at ho
  have hcut := ORow.cut ho (m := s.way.length - 1) (by omega)
  have hxs : (⟨3, 1, .slice (some ⟨wg, 0, none⟩) (s.way.length - 1) wc, s.way.length - 1, (wcells s.way).take ((s.way.length - 1) * 1)⟩ : ORow) = ⟨3, 1, .slice (some ⟨wg, 0, none⟩) (s.way.length - 1) wc, s.way.dropLast.length, wcells s.way.dropLast⟩ := by simp [wcells, List.dropLast_eq_take, List.map_take]
  rw [hxs] at hcut
  obtain ⟨hf, ht⟩ := h.made.fam.less 2 _ hcut (by rw [hv2]; exact fun g hg => hg)
  refine ⟨wg, wc, hv2, hl, hwc, _, h.fin ht (h.made.ways hf) ?_ ?_ ?_, ?_, ?_⟩
  · rw [upd_other _ _ (by omega)]; exact h.nms
  · rw [upd_other _ _ (by omega)]
  · rw [upd_other _ _ (by omega)]
  · rw [upd_same]
  · rw [upd_other _ _ (by omega)]
theorem Mk.Sz.named {s : Mk} {k : Nat} (h : s.Sz k) (p : ByteArray × Nat) : ({ s with names := s.names ++ [p] } : Mk).Sz (k + 1) := by
  have h' := h.mono (Nat.le_succ k)
  refine ⟨h'.nodes, h'.roots, h'.way, ?_, h'.kids⟩
  have := h.names
  simp; omega
/-- A new node, as the walk wants it. -/
theorem RSt.nodeF {U W V : World} {gb xb : Nat} {x : Ev} {s : Mk} {R : Nat → ORow} (h : RSt U W gb xb x s R) (hs : s.Sz 1700000) (hb : Below W.heap.size W V) (e : Nd) (hk : e.kids = []) {NA : Option Addr} {nc : Nat} (hv : (R 0).v = .slice NA s.nodes.length nc) :
    ∃ A c w5 X5 R5, (Builtin.append_ #[25, 25] 25 #[.slice NA s.nodes.length nc, .slice (some ⟨V.heap.size, 0, none⟩) 1 1]).run Tryz.prog (V.alloc (.cells #[.int .i64 e.kind, .string e.tag, .string e.text, .slice none 0 0, .bool e.plain] 46)) = .ok (.slice A (s.nodes.length + 1) c) w5 ∧
      RCells w5 gb xb x (.slice NA s.nodes.length nc) (R 1).v ∧ w5.setCell ⟨gb, 0, none⟩ (.slice A (s.nodes.length + 1) c) = X5 ∧ RSt U X5 gb xb x { s with nodes := s.nodes ++ [e] } R5 ∧ (R5 2).v = (R 2).v ∧ (R5 3).v = (R 3).v := by
  have hx : Below W.heap.size W (V.alloc (.cells #[.int .i64 e.kind, .string e.tag, .string e.text, .slice none 0 0, .bool e.plain] 46)) := hb.trans (((Below.refl _ V).alloc (Nat.le_refl _) _).mono hb.size)
  obtain ⟨A, c, w', hrun, hcl, R', hr, q2, q3⟩ := h.node (hs.mono (by omega)) hx hk (n0 := V.heap.size) (fr := (0, 0)) (heap_alloc_new V _)
  rw [hv] at hrun hcl
  exact ⟨A, c, w', _, R', hrun, hcl, rfl, hr, q2, q3⟩
/-- The box of a node that is made, and what it is where the kind is told. -/
theorem boxF (X : World) (k0 k1 : Int) (a b : ByteArray) (pl : Bool) : ∃ V1 V2, X.alloc (.cells #[.int .i64 k0, .string a, .string b, .slice none 0 0, .bool pl] 46) = V1 ∧ V1.setCell ⟨X.heap.size, 0, none⟩ (.int .i64 k1) = V2 ∧ Below X.heap.size X V1 ∧ Below X.heap.size X V2 ∧
    V1.heap[X.heap.size]? = some (.cells #[.int .i64 k0, .string a, .string b, .slice none 0 0, .bool pl] 46 (0, 0)) ∧ V2.heap[X.heap.size]? = some (.cells #[.int .i64 k1, .string a, .string b, .slice none 0 0, .bool pl] 46 (0, 0)) := by
  have hr := heap_alloc_new X (.cells #[.int .i64 k0, .string a, .string b, .slice none 0 0, .bool pl] 46)
  have hb : Below X.heap.size X (X.alloc (.cells #[.int .i64 k0, .string a, .string b, .slice none 0 0, .bool pl] 46)) := (Below.refl _ X).alloc (Nat.le_refl _) _
  exact ⟨_, _, rfl, rfl, hb, hb.setCell (p := ⟨X.heap.size, 0, none⟩) (Nat.le_refl _) _, hr, Go.Joins.block_setCell (i := 0) hr _⟩
def R0f : Nat → ORow := fun i => if i = 3 then ⟨62, 2, .slice none 0 0, 0, []⟩ else if i = 0 then ⟨46, 5, .slice none 0 0, 0, []⟩ else ⟨3, 1, .slice none 0 0, 0, []⟩
theorem R0f_v (i : Nat) : (R0f i).v = .slice none 0 0 := by unfold R0f; split; rfl; split <;> rfl
theorem R0f_at (W : World) (N i : Nat) : (R0f i).At W N := by
  unfold R0f
  split
  · exact ⟨rfl, .inl ⟨rfl, rfl⟩⟩
  split
  · exact ⟨rfl, .inl ⟨rfl, rfl⟩⟩
  · exact ⟨rfl, .inl ⟨rfl, rfl⟩⟩
theorem RfAt.new {U : World} {gb : Nat} (h : U.heap[gb]? = some (.cells #[.slice none 0 0, .slice none 0 0] 28 (0, 0))) : RfAt U U gb mk0 R0f := by
  refine ⟨⟨⟨R0f_at U _, fun i j g _ hi => ?_⟩, rfl, rfl, rfl, fun k => ?_, fun k _ => R0f_v _⟩, rfl, h, Below.refl _ _⟩
  · rw [R0f_v] at hi; cases hi
  · unfold R0f
    rw [if_neg (by omega), if_neg (by omega)]
    simp [nd, mk0]
    exact ⟨rfl, rfl⟩
end Go.Proofs.YtiblamapjekdeaaGreat
