/- The program's builder in memory: the struct, the map of names, what has been made. No condition but the sizes. -/
import Derived.Test.YtiblamapjekdeaaGreatFb
import Derived.Maps.OwnSet
namespace Go.Proofs.YtiblamapjekdeaaGreat
open Go.RowKit Go.Maps
theorem Tryz.infoIntF : (Tryz.prog.info? 3).map (fun i => (i.zero, i.size, i.bytes)) = some (some (.int .i64 0), 1, 8) := by kernel_rfl
def keyL (s : ByteArray) : Lit := .string s.data.toList
theorem keyL_ne {a b : ByteArray} (h : a ≠ b) : keyL a ≠ keyL b := fun e => h (by
  have : a.data.toList = b.data.toList := by simpa [keyL] using e
  cases a; cases b; simp at this; rw [this])
/-- The names and what they were given to, as a map that the call owns (nil: no names). -/
def NmAt (W : World) (N : Nat) (m : Value) (l : List (ByteArray × Nat)) : Prop :=
  (m = .map none ∧ l = []) ∨ ∃ b D, m = .map (some b) ∧ N ≤ b ∧ W.ownsMap Tryz.prog 9 (plainElem (H := Unit) Tryz.prog 3) b l.length D ∧
    ∀ s, (look l s = none → Maps.has D (keyL s) = false) ∧ ∀ i, look l s = some i → Maps.has D (keyL s) = true ∧ D.atKey (keyL s) (.lit (.int .i64 0)) = .lit (.int .i64 (i : Int))
theorem Fam.noMap {W : World} {N : Nat} {R : Nat → ORow} (h : Fam W N R) {b : Nat} {es : Array MapEntry} {c : Nat} (hb : W.heap[b]? = some (.map es c)) : ∀ i, (R i).v.ownBlock ≠ some b := fun i e => by
  rcases (h.own i).2 with ⟨hv, _⟩ | ⟨g, cap, cur, hv, _, hg, _⟩
  · rw [hv] at e; cases e
  · rw [hv] at e; cases e; rw [hb] at hg; cases hg
theorem ownsMap_block {W : World} {b n : Nat} {D : DataW Unit} (h : W.ownsMap Tryz.prog 9 (plainElem (H := Unit) Tryz.prog 3) b n D) : ∃ es c, W.heap[b]? = some (.map es c) := by
  obtain ⟨es, c, hb, _⟩ := h
  exact ⟨es, c, hb⟩
theorem ownsMap_by {W w' : World} {b n : Nat} {D : DataW Unit} (h : W.ownsMap Tryz.prog 9 (plainElem (H := Unit) Tryz.prog 3) b n D) (hb : w'.heap[b]? = W.heap[b]?) : w'.ownsMap Tryz.prog 9 (plainElem (H := Unit) Tryz.prog 3) b n D := by
  obtain ⟨es, c, h1, h2⟩ := h
  exact ⟨es, c, hb.trans h1, h2⟩
theorem NmAt.turn {W w' : World} {N : Nat} {R R' : Nat → ORow} {m : Value} {l : List (ByteArray × Nat)} (h : NmAt W N m l) (ht : Turn R R' W w') (hf : Fam W N R) : NmAt w' N m l := by
  rcases h with h | ⟨b, D, h1, h2, h3, h4⟩
  · exact .inl h
  · obtain ⟨es, c, hb⟩ := ownsMap_block h3
    exact .inr ⟨b, D, h1, h2, ownsMap_by h3 (ht.free b (lt_of_row' hb) (hf.noMap hb)).1, h4⟩
where
  lt_of_row' {W : World} {b : Nat} {o : Obj} (h : W.heap[b]? = some o) : b < W.heap.size := (Array.getElem?_eq_some_iff.1 h).1
/-- The builder's cells. -/
def brow (R : Nat → ORow) (m : Value) (d n : Int) : List Value := [(R 0).v, (R 1).v, m, (R 2).v, .int .i64 d, .int .i64 n]
structure BdAt (W : World) (N bb : Nat) (s : Mk) (R : Nat → ORow) (m : Value) (d n : Int) : Prop where
  made : MkAt W N s R
  bd : R 3 = ⟨57, 6, .slice (some ⟨bb, 0, none⟩) 1 1, 1, brow R m d n⟩
  nm : NmAt W N m s.names
  lt : N ≤ W.heap.size
def Bd (W : World) (N bb : Nat) (s : Mk) (d n : Int) : Prop := ∃ R m, BdAt W N bb s R m d n
theorem BdAt.cells {W : World} {N bb : Nat} {s : Mk} {R : Nat → ORow} {m : Value} {d n : Int} (h : BdAt W N bb s R m d n) :
    W.cell? ⟨bb, 0, none⟩ = some (R 0).v ∧ W.cell? ⟨bb, 1, none⟩ = some (R 1).v ∧ W.cell? ⟨bb, 2, none⟩ = some m ∧ W.cell? ⟨bb, 3, none⟩ = some (R 2).v ∧ W.cell? ⟨bb, 4, none⟩ = some (.int .i64 d) ∧ W.cell? ⟨bb, 5, none⟩ = some (.int .i64 n) ∧ (∀ j, W.frozen? ⟨bb, j, none⟩ = false) ∧ bb < W.heap.size := by
  have c := fun j u (hj : j < 6) (hu : (brow R m d n)[j]? = some u) => h.made.fam.cell 3 h.bd hu (by omega : j < 1 * 6)
  have ho := h.made.fam.own 3
  rw [h.bd] at ho
  exact ⟨(c 0 _ (by omega) rfl).1, (c 1 _ (by omega) rfl).1, (c 2 _ (by omega) rfl).1, (c 3 _ (by omega) rfl).1, (c 4 _ (by omega) rfl).1, (c 5 _ (by omega) rfl).1, fun j => World.ownsRow.frozenAt ho j, (c 0 _ (by omega) rfl).2.2⟩
theorem BdAt.fin {W w' : World} {N bb : Nat} {s s' : Mk} {R R' : Nat → ORow} {m : Value} {d n : Int} (h : BdAt W N bb s R m d n) (ht : Turn R R' W w') (hm : MkAt w' N s' R')
    (hb : R' 3 = ⟨57, 6, .slice (some ⟨bb, 0, none⟩) 1 1, 1, brow R' m d n⟩) (hn : s'.names = s.names) : Bd w' N bb s' d n ∧ Below N W w' :=
  ⟨⟨R', m, hm, hb, by rw [hn]; exact h.nm.turn ht h.made.fam, Nat.le_trans h.lt ht.size⟩, ht.below h.made.fam h.lt⟩
theorem NmAt.below {W w' : World} {N : Nat} {m : Value} {l : List (ByteArray × Nat)} (h : NmAt W N m l) (hb : Below W.heap.size W w') : NmAt w' N m l := by
  rcases h with h | ⟨b, D, h1, h2, h3, h4⟩
  · exact .inl h
  · obtain ⟨es, c, hbm⟩ := ownsMap_block h3
    exact .inr ⟨b, D, h1, h2, ownsMap_by h3 (hb.block b (Array.getElem?_eq_some_iff.1 hbm).1), h4⟩
theorem BdAt.below {W w' : World} {N bb : Nat} {s : Mk} {R : Nat → ORow} {m : Value} {d n : Int} (h : BdAt W N bb s R m d n) (hb : Below W.heap.size W w') : BdAt w' N bb s R m d n :=
  ⟨h.made.below hb, h.bd, h.nm.below hb, Nat.le_trans h.lt hb.size⟩
theorem Bd.below {W w' : World} {N bb : Nat} {s : Mk} {d n : Int} (h : Bd W N bb s d n) (hb : Below W.heap.size W w') : Bd w' N bb s d n := by
  obtain ⟨R, m, h⟩ := h
  exact ⟨R, m, h.below hb⟩
/-- All that there is has no more than so many parts. -/
structure Mk.Sz (s : Mk) (k : Nat) : Prop where
  nodes : s.nodes.length ≤ k
  roots : s.roots.length ≤ k
  way : s.way.length ≤ k
  names : s.names.length ≤ k
  kids : ∀ u, (nd s.nodes u).kids.length ≤ k
theorem Mk.Sz.mono {s : Mk} {k k' : Nat} (h : s.Sz k) (hk : k ≤ k') : s.Sz k' := ⟨Nat.le_trans h.nodes hk, Nat.le_trans h.roots hk, Nat.le_trans h.way hk, Nat.le_trans h.names hk, fun u => Nat.le_trans (h.kids u) hk⟩
theorem getLast?_snoc {l : List Nat} {u : Nat} (h : l.getLast? = some u) : ∃ r, l = r ++ [u] := List.getLast?_eq_some_iff.1 h
/-- The number of a new node among the roots. -/
theorem BdAt.root {W : World} {N bb : Nat} {s : Mk} {R : Nat → ORow} {m : Value} {d n : Int} (h : BdAt W N bb s R m d n) (hs : s.Sz 1900000) (hw : s.way = []) (i : Nat) :
    ∃ A c w', (Builtin.append_ #[26, 26] 26 #[(R 1).v, .slice (some ⟨W.heap.size, 0, none⟩) 1 1]).run Tryz.prog (W.alloc (.cells #[.int .i64 (i : Int)] 3)) = .ok (.slice A (s.roots.length + 1) c) w' ∧
      w'.cell? ⟨bb, 1, none⟩ = some (R 1).v ∧ w'.frozen? ⟨bb, 1, none⟩ = false ∧ Bd (w'.setCell ⟨bb, 1, none⟩ (.slice A (s.roots.length + 1) c)) N bb (place i s) d n ∧ Below N W (w'.setCell ⟨bb, 1, none⟩ (.slice A (s.roots.length + 1) c)) := by
  have hr1 := hs.roots
  obtain ⟨A, c, w', hrun, hc, hf, ht⟩ := h.made.fam.app (Wx := W.alloc (.cells #[.int .i64 (i : Int)] 3)) ((Below.refl _ W).alloc (Nat.le_refl _) _) h.lt 1 h.made.roots (t := 26) Tryz.underlying26 Tryz.infoIntF rfl (by decide) (by decide) W.heap.size (0, 0) [.int .i64 (i : Int)] rfl (heap_alloc_new W _) (by intro u hu; simp at hu; subst hu; rfl) (by omega)
  have e3 : upd R 1 ⟨3, 1, .slice A (s.roots.length + 1) c, s.roots.length + 1, zcells s.roots ++ [.int .i64 (i : Int)]⟩ 3 = ⟨57, 6, .slice (some ⟨bb, 0, none⟩) 1 1, 1, brow R m d n⟩ := by rw [upd_other _ _ (by omega)]; exact h.bd
  have hxs : (⟨3, 1, .slice A (s.roots.length + 1) c, s.roots.length + 1, zcells s.roots ++ [.int .i64 (i : Int)]⟩ : ORow) = ⟨3, 1, .slice A (s.roots.length + 1) c, (s.roots ++ [(i : Int)]).length, zcells (s.roots ++ [(i : Int)])⟩ := by simp [zcells]
  have hc1 := hf.cell 3 e3 (j := 1) (u := (R 1).v) rfl (by omega)
  obtain ⟨hf2, ht2⟩ := hf.store 3 e3 1 (.slice A (s.roots.length + 1) c)
  refine ⟨A, c, w', hrun, hc1.1, hc1.2.1, ?_⟩
  rw [hxs] at hf hf2 ht ht2
  have hm2 := (h.made.root hf).third hf2
  have hp : place i s = { s with roots := s.roots ++ [(i : Int)] } := by rw [place, hw]; rfl
  rw [hp]
  exact h.fin (ht.trans ht2) hm2 (by rw [upd_same]; rfl) rfl
/-- The number of a new node among the Kids of what is open. -/
theorem BdAt.kid {W : World} {N bb : Nat} {s : Mk} {R : Nat → ORow} {m : Value} {d n : Int} (h : BdAt W N bb s R m d n) (hs : s.Sz 1900000) {u : Nat} (hw : s.way.getLast? = some u) (hu : u < s.nodes.length) (i : Nat) :
    ∃ ng nc wg wc, (R 0).v = .slice (some ⟨ng, 0, none⟩) s.nodes.length nc ∧ (R 2).v = .slice (some ⟨wg, 0, none⟩) s.way.length wc ∧ 0 < s.way.length ∧ W.cell? ⟨wg, s.way.length - 1, none⟩ = some (.int .i64 (u : Int)) ∧
    W.cell? ⟨ng, u * 5 + 3, none⟩ = some (R (4 + u)).v ∧
    ∃ A c w' l, (Builtin.append_ #[26, 26] 26 #[(R (4 + u)).v, .slice (some ⟨W.heap.size, 0, none⟩) 1 1]).run Tryz.prog (W.alloc (.cells #[.int .i64 (i : Int)] 3)) = .ok (.slice A l c) w' ∧
      w'.cell? ⟨ng, u * 5 + 3, none⟩ = some (R (4 + u)).v ∧ w'.frozen? ⟨ng, u * 5 + 3, none⟩ = false ∧ Bd (w'.setCell ⟨ng, u * 5 + 3, none⟩ (.slice A l c)) N bb (place i s) d n ∧ Below N W (w'.setCell ⟨ng, u * 5 + 3, none⟩ (.slice A l c)) := by
  obtain ⟨r, hr⟩ := getLast?_snoc hw
  have hwl : s.way.length = r.length + 1 := by rw [hr]; simp
  have hk1 := hs.kids u
  rcases h.made.fam.form 2 (n := s.way.length) (by rw [h.made.way]) with ⟨_, h0⟩ | ⟨wg, wc, hv2, _, _, _⟩
  · omega
  rcases h.made.fam.form 0 (n := s.nodes.length) (by rw [h.made.nodes]) with ⟨_, h0⟩ | ⟨ng, nc, hv0, _, _, _⟩
  · omega
  have hR2 : R 2 = ⟨3, 1, .slice (some ⟨wg, 0, none⟩) s.way.length wc, s.way.length, wcells s.way⟩ := by rw [← hv2]; exact h.made.way
  have hR0 : R 0 = ⟨46, 5, .slice (some ⟨ng, 0, none⟩) s.nodes.length nc, s.nodes.length, nrowsF (fun k => (R (4 + k)).v) 0 s.nodes⟩ := by rw [← hv0]; exact h.made.nodes
  have hcw := (h.made.fam.cell 2 hR2 (j := s.way.length - 1) (u := .int .i64 (u : Int)) (by rw [hr]; simp [wcells]) (by omega)).1
  have hget : ∀ K : Nat → Value, (nrowsF K 0 s.nodes)[u * 5 + 3]? = some (K u) := fun K => by rw [nrowsF_get K s.nodes 0 u 3 hu (by omega), Nat.zero_add]; rfl
  have hcn := (h.made.fam.cell 0 hR0 (j := u * 5 + 3) (u := (R (4 + u)).v) (hget _) (by omega)).1
  obtain ⟨A, c, w', hrun, hc, hf, ht⟩ := h.made.fam.app (Wx := W.alloc (.cells #[.int .i64 (i : Int)] 3)) ((Below.refl _ W).alloc (Nat.le_refl _) _) h.lt (4 + u) (h.made.kids u) (t := 26) Tryz.underlying26 Tryz.infoIntF rfl (by decide) (by decide) W.heap.size (0, 0) [.int .i64 (i : Int)] rfl (heap_alloc_new W _) (by intro u hu; simp at hu; subst hu; rfl) (by omega)
  have e0 : upd R (4 + u) ⟨3, 1, .slice A ((nd s.nodes u).kids.length + 1) c, (nd s.nodes u).kids.length + 1, zcells (nd s.nodes u).kids ++ [.int .i64 (i : Int)]⟩ 0 = ⟨46, 5, .slice (some ⟨ng, 0, none⟩) s.nodes.length nc, s.nodes.length, nrowsF (fun k => (R (4 + k)).v) 0 s.nodes⟩ := by rw [upd_other _ _ (by omega)]; exact hR0
  have hxs : (⟨3, 1, .slice A ((nd s.nodes u).kids.length + 1) c, (nd s.nodes u).kids.length + 1, zcells (nd s.nodes u).kids ++ [.int .i64 (i : Int)]⟩ : ORow) = ⟨3, 1, .slice A ((nd s.nodes u).kids.length + 1) c, ((nd s.nodes u).kids ++ [(i : Int)]).length, zcells ((nd s.nodes u).kids ++ [(i : Int)])⟩ := by simp [zcells]
  have hc1 := hf.cell 0 e0 (j := u * 5 + 3) (u := (R (4 + u)).v) (hget _) (by omega)
  obtain ⟨hf2, ht2⟩ := hf.store 0 e0 (u * 5 + 3) (.slice A ((nd s.nodes u).kids.length + 1) c)
  refine ⟨ng, nc, wg, wc, hv0, hv2, by omega, hcw, hcn, A, c, w', _, hrun, hc1.1, hc1.2.1, ?_⟩
  rw [hxs] at hf hf2 ht ht2
  have hm2 := h.made.kid (i := (i : Int)) hu rfl hf2
  have hp : place i s = { s with nodes := s.nodes.modify u (addKid i) } := by rw [place, hw]
  rw [hp]
  exact h.fin (ht.trans ht2) hm2 (by rw [upd_other _ _ (by omega), upd_other _ _ (by omega), h.bd]; unfold brow; rw [upd_same, upd_other _ _ (by omega : (1 : Nat) ≠ 0), upd_other _ _ (by omega), upd_other _ _ (by omega : (2 : Nat) ≠ 0), upd_other _ _ (by omega), hv0]) rfl
/-- A new node. -/
theorem BdAt.node {W Wx : World} {N bb : Nat} {s : Mk} {R : Nat → ORow} {m : Value} {d n : Int} (h : BdAt W N bb s R m d n) (hs : s.Sz 1900000) (hx : Below W.heap.size W Wx) {e : Nd} (hk : e.kids = []) {n0 : Nat} {fr : Nat × Nat} (hn0 : Wx.heap[n0]? = some (.cells (nrowF (.slice none 0 0) e).toArray 46 fr)) :
    ∃ A c w', (Builtin.append_ #[25, 25] 25 #[(R 0).v, .slice (some ⟨n0, 0, none⟩) 1 1]).run Tryz.prog Wx = .ok (.slice A (s.nodes.length + 1) c) w' ∧
      w'.cell? ⟨bb, 0, none⟩ = some (R 0).v ∧ w'.frozen? ⟨bb, 0, none⟩ = false ∧ Bd (w'.setCell ⟨bb, 0, none⟩ (.slice A (s.nodes.length + 1) c)) N bb { s with nodes := s.nodes ++ [e] } d n ∧ Below N W (w'.setCell ⟨bb, 0, none⟩ (.slice A (s.nodes.length + 1) c)) := by
  have hr1 := hs.nodes
  obtain ⟨A, c, w', hrun, hc, hf, ht⟩ := h.made.fam.app hx h.lt 0 h.made.nodes (t := 25) Tryz.underlying25 Tryz.infoNodeF rfl (by decide) (by decide) n0 fr (nrowF (.slice none 0 0) e) rfl hn0 (by intro u hu; simp [nrowF] at hu; rcases hu with rfl | rfl | rfl | rfl | rfl <;> rfl) (by omega)
  have e3 : upd R 0 ⟨46, 5, .slice A (s.nodes.length + 1) c, s.nodes.length + 1, nrowsF (fun k => (R (4 + k)).v) 0 s.nodes ++ nrowF (.slice none 0 0) e⟩ 3 = ⟨57, 6, .slice (some ⟨bb, 0, none⟩) 1 1, 1, brow R m d n⟩ := by rw [upd_other _ _ (by omega)]; exact h.bd
  have hc1 := hf.cell 3 e3 (j := 0) (u := (R 0).v) rfl (by omega)
  obtain ⟨hf2, ht2⟩ := hf.store 3 e3 0 (.slice A (s.nodes.length + 1) c)
  exact ⟨A, c, w', hrun, hc1.1, hc1.2.1, h.fin (ht.trans ht2) ((h.made.node hk hf).third hf2) (by rw [upd_same]; rfl) rfl⟩
/-- A collection begins. -/
theorem BdAt.open {W : World} {N bb : Nat} {s : Mk} {R : Nat → ORow} {m : Value} {d n : Int} (h : BdAt W N bb s R m d n) (hs : s.Sz 1900000) (i : Nat) :
    ∃ A c w', (Builtin.append_ #[26, 26] 26 #[(R 2).v, .slice (some ⟨W.heap.size, 0, none⟩) 1 1]).run Tryz.prog (W.alloc (.cells #[.int .i64 (i : Int)] 3)) = .ok (.slice A (s.way.length + 1) c) w' ∧
      w'.cell? ⟨bb, 3, none⟩ = some (R 2).v ∧ w'.frozen? ⟨bb, 3, none⟩ = false ∧ Bd (w'.setCell ⟨bb, 3, none⟩ (.slice A (s.way.length + 1) c)) N bb { s with way := s.way ++ [i] } d n ∧ Below N W (w'.setCell ⟨bb, 3, none⟩ (.slice A (s.way.length + 1) c)) := by
  have hr1 := hs.way
  obtain ⟨A, c, w', hrun, hc, hf, ht⟩ := h.made.fam.app (Wx := W.alloc (.cells #[.int .i64 (i : Int)] 3)) ((Below.refl _ W).alloc (Nat.le_refl _) _) h.lt 2 h.made.way (t := 26) Tryz.underlying26 Tryz.infoIntF rfl (by decide) (by decide) W.heap.size (0, 0) [.int .i64 (i : Int)] rfl (heap_alloc_new W _) (by intro u hu; simp at hu; subst hu; rfl) (by omega)
  have e3 : upd R 2 ⟨3, 1, .slice A (s.way.length + 1) c, s.way.length + 1, wcells s.way ++ [.int .i64 (i : Int)]⟩ 3 = ⟨57, 6, .slice (some ⟨bb, 0, none⟩) 1 1, 1, brow R m d n⟩ := by rw [upd_other _ _ (by omega)]; exact h.bd
  have hxs : (⟨3, 1, .slice A (s.way.length + 1) c, s.way.length + 1, wcells s.way ++ [.int .i64 (i : Int)]⟩ : ORow) = ⟨3, 1, .slice A (s.way.length + 1) c, (s.way ++ [i]).length, wcells (s.way ++ [i])⟩ := by simp [wcells]
  have hc1 := hf.cell 3 e3 (j := 3) (u := (R 2).v) rfl (by omega)
  obtain ⟨hf2, ht2⟩ := hf.store 3 e3 3 (.slice A (s.way.length + 1) c)
  refine ⟨A, c, w', hrun, hc1.1, hc1.2.1, ?_⟩
  rw [hxs] at hf hf2 ht ht2
  exact h.fin (ht.trans ht2) ((h.made.ways hf).third hf2) (by rw [upd_same]; rfl) rfl
/-- A collection ends. -/
theorem BdAt.shut {W : World} {N bb : Nat} {s : Mk} {R : Nat → ORow} {m : Value} {d n : Int} (h : BdAt W N bb s R m d n) (hw : s.way ≠ []) :
    ∃ wg wc, (R 2).v = .slice (some ⟨wg, 0, none⟩) s.way.length wc ∧ 0 < s.way.length ∧ s.way.length ≤ wc ∧ Bd (W.setCell ⟨bb, 3, none⟩ (.slice (some ⟨wg, 0, none⟩) (s.way.length - 1) wc)) N bb { s with way := s.way.dropLast } d n ∧ Below N W (W.setCell ⟨bb, 3, none⟩ (.slice (some ⟨wg, 0, none⟩) (s.way.length - 1) wc)) := by
  have hl : 0 < s.way.length := List.length_pos_iff.2 hw
  rcases h.made.fam.form 2 (n := s.way.length) (by rw [h.made.way]) with ⟨_, h0⟩ | ⟨wg, wc, hv2, hwc, _, _⟩
  · omega
  have hR2 : R 2 = ⟨3, 1, .slice (some ⟨wg, 0, none⟩) s.way.length wc, s.way.length, wcells s.way⟩ := by rw [← hv2]; exact h.made.way
  have ho := h.made.fam.own 2
  rw [hR2] at ho
  have hcut := ORow.cut ho (m := s.way.length - 1) (by omega)
  have hxs : (⟨3, 1, .slice (some ⟨wg, 0, none⟩) (s.way.length - 1) wc, s.way.length - 1, (wcells s.way).take ((s.way.length - 1) * 1)⟩ : ORow) = ⟨3, 1, .slice (some ⟨wg, 0, none⟩) (s.way.length - 1) wc, s.way.dropLast.length, wcells s.way.dropLast⟩ := by simp [wcells, List.dropLast_eq_take, List.map_take]
  rw [hxs] at hcut
  obtain ⟨hf, ht⟩ := h.made.fam.less 2 _ hcut (by rw [hv2]; exact fun g hg => hg)
  have e3 : upd R 2 ⟨3, 1, .slice (some ⟨wg, 0, none⟩) (s.way.length - 1) wc, s.way.dropLast.length, wcells s.way.dropLast⟩ 3 = ⟨57, 6, .slice (some ⟨bb, 0, none⟩) 1 1, 1, brow R m d n⟩ := by rw [upd_other _ _ (by omega)]; exact h.bd
  obtain ⟨hf2, ht2⟩ := hf.store 3 e3 3 (.slice (some ⟨wg, 0, none⟩) (s.way.length - 1) wc)
  exact ⟨wg, wc, hv2, hl, hwc, h.fin (ht.trans ht2) ((h.made.ways hf).third hf2) (by rw [upd_same]; rfl) rfl⟩
/-- The map's field is written: the world then holds other names. -/
theorem BdAt.named {W w' : World} {N bb : Nat} {s : Mk} {R : Nat → ORow} {m : Value} {d n : Int} (h : BdAt W N bb s R m d n) (hg : W.grownBy w' none) (m' : Value) {l : List (ByteArray × Nat)} (hm : NmAt (w'.setCell ⟨bb, 2, none⟩ m') N m' l) :
    ∃ R', BdAt (w'.setCell ⟨bb, 2, none⟩ m') N bb { s with names := l } R' m' d n ∧ Below N W (w'.setCell ⟨bb, 2, none⟩ m') := by
  have hb : Below W.heap.size W w' := ⟨hg.os, hg.tape, hg.output, hg.size, fun b hb => hg.block b hb (by intro e; cases e)⟩
  have hf := h.made.fam.below hb
  obtain ⟨hf2, ht2⟩ := hf.store 3 h.bd 2 m'
  have hm2 := (h.made.of hf).third hf2
  have ht := (Turn.of_below R hb).trans ht2
  refine ⟨_, ⟨⟨hm2.fam, hm2.nodes, hm2.roots, hm2.way, hm2.kids, hm2.rest⟩, ?_, hm, Nat.le_trans h.lt ht.size⟩, ht.below h.made.fam h.lt⟩
  rw [upd_same]; rfl
end Go.Proofs.YtiblamapjekdeaaGreat
