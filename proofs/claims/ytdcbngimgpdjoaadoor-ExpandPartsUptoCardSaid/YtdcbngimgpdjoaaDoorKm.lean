/- Taking away, in memory: how many Kids are left of each, who has each, and who is free. No condition. -/
import Derived.Test.YtdcbngimgpdjoaaDoorRh
import Derived.Test.YtdcbngimgpdjoaaDoorXp
import Derived.Maps.AppendAt
import Derived.Deep.RegionLaw
import Derived.Test.YtdcbngimgpdjoaaDoorGf
namespace Go.Proofs.YtdcbngimgpdjoaaDoor
open Go.RowKit Go.Shelf Go.Deep
structure KaSt (w : World) (n : Nat) (lf : Nat → Nat) (vs : Nat → Value) (ups : Nat → List Nat) (free : List Nat) (u : Value) (W : World) : Prop where
  keep : Below w.heap.size w W
  size : w.heap.size + 2 ≤ W.heap.size
  left : W.rowIs w.heap.size 3 n fun k => .int .i64 (lf k : Nat)
  vrow : W.rowIs (w.heap.size + 1) 23 n vs
  rows : ∀ k, k < n → W.ownsRow (w.heap.size + 2) 3 1 (vs k) (ups k).length (ncells (ups k))
  free : W.ownsRow (w.heap.size + 2) 3 1 u free.length (ncells free.reverse)
  dis : ∀ j k g, j < n → k < n → (vs j).ownBlock = some g → (vs k).ownBlock = some g → j = k
  disF : ∀ k g, k < n → (vs k).ownBlock = some g → u.ownBlock ≠ some g
theorem KaSt.setLeft {w W : World} {n : Nat} {lf : Nat → Nat} {vs : Nat → Value} {ups : Nat → List Nat} {free : List Nat} {u : Value} (h : KaSt w n lf vs ups free u W) (k x : Nat) :
    KaSt w n (fun j => if j = k then x else lf j) vs ups free u (W.setCell ⟨w.heap.size, k, none⟩ (.int .i64 (x : Int))) := by
  have hk : ∀ g, g ≠ w.heap.size → (W.setCell ⟨w.heap.size, k, none⟩ (.int .i64 (x : Int))).heap[g]? = W.heap[g]? := fun g hg => Below.heap_setCell W ⟨w.heap.size, k, none⟩ _ g hg
  refine ⟨h.keep.setCell (p := ⟨w.heap.size, k, none⟩) (Nat.le_refl _) _, by simpa using h.size, (h.left.set k (.int .i64 (x : Int))).congr fun j _ => by by_cases e : j = k <;> simp [e], h.vrow.of_block (hk _ (by omega)), fun j hj => ownsRow_same (h.rows j hj) fun g hg _ => hk g ?_, ownsRow_same h.free fun g hg _ => hk g ?_, h.dis, h.disF⟩
  · have := (own_place (h.rows j hj) hg).1; omega
  · have := (own_place h.free hg).1; omega
theorem KaSt.tell {w W w' : World} {n : Nat} {lf : Nat → Nat} {vs : Nat → Value} {ups : Nat → List Nat} {free : List Nat} {u v' : Value} {k z g : Nat} {o : Obj} (h : KaSt w n lf vs ups free u W) (hkn : k < n)
    (hg : (W.alloc o).grownBy w' (vs k).ownBlock) (hv : w'.ownsRow (w.heap.size + 2) 3 1 v' (ups k ++ [z]).length (ncells (ups k ++ [z]))) (hg1 : v'.ownBlock = some g) (hg2 : (vs k).ownBlock = some g ∨ g = W.heap.size + 1) :
    KaSt w n lf (fun j => if j = k then v' else vs j) (fun j => if j = k then ups k ++ [z] else ups j) free u (w'.setCell ⟨w.heap.size + 1, k, none⟩ v') ∧ w'.rowIs (w.heap.size + 1) 23 n vs := by
  have hsz := h.size
  have hb : ∀ b, b < W.heap.size → (vs k).ownBlock ≠ some b → w'.heap[b]? = W.heap[b]? := fun b hb hne =>
    (hg.block b (by simp; omega) (fun e => hne e.symm)).trans (Below.heap_alloc W o b hb)
  have hlow : ∀ b, b < w.heap.size + 2 → w'.heap[b]? = W.heap[b]? := fun b hlt => hb b (by omega) fun e => by have := (own_place (h.rows k hkn) e).1; omega
  have hst : ∀ b, b ≠ w.heap.size + 1 → (w'.setCell ⟨w.heap.size + 1, k, none⟩ v').heap[b]? = w'.heap[b]? := fun b hb => Below.heap_setCell w' ⟨w.heap.size + 1, k, none⟩ v' b hb
  have hs2 : W.heap.size ≤ w'.heap.size := Nat.le_trans (by simp) hg.size
  have hvr : w'.rowIs (w.heap.size + 1) 23 n vs := h.vrow.of_block (hlow _ (by omega))
  have hgM : w.heap.size + 2 ≤ g := by
    rcases hg2 with e | rfl
    · exact (own_place (h.rows k hkn) e).1
    · omega
  have hfresh : ∀ {x : Value} {xs : List Value} {m : Nat}, W.ownsRow (w.heap.size + 2) 3 1 x m xs → x.ownBlock = some g → (vs k).ownBlock = some g := fun hx e => by
    rcases hg2 with e2 | e2
    · exact e2
    · have := (own_place hx e).2.1; omega
  refine ⟨⟨?_, by simp; omega, ?_, ?_, ?_, ?_, ?_, ?_⟩, hvr⟩
  · exact ⟨hg.os.trans h.keep.os, hg.tape.trans h.keep.tape, hg.output.trans h.keep.output, by have := h.keep.size; simp; omega, fun b hlt => (hst b (by omega)).trans ((hlow b (by omega)).trans (h.keep.block b hlt))⟩
  · exact h.left.of_block ((hst _ (by omega)).trans (hlow _ (by omega)))
  · exact (hvr.set k v').congr fun j _ => by by_cases e : j = k <;> simp [e]
  · intro j hj
    by_cases e : j = k
    · subst e
      simp only [if_true]
      exact ownsRow_same hv fun b hb' _ => hst b (by rw [hg1] at hb'; cases hb'; omega)
    · simp only [if_neg e]
      refine ownsRow_same (h.rows j hj) fun b hb' hlt => (hst b ?_).trans (hb b hlt fun e2 => e (h.dis j k b hj hkn hb' e2))
      have := (own_place (h.rows j hj) hb').1; omega
  · refine ownsRow_same h.free fun b hb' hlt => (hst b ?_).trans (hb b hlt fun e2 => h.disF k b hkn e2 hb')
    have := (own_place h.free hb').1; omega
  · intro i j b hi hj h1 h2
    by_cases e1 : i = k <;> by_cases e2 : j = k
    · rw [e1, e2]
    · subst e1
      simp only [if_true, if_neg e2] at h1 h2
      rw [hg1] at h1; cases h1
      exact absurd (h.dis j i _ hj hi h2 (hfresh (h.rows j hj) h2)) e2
    · subst e2
      simp only [if_true, if_neg e1] at h1 h2
      rw [hg1] at h2; cases h2
      exact absurd (h.dis i j _ hi hj h1 (hfresh (h.rows i hi) h1)) e1
    · simp only [if_neg e1, if_neg e2] at h1 h2
      exact h.dis i j b hi hj h1 h2
  · intro j b hj h1 h2
    by_cases e : j = k
    · subst e
      simp only [if_true] at h1
      rw [hg1] at h1; cases h1
      exact h.disF j _ hj (hfresh h.free h2) h2
    · simp only [if_neg e] at h1
      exact h.disF j b hj h1 h2
theorem KaSt.push {w W w' : World} {n : Nat} {lf : Nat → Nat} {vs : Nat → Value} {ups : Nat → List Nat} {free : List Nat} {u v' : Value} {z g : Nat} {o : Obj} (h : KaSt w n lf vs ups free u W)
    (hg : (W.alloc o).grownBy w' u.ownBlock) (hv : w'.ownsRow (w.heap.size + 2) 3 1 v' (free.reverse ++ [z]).length (ncells (free.reverse ++ [z]))) (hg1 : v'.ownBlock = some g) (hg2 : u.ownBlock = some g ∨ g = W.heap.size + 1) :
    KaSt w n lf vs ups (z :: free) v' w' := by
  have hsz := h.size
  have hb : ∀ b, b < W.heap.size → u.ownBlock ≠ some b → w'.heap[b]? = W.heap[b]? := fun b hb hne =>
    (hg.block b (by simp; omega) (fun e => hne e.symm)).trans (Below.heap_alloc W o b hb)
  have hlow : ∀ b, b < w.heap.size + 2 → w'.heap[b]? = W.heap[b]? := fun b hlt => hb b (by omega) fun e => by have := (own_place h.free e).1; omega
  have hs2 : W.heap.size ≤ w'.heap.size := Nat.le_trans (by simp) hg.size
  refine ⟨⟨hg.os.trans h.keep.os, hg.tape.trans h.keep.tape, hg.output.trans h.keep.output, by have := h.keep.size; omega, fun b hlt => (hlow b (by omega)).trans (h.keep.block b hlt)⟩, by omega, h.left.of_block (hlow _ (by omega)), h.vrow.of_block (hlow _ (by omega)),
    fun j hj => ownsRow_same (h.rows j hj) fun b hb' hlt => hb b hlt fun e => h.disF j b hj hb' e, by simpa using hv, h.dis, fun j b hj h1 h2 => ?_⟩
  rw [hg1] at h2
  cases h2
  rcases hg2 with e | e
  · exact h.disF j _ hj h1 e
  · have := (own_place (h.rows j hj) h1).2.1; omega
theorem KaSt.pop {w W : World} {n : Nat} {lf : Nat → Nat} {vs : Nat → Value} {ups : Nat → List Nat} {free : List Nat} {i c : Nat} {A : Option Addr} (h : KaSt w n lf vs ups (i :: free) (.slice A (i :: free).length c) W) :
    KaSt w n lf vs ups free (.slice A free.length c) W ∧ ∃ g, A = some ⟨g, 0, none⟩ ∧ W.cell? ⟨g, free.length, none⟩ = some (.int .i64 i) ∧ free.length + 1 ≤ c := by
  have hf := h.free
  rcases hf.2 with ⟨h0, _⟩ | ⟨g, cap, cur, hv, hb, hg, hn, _⟩
  · cases h0
  · cases hv
    refine ⟨⟨h.keep, h.size, h.left, h.vrow, h.rows, ownsRow_pop (last := ncells [i]) (by simp [ncells]) (by simpa [ncells] using hf), h.dis, h.disF⟩, g, rfl, ?_, by simpa using hn⟩
    have := hf.cellAt free.length (by simp)
    rw [this]
    simp [ncells]
theorem KaSt.congr {w W : World} {n : Nat} {lf lf' : Nat → Nat} {vs : Nat → Value} {ups ups' : Nat → List Nat} {free : List Nat} {u : Value} (h : KaSt w n lf vs ups free u W) (hl : ∀ k, k < n → lf k = lf' k) (hu : ∀ k, k < n → ups k = ups' k) : KaSt w n lf' vs ups' free u W :=
  ⟨h.keep, h.size, h.left.congr fun k hk => by rw [hl k hk], h.vrow, fun k hk => by rw [← hu k hk]; exact h.rows k hk, h.free, h.dis, h.disF⟩
theorem KaSt.drew {w W : World} {n : Nat} {lf : Nat → Nat} {vs : Nat → Value} {ups : Nat → List Nat} {free : List Nat} {u : Value} (h : KaSt w n lf vs ups free u W) : KaSt w n lf vs ups free u W.drew :=
  ⟨h.keep.drew, h.size, h.left.of_block rfl, h.vrow.of_block rfl, fun k hk => ownsRow_same (h.rows k hk) fun _ _ _ => rfl, ownsRow_same h.free fun _ _ _ => rfl, h.dis, h.disF⟩
theorem KaSt.shape {w W : World} {n : Nat} {lf : Nat → Nat} {vs : Nat → Value} {ups : Nat → List Nat} {free : List Nat} {u : Value} (h : KaSt w n lf vs ups free u W) : ∃ A c, u = .slice A free.length c := by
  obtain ⟨A, c, hu, _⟩ := ints_row (l := free.reverse) (by simpa using h.free)
  exact ⟨A, c, by simpa using hu⟩
theorem KaSt.upsShape {w W : World} {n : Nat} {lf : Nat → Nat} {vs : Nat → Value} {ups : Nat → List Nat} {free : List Nat} {u : Value} (h : KaSt w n lf vs ups free u W) {k : Nat} (hk : k < n) :
    ∃ A c, vs k = .slice A (ups k).length c ∧ IntsAt W W.heap.size A ((ups k).map Int.ofNat) := by
  obtain ⟨A, c, hu, hI, _⟩ := ints_row (h.rows k hk)
  exact ⟨A, c, hu, hI⟩
theorem upsN_len (kids : Nat → List Nat) (l : List Nat) (k : Nat) : (upsN kids l k).length = usedBy kids l k := by simp [upsN, usedBy, List.length_flatMap]
theorem one_news {W : World} {n0 : Nat} {z : Nat} (hc : W.cell? ⟨n0, 0, none⟩ = some (.int .i64 (z : Int))) : ∀ j u, [Value.int .i64 (z : Int)][j]? = some u → W.cell? ((⟨n0, 0, none⟩ : Addr).add j) = some u := by
  intro j u hj
  match j, hj with
  | 0, hj => simp at hj; subst hj; simpa [Addr.add] using hc
  | j + 1, hj => simp at hj
theorem step_appR {W : World} {ops : Array Oper} {o : Oper} {a : Act} {K : Act → World → Prop} {Q : Exit → Act → World → Prop} {E : Prop} (hgd : o.guard = none) (s x : Operand)
    (ho : o.op = .call { callee := .builtin .append, args := #[s, x], argTypes := #[23, 23] }) {N : Nat} (v : Value) (l : List Nat) (z : Nat) (hs : a.eval s = v) (h : W.ownsRow N 3 1 v l.length (ncells l))
    (n0 : Nat) (hx : a.eval x = .slice (some ⟨n0, 0, none⟩) 1 1) (hc : W.cell? ⟨n0, 0, none⟩ = some (.int .i64 (z : Int))) (hl : l.length ≤ 1000000000) (hB : N ≤ W.heap.size)
    (k : ∀ v' w', w'.ownsRow N 3 1 v' (l ++ [z]).length (ncells (l ++ [z])) → W.grownBy w' v.ownBlock → (v'.ownBlock = v.ownBlock ∨ v'.ownBlock = some W.heap.size) → (∃ g, v'.ownBlock = some g) → K (a.put o.dst v') w') :
    if Region.wanted o (yielded ops a.tmps) = true then Oper.wp Tryd.prog o a W K Q else E := by
  have hw : Region.wanted o (yielded ops a.tmps) = true := by simp [Region.wanted, hgd]
  rw [if_pos hw]
  obtain ⟨i0, hi, hz0, hz1, hz2⟩ := info_parts Tryd.infoIntZ
  obtain ⟨v', w', hr, h2, h3, h4, h5⟩ := run_append_own_at (P := Tryd.prog) W N 23 o.type 3 i0 _ 1 8 Tryd.underlying23 hi hz0 hz1 hz2 rfl (by decide) v l.length (ncells l) h ⟨n0, 0, none⟩ 1 1 [.int .i64 (z : Int)] rfl (one_news hc) (fun u hu => by simp at hu; subst hu; rfl) (by unfold maxLen; omega) (by omega) hB
  unfold Oper.wp execOp
  simp only [ho, resolve, invoke, builtin, Sem.run_bind, Sem.run_pure, Result.andThen_ok, List.map_toArray, List.map_cons, List.map_nil, hs, hx, hr]
  refine k v' w' (by simpa [ncells] using h2) h3 h5 ?_
  rcases h2.2 with ⟨_, h0⟩ | ⟨g', cap', cur', rfl, _⟩
  · omega
  · exact ⟨g', rfl⟩
/-- 'append' of one number to a row of the call's own, at a plain region. -/
theorem wpList_appO2 {W : World} {ops : Array Oper} {rest : List Oper} {o : Oper} {a : Act} {Q : Exit → Act → World → Prop} (hgd : o.guard = none) (s x : Operand) (t : TypeId)
    (ho : o.op = .call { callee := .builtin .append, args := #[s, x], argTypes := #[t, t] }) (ht : Tryd.prog.underlying t = some (.slice 3)) {N : Nat} (v : Value) (l : List Nat) (z : Nat)
    (hs : a.eval s = v) (h : W.ownsRow N 3 1 v l.length (ncells l)) (n0 : Nat) (hx : a.eval x = .slice (some ⟨n0, 0, none⟩) 1 1) (hc : W.cell? ⟨n0, 0, none⟩ = some (.int .i64 (z : Int))) (hl : l.length ≤ 1000000000) (hB : N ≤ W.heap.size)
    (k : ∀ v' w', w'.ownsRow N 3 1 v' (l ++ [z]).length (ncells (l ++ [z])) → W.grownBy w' v.ownBlock → (v'.ownBlock = v.ownBlock ∨ v'.ownBlock = some W.heap.size) → (∃ g, v'.ownBlock = some g) → wpList Tryd.prog ops Q rest (a.put o.dst v') w') :
    wpList Tryd.prog ops Q (o :: rest) a W := by
  obtain ⟨i0, hi, hz0, hz1, hz2⟩ := info_parts Tryd.infoIntZ
  refine wpList_append_own_at _ hgd s x t ho N _ i0 _ 1 8 ht hi hz0 hz1 hz2 rfl (by decide) _ _ _ hs h ⟨n0, 0, none⟩ 1 1 [.int .i64 (z : Int)] hx rfl (one_news hc) (fun u hu => by simp at hu; subst hu; rfl) (by unfold maxLen; omega) (by omega) hB ?_
  intro v' w' h2 h3 _ h5
  refine k v' w' (by simpa [ncells] using h2) h3 h5 ?_
  rcases h2.2 with ⟨_, h0⟩ | ⟨g', cap', cur', rfl, _⟩
  · omega
  · exact ⟨g', rfl⟩
theorem step_appRun {W w' : World} {ops : Array Oper} {o : Oper} {a : Act} {K : Act → World → Prop} {Q : Exit → Act → World → Prop} {E : Prop} {v' : Value} (hgd : o.guard = none) (s x : Operand)
    (ho : o.op = .call { callee := .builtin .append, args := #[s, x], argTypes := #[23, 23] }) (v vx : Value) (hs : a.eval s = v) (hx : a.eval x = vx)
    (hr : (Builtin.append_ #[23, 23] o.type #[v, vx]).run Tryd.prog W = .ok v' w') (k : K (a.put o.dst v') w') :
    if Region.wanted o (yielded ops a.tmps) = true then Oper.wp Tryd.prog o a W K Q else E := by
  have hw : Region.wanted o (yielded ops a.tmps) = true := by simp [Region.wanted, hgd]
  rw [if_pos hw]
  unfold Oper.wp execOp
  simp only [ho, resolve, invoke, builtin, Sem.run_bind, Sem.run_pure, Result.andThen_ok, List.map_toArray, List.map_cons, List.map_nil, hs, hx, hr]
  exact k
theorem run_appR (W : World) {N : Nat} (v : Value) (l : List Nat) (z : Nat) (h : W.ownsRow N 3 1 v l.length (ncells l)) (n0 : Nat) (hc : W.cell? ⟨n0, 0, none⟩ = some (.int .i64 (z : Int))) (hl : l.length ≤ 1000000000) (hB : N ≤ W.heap.size) :
    ∃ v' w', (Builtin.append_ #[23, 23] 23 #[v, .slice (some ⟨n0, 0, none⟩) 1 1]).run Tryd.prog W = .ok v' w' ∧ w'.ownsRow N 3 1 v' (l ++ [z]).length (ncells (l ++ [z])) ∧ W.grownBy w' v.ownBlock ∧ (v'.ownBlock = v.ownBlock ∨ v'.ownBlock = some W.heap.size) ∧ ∃ g, v'.ownBlock = some g := by
  obtain ⟨i0, hi, hz0, hz1, hz2⟩ := info_parts Tryd.infoIntZ
  obtain ⟨v', w', hr, h2, h3, h4, h5⟩ := run_append_own_at (P := Tryd.prog) W N 23 23 3 i0 _ 1 8 Tryd.underlying23 hi hz0 hz1 hz2 rfl (by decide) v l.length (ncells l) h ⟨n0, 0, none⟩ 1 1 [.int .i64 (z : Int)] rfl (one_news hc) (fun u hu => by simp at hu; subst hu; rfl) (by unfold maxLen; omega) (by omega) hB
  refine ⟨v', w', hr, by simpa [ncells] using h2, h3, h5, ?_⟩
  rcases h2.2 with ⟨_, h0⟩ | ⟨g', cap', cur', rfl, _⟩
  · omega
  · exact ⟨g', rfl⟩
theorem wp_still {P : Program} {c : Code} {a A : Act} {w w2 : World} {Q : Exit → Act → World → Prop} (h : c.wp P (fun e a' w' => e = .normal ∧ w' = w2 ∧ a' = A) a w) (hq : Q .normal A w2) : c.wp P Q a w :=
  wp_mono h fun e a' w' ⟨h1, h2, h3⟩ => by subst h1; subst h2; subst h3; exact hq
end Go.Proofs.YtdcbngimgpdjoaaDoor
