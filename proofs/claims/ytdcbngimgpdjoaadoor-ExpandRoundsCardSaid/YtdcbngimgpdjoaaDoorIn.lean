/- A row of nodes of the call's own, each node's Kids in a row of their own. No condition but lengths. -/
import Derived.Test.YtdcbngimgpdjoaaDoorIw
import Derived.Maps.AppendAt
namespace Go.Proofs.YtdcbngimgpdjoaaDoor
open Go.RowKit Go.Shelf Go.Deep
theorem Tryd.infoNodeI : (Tryd.prog.info? 33).map (fun i => (i.zero, i.size, i.bytes)) = some (some (.agg #[.int .i64 0, .string ⟨#[]⟩, .string ⟨#[]⟩, .slice none 0 0, .bool false]), 5, 72) := by kernel_rfl
/-- A node, where its Kids lie, and their room. -/
abbrev NdK := Nd × Option Addr × Nat
def nrow (e : NdK) : List Value := [.int .i64 e.1.kind, .string e.1.tag, .string e.1.text, .slice e.2.1 e.1.kids.length e.2.2, .bool e.1.plain]
def nrows (L : List NdK) : List Value := L.flatMap nrow
theorem nrows_snoc (L : List NdK) (e : NdK) : nrows (L ++ [e]) = nrows L ++ nrow e := by simp [nrows]
theorem nrows_get : ∀ (L : List NdK) (k j : Nat) (h : k < L.length), j < 5 → (nrows L)[k * 5 + j]? = (nrow L[k])[j]? := by
  intro L
  induction L with
  | nil => intro k j h; simp at h
  | cons a L ih =>
    intro k j h hj
    have hl : (nrow a).length = 5 := rfl
    cases k with
    | zero => rw [nrows, List.flatMap_cons, List.getElem?_append_left (by omega)]; simp
    | succ k =>
      rw [nrows, List.flatMap_cons, List.getElem?_append_right (by omega), hl, show (k + 1) * 5 + j - 5 = k * 5 + j by omega]
      exact ih k j (by simpa using h) hj
/-- A node's Kids lie in a block of the call's own, apart from the nodes' row. -/
structure KidOk (W : World) (N : Nat) (v : Value) (e : NdK) : Prop where
  ints : IntsAt W W.heap.size e.2.1 e.1.kids
  room : e.1.kids.length ≤ e.2.2
  nil : e.2.1 = none → e.2.2 = 0
  own : ∀ p, e.2.1 = some p → N ≤ p.block ∧ p.block < W.heap.size ∧ v.ownBlock ≠ some p.block
structure NdsOwn (W : World) (N : Nat) (v : Value) (L : List NdK) : Prop where
  own : W.ownsRow N 33 5 v L.length (nrows L)
  kids : ∀ e ∈ L, KidOk W N v e
theorem ints_keep {W W' : World} {N : Nat} {A : Option Addr} {l : List Int} (h : IntsAt W N A l) (hs : N ≤ W'.heap.size) (hb : ∀ p, A = some p → W'.heap[p.block]? = W.heap[p.block]?) : IntsAt W' W'.heap.size A l := fun hz => by
  obtain ⟨b, off, rfl, hlt, hc⟩ := h hz
  have h1 : W'.heap[b]? = W.heap[b]? := hb _ rfl
  exact ⟨b, off, rfl, by omega, fun k hk => (World.cell?_of_block h1).trans (hc k hk)⟩
theorem KidOk.keep {W W' : World} {N : Nat} {v : Value} {e : NdK} (h : KidOk W N v e) (hs : W.heap.size ≤ W'.heap.size) (hb : ∀ g, N ≤ g → g < W.heap.size → v.ownBlock ≠ some g → W'.heap[g]? = W.heap[g]?) : KidOk W' N v e :=
  ⟨ints_keep h.ints hs fun p hp => hb _ (h.own p hp).1 (h.own p hp).2.1 (h.own p hp).2.2, h.room, h.nil, fun p hp => ⟨(h.own p hp).1, by have := (h.own p hp).2.1; omega, (h.own p hp).2.2⟩⟩
theorem NdsOwn.empty (W : World) (N : Nat) : NdsOwn W N (.slice none 0 0) [] := ⟨⟨rfl, .inl ⟨rfl, rfl⟩⟩, fun e he => by cases he⟩
theorem NdsOwn.keep {W W' : World} {N : Nat} {v : Value} {L : List NdK} (h : NdsOwn W N v L) (hs : W.heap.size ≤ W'.heap.size) (hb : ∀ g, N ≤ g → g < W.heap.size → W'.heap[g]? = W.heap[g]?) : NdsOwn W' N v L :=
  ⟨ownsRow_same h.own fun g hg hlt => hb g (own_place h.own hg).1 hlt, fun e he => (h.kids e he).keep hs fun g h1 h2 _ => hb g h1 h2⟩
theorem NdsOwn.below {W W' : World} {N : Nat} {v : Value} {L : List NdK} (h : NdsOwn W N v L) (hb : Below W.heap.size W W') : NdsOwn W' N v L := h.keep hb.size fun g _ hg => hb.block g hg
theorem NdsOwn.shape {W : World} {N : Nat} {v : Value} {L : List NdK} (h : NdsOwn W N v L) : ∃ A c, v = .slice A L.length c := by
  rcases h.own.2 with ⟨rfl, h0⟩ | ⟨g, cap, cur, rfl, _⟩
  · exact ⟨none, 0, by rw [h0]⟩
  · exact ⟨_, cap, rfl⟩
/-- Behind 'append' of one node. -/
theorem NdsOwn.push {W w' : World} {N : Nat} {v v' : Value} {L : List NdK} {e : NdK} {o : Obj} (h : NdsOwn W N v L) (he : KidOk W N v e)
    (hg : (W.alloc o).grownBy w' v.ownBlock) (hv : w'.ownsRow N 33 5 v' (L ++ [e]).length (nrows (L ++ [e]))) {g : Nat} (hg1 : v'.ownBlock = some g) (hg2 : v.ownBlock = some g ∨ g = W.heap.size + 1) :
    NdsOwn w' N v' (L ++ [e]) ∧ W.heap.size ≤ w'.heap.size ∧ ∀ j, j < W.heap.size → v.ownBlock ≠ some j → w'.heap[j]? = W.heap[j]? := by
  have hs2 : W.heap.size ≤ w'.heap.size := Nat.le_trans (by simp) hg.size
  have hb : ∀ j, j < W.heap.size → v.ownBlock ≠ some j → w'.heap[j]? = W.heap[j]? := fun j hj hne =>
    (hg.block j (by simp; omega) (fun e => hne e.symm)).trans (Below.heap_alloc W o j hj)
  refine ⟨⟨hv, fun x hx => ?_⟩, hs2, hb⟩
  have hk : KidOk W N v x := by
    rcases List.mem_append.1 hx with hx | hx
    · exact h.kids x hx
    · simp at hx; subst hx; exact he
  have hk2 := hk.keep (W' := w') hs2 fun j _ hj hne => hb j hj hne
  refine ⟨hk2.ints, hk2.room, hk2.nil, fun p hp => ⟨(hk2.own p hp).1, (hk2.own p hp).2.1, ?_⟩⟩
  rw [hg1]
  intro e1
  injection e1 with e1
  subst e1
  rcases hg2 with e2 | e2
  · exact (hk.own p hp).2.2 e2
  · have := (hk.own p hp).2.1; omega
/-- The row as the other walks take it. -/
theorem NdsOwn.at {W : World} {N : Nat} {A : Option Addr} {c : Nat} {L : List NdK} (h : NdsOwn W N (.slice A L.length c) L) : NdsAt W W.heap.size A (L.map (·.1)) := by
  intro hz
  rw [List.length_map] at hz
  have hown := h.own
  rcases h.own.2 with ⟨_, h0⟩ | ⟨g, cap, cur, hv, hb, hg, hc, _⟩
  · omega
  · cases hv
    refine ⟨g, 0, rfl, (Array.getElem?_eq_some_iff.1 hg).1, fun k hk => ?_⟩
    rw [List.length_map] at hk
    have hcell : ∀ j, j < 5 → W.cell? ⟨g, k * 5 + j, none⟩ = (nrow L[k])[j]? := fun j hj => by
      rw [hown.cellAt (k * 5 + j) (by omega), nrows_get L k j hk hj]
    have hnd : nd (L.map (·.1)) k = L[k].1 := by simp [nd, hk]
    rw [hnd]
    have hkk := h.kids L[k] (List.getElem_mem hk)
    exact ⟨L[k].2.1, L[k].2.2, ⟨by rw [Nat.zero_add]; exact hcell 0 (by omega), by rw [Nat.zero_add]; exact hcell 1 (by omega), by rw [Nat.zero_add]; exact hcell 2 (by omega), by rw [Nat.zero_add]; exact hcell 3 (by omega), by rw [Nat.zero_add]; exact hcell 4 (by omega), hkk.ints, hkk.room, hkk.nil⟩⟩
/-- 'append' of one node to a row of the call's own. -/
theorem wpListIn_appN {F : Fence} {rm : Nat} {W : World} {ops : Array Oper} {rest : List Oper} {o : Oper} {a : Act} {Q : Exit → Act → World → Prop} (hgd : o.guard = none) (s x : Operand) (t : TypeId)
    (ho : o.op = .call { callee := .builtin .append, args := #[s, x], argTypes := #[t, t] }) (ht : Tryd.prog.underlying t = some (.slice 33)) {N : Nat} (v : Value) (L : List NdK) (e : NdK)
    (hs : a.eval s = v) (h : NdsOwn W N v L) (he : KidOk W N v e) (n0 : Nat) (hn0 : n0 = W.heap.size) (hx : a.eval x = .slice (some ⟨n0, 0, none⟩) 1 1) (hl : L.length ≤ 1000000) (hB : N ≤ W.heap.size)
    (K : ∀ v' w', NdsOwn w' N v' (L ++ [e]) → W.heap.size ≤ w'.heap.size → (∀ j, j < W.heap.size → v.ownBlock ≠ some j → w'.heap[j]? = W.heap[j]?) → (W.alloc (.cells #[.int .i64 e.1.kind, .string e.1.tag, .string e.1.text, .slice e.2.1 e.1.kids.length e.2.2, .bool e.1.plain] 33)).grownBy w' v.ownBlock → wpListIn F rm Tryd.prog ops Q rest (a.put o.dst v') w') :
    wpListIn F rm Tryd.prog ops Q (o :: rest) a (W.alloc (.cells #[.int .i64 e.1.kind, .string e.1.tag, .string e.1.text, .slice e.2.1 e.1.kids.length e.2.2, .bool e.1.plain] 33)) := by
  obtain ⟨i0, hi, hz0, hz1, hz2⟩ := info_parts Tryd.infoNodeI
  refine wpListIn_append_own_at _ hgd s x t ho N _ i0 _ 5 72 ht hi hz0 hz1 hz2 rfl (by decide) _ _ _ hs (h.own.alloc _) ⟨n0, 0, none⟩ 1 1 (nrow e) hx rfl ?_ (fun u hu => ?_) (by unfold maxLen; omega) (by omega) (by simp; omega) ?_
  · intro j u hj
    subst hn0
    match j, hj with
    | 0, hj => simp [nrow] at hj; subst hj; simp [Addr.add]
    | 1, hj => simp [nrow] at hj; subst hj; simp [Addr.add]
    | 2, hj => simp [nrow] at hj; subst hj; simp [Addr.add]
    | 3, hj => simp [nrow] at hj; subst hj; simp [Addr.add]
    | 4, hj => simp [nrow] at hj; subst hj; simp [Addr.add]
    | j + 5, hj => simp [nrow] at hj
  · simp [nrow] at hu
    rcases hu with rfl | rfl | rfl | rfl | rfl <;> rfl
  · intro v' w' h1 h2 h3 h4
    have h1' : w'.ownsRow N 33 5 v' (L ++ [e]).length (nrows (L ++ [e])) := by rw [nrows_snoc, List.length_append]; exact h1
    rcases h1.2 with ⟨_, h0⟩ | ⟨g', cap', cur', hv, _⟩
    · omega
    · have hg1 : v'.ownBlock = some g' := by rw [hv]; rfl
      have hg2 : v.ownBlock = some g' ∨ g' = W.heap.size + 1 := by
        rcases h4 with h4 | h4
        · left; rw [← h4, hg1]
        · right; rw [hg1] at h4; simpa using h4
      obtain ⟨q1, q2, q3⟩ := h.push he h2 h1' hg1 hg2
      exact K v' w' q1 q2 q3 h2
end Go.Proofs.YtdcbngimgpdjoaaDoor
