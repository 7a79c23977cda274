/- A row of numbers whose head may have been taken away, in memory: a queue. No condition. -/
import Derived.Test.YtdcbngimgpdjoaaDoorKm
import Derived.ArgAppend
namespace Go.Proofs.YtdcbngimgpdjoaaDoor
open Go.RowKit Go.Shelf Go.Deep
/-- The row l lies in a block of the call's own, at whatever place in it. -/
def ownsQ (W : World) (base : Nat) (v : Value) (l : List Nat) : Prop :=
  (v = .slice none 0 0 ∧ l = []) ∨ ∃ g o cap cur, v = .slice (some ⟨g, o, none⟩) l.length cap ∧ base ≤ g ∧ W.heap[g]? = some (.cells cur 3 (0, 0)) ∧ l.length ≤ cap ∧ cap ≤ maxLen ∧ o + cap ≤ cur.size ∧ ∀ (k x : Nat), l[k]? = some x → cur[o + k]? = some (.int .i64 (x : Int))
theorem ownsQ.same {W W' : World} {base : Nat} {v : Value} {l : List Nat} (h : ownsQ W base v l) (hb : ∀ g, v.ownBlock = some g → g < W.heap.size → W'.heap[g]? = W.heap[g]?) : ownsQ W' base v l := by
  rcases h with h | ⟨g, o, cap, cur, rfl, h1, h2, h3⟩
  · exact .inl h
  · exact .inr ⟨g, o, cap, cur, rfl, h1, (hb g rfl (Array.getElem?_eq_some_iff.1 h2).1).trans h2, h3⟩
theorem ownsQ.place {W : World} {base : Nat} {v : Value} {l : List Nat} (h : ownsQ W base v l) {b : Nat} (hb : v.ownBlock = some b) : base ≤ b ∧ b < W.heap.size ∧ ∃ cur, W.heap[b]? = some (.cells cur 3 (0, 0)) := by
  rcases h with ⟨rfl, _⟩ | ⟨g, o, cap, cur, rfl, h1, h2, h3⟩
  · cases hb
  · cases hb; exact ⟨h1, (Array.getElem?_eq_some_iff.1 h2).1, cur, h2⟩
theorem ownsQ.shape {W : World} {base : Nat} {v : Value} {l : List Nat} (h : ownsQ W base v l) : ∃ A c, v = .slice A l.length c ∧ l.length ≤ c := by
  rcases h with ⟨rfl, rfl⟩ | ⟨g, o, cap, cur, rfl, _, _, h3, _⟩
  · exact ⟨none, 0, rfl, Nat.le_refl _⟩
  · exact ⟨_, _, rfl, h3⟩
/-- The first, and what is left. -/
theorem ownsQ.pop {W : World} {base i c : Nat} {A : Option Addr} {l : List Nat} (h : ownsQ W base (.slice A (i :: l).length c) (i :: l)) :
    ∃ g o, A = some ⟨g, o, none⟩ ∧ W.cell? ⟨g, o, none⟩ = some (.int .i64 (i : Int)) ∧ 1 ≤ c ∧ c ≤ maxLen ∧ l.length + 1 ≤ c ∧ ownsQ W base (.slice (if c = 1 then some ⟨g, o, none⟩ else some ⟨g, o + 1, none⟩) l.length (c - 1)) l := by
  rcases h with ⟨h0, _⟩ | ⟨g, o, cap, cur, hv, h1, h2, h3, h4, h5, h6⟩
  · cases h0
  · cases hv
    simp only [List.length_cons] at h3
    refine ⟨g, o, rfl, ?_, by omega, h4, h3, ?_⟩
    · have := h6 0 i rfl
      rw [Lib.cell_of_heap h2]; simpa using this
    · by_cases hc : c = 1
      · have hl : l = [] := List.eq_nil_of_length_eq_zero (by omega)
        subst hl
        rw [if_pos hc]
        exact .inr ⟨g, o, c - 1, cur, rfl, h1, h2, by simp, by omega, by omega, by simp⟩
      · rw [if_neg hc]
        refine .inr ⟨g, o + 1, c - 1, cur, rfl, h1, h2, by omega, by omega, by omega, fun k x hk => ?_⟩
        have := h6 (k + 1) x (by simpa using hk)
        rw [← this]
        congr 1; omega
theorem grown_setCell (W : World) (g o : Nat) (v : Value) : W.grownBy (W.setCell ⟨g, o, none⟩ v) (some g) := ⟨rfl, rfl, rfl, by simp, fun k _ hk => Below.heap_setCell W ⟨g, o, none⟩ _ k (by intro e; exact hk (by simp [e]))⟩
/-- 'append' of one number to such a row. -/
theorem run_appQ (W : World) {N : Nat} (v : Value) (l : List Nat) (z : Nat) (h : ownsQ W N v l) (n0 : Nat) (hc : W.cell? ⟨n0, 0, none⟩ = some (.int .i64 (z : Int))) (hl : l.length ≤ 1000000000) (hB : N ≤ W.heap.size) :
    ∃ v' w', (Builtin.append_ #[23, 23] 23 #[v, .slice (some ⟨n0, 0, none⟩) 1 1]).run Tryd.prog W = .ok v' w' ∧ ownsQ w' N v' (l ++ [z]) ∧ W.grownBy w' v.ownBlock ∧ (v'.ownBlock = v.ownBlock ∨ v'.ownBlock = some W.heap.size) ∧ ∃ g, v'.ownBlock = some g := by
  obtain ⟨i0, hi, hz0, hz1, hz2⟩ := info_parts Tryd.infoIntZ
  have hone : ∀ u ∈ [Value.int .i64 (z : Int)], u.oneCell' = true := fun u hu => by simp at hu; subst hu; rfl
  have newRow : ∀ (olds : List Value) (cap : Nat) (row : Option Nat), olds = ncells l → l.length + 1 ≤ cap → cap ≤ maxLen →
      ownsQ (W.drew.alloc (.cells (olds.toArray ++ [Value.int .i64 (z : Int)].toArray ++ Builtin.zeroCells (Value.int .i64 0).cells (cap - (l.length + 1))) 3)) N (.slice (some ⟨W.heap.size, 0, none⟩) (l.length + 1) cap) (l ++ [z]) ∧
      W.grownBy (W.drew.alloc (.cells (olds.toArray ++ [Value.int .i64 (z : Int)].toArray ++ Builtin.zeroCells (Value.int .i64 0).cells (cap - (l.length + 1))) 3)) row := by
    intro olds cap row ho h1 h2
    subst ho
    have e1 : (Value.int .i64 0).cells.size = 1 := rfl
    refine ⟨.inr ⟨W.heap.size, 0, cap, _, by simp, hB, heap_alloc_new W.drew _, by simp; omega, h2, ?_, ?_⟩, ⟨rfl, rfl, rfl, by simp, fun k hk _ => Below.heap_alloc W.drew _ k hk⟩⟩
    · simp only [Array.size_append, List.size_toArray, size_zeroCells, e1, ncells, List.length_map, List.length_cons, List.length_nil]; omega
    · intro k x hk
      have hk1 : k < (l ++ [z]).length := (List.getElem?_eq_some_iff.1 hk).1
      have e2 : (ncells l).toArray ++ [Value.int .i64 (z : Int)].toArray = (ncells (l ++ [z])).toArray := by simp [ncells]
      rw [e2, Nat.zero_add, Array.getElem?_append_left (by simpa [ncells] using hk1)]
      simp only [ncells, List.getElem?_toArray, List.getElem?_map, hk, Option.map_some]
  rcases h with ⟨rfl, rfl⟩ | ⟨g, o, cap, cur, rfl, h1, h2, h3, h4, h5, h6⟩
  · have hr := run_append_nil (P := Tryd.prog) W 23 23 3 i0 _ Tryd.underlying23 hi hz0 ⟨n0, 0, none⟩ 1 1 [.int .i64 (z : Int)] (by rw [hz1]; rfl) (one_news hc) (by omega) (by omega) (by rw [hz2]; omega)
    obtain ⟨a, b⟩ := newRow [] (grownCap W 1 0 3) none rfl (grownCap_ge W 1 0 _) (grownCap_le_maxLen W 1 0 _ (by unfold maxLen; omega))
    simp only [List.length_nil, Nat.zero_add] at a b
    simp only [Array.empty_append] at a b
    exact ⟨_, _, hr, a, b, .inr rfl, _, rfl⟩
  · by_cases hroom : l.length + 1 ≤ cap
    · have hfree : ∀ j, j < [Value.int .i64 (z : Int)].length → (W.cell? ⟨g, o + l.length * i0.size + j, none⟩).isSome = true := fun j hj => by
        simp at hj; subst hj
        rw [hz1, Lib.cell_of_heap h2, Array.getElem?_eq_getElem (by omega)]; rfl
      have hr := run_append_room_cells (P := Tryd.prog) W 23 23 3 i0 Tryd.underlying23 hi g o l.length cap ⟨n0, 0, none⟩ 1 1 [.int .i64 (z : Int)] (by rw [hz1]; rfl) (one_news hc) hone hroom hfree (fun j _ => Go.Joins.unfrozen_of_block h2 _)
      simp only [World.setCells, hz1, Nat.mul_one] at hr
      refine ⟨_, _, hr, .inr ⟨g, o, cap, _, by simp, h1, Go.Joins.block_setCell h2 _, by simpa using hroom, h4, by simpa using h5, fun k x hk => ?_⟩, grown_setCell W g _ _, .inl rfl, g, rfl⟩
      have hk1 : k < (l ++ [z]).length := (List.getElem?_eq_some_iff.1 hk).1
      rw [Array.getElem?_setIfInBounds]
      by_cases e : k = l.length
      · subst e
        simp at hk; subst hk
        rw [if_pos rfl, if_pos (by omega)]
      · rw [if_neg (by omega)]
        rw [List.length_append, List.length_singleton] at hk1
        rw [List.getElem?_append_left (by omega)] at hk
        exact h6 k x hk
    · have holds : ∀ j u, (ncells l)[j]? = some u → W.cell? ((⟨g, o, none⟩ : Addr).add j) = some u := fun j u hj => by
        rw [Addr.add_lit, Lib.cell_of_heap h2]
        simp only [ncells, List.getElem?_map, Option.map_eq_some_iff] at hj
        obtain ⟨x, hx, rfl⟩ := hj
        exact h6 j x hx
      have hr := run_append_grow (P := Tryd.prog) W 23 23 3 i0 _ Tryd.underlying23 hi hz0 ⟨g, o, none⟩ l.length cap (ncells l) (by rw [hz1]; simp [ncells]) holds ⟨n0, 0, none⟩ 1 1 [.int .i64 (z : Int)] (by rw [hz1]; rfl) (one_news hc) (by omega) (by omega) (growslice_fits (by omega) (by rw [hz2]; omega))
      obtain ⟨a, b⟩ := newRow (ncells l) (grownCap W (l.length + 1) cap 3) (Value.ownBlock (.slice (some ⟨g, o, none⟩) l.length cap)) rfl (grownCap_ge W _ _ _) (grownCap_le_maxLen W _ _ _ (by unfold maxLen; omega))
      exact ⟨_, _, hr, a, b, .inr rfl, _, rfl⟩
end Go.Proofs.YtdcbngimgpdjoaaDoor
