/- Nodes that are met from one, depth first: plain Lean. No condition. -/
import Derived.Test.YtdcbngimgpdjoaaDoorGr
namespace Go.Proofs.YtdcbngimgpdjoaaDoor
/-- Those met, with a row of what is to be looked at yet. -/
def dfs (kids : Nat → List Nat) : Nat → List Nat → List Nat → List Nat
  | 0, vis, _ => vis
  | _ + 1, vis, [] => vis
  | f + 1, vis, i :: stk => if i ∈ vis then dfs kids f vis stk else dfs kids f (vis ++ [i]) (kids i ++ stk)
def restK (kids : Nat → List Nat) : Nat → List Nat → Nat
  | 0, _ => 0
  | n + 1, vis => restK kids n vis + if n ∈ vis then 0 else (kids n).length
theorem restK_step {kids : Nat → List Nat} {vis : List Nat} {i : Nat} (h : i ∉ vis) : ∀ n, restK kids n vis = restK kids n (vis ++ [i]) + if i < n then (kids i).length else 0 := by
  intro n
  induction n with
  | zero => simp [restK]
  | succ n ih =>
    simp only [restK]
    by_cases e : n = i
    · subst e
      simp [h] at ih ⊢
      omega
    · have h1 : (n ∈ vis ++ [i]) ↔ n ∈ vis := by simp [e]
      have h2 : (i < n + 1) ↔ i < n := by omega
      simp only [h1, h2]
      omega
/-- What is left to do, at most. -/
def room (kids : Nat → List Nat) (n : Nat) (vis stk : List Nat) : Nat := stk.length + restK kids n vis
theorem room_seen {kids : Nat → List Nat} {n : Nat} {vis stk : List Nat} {i f : Nat} (h : room kids n vis (i :: stk) ≤ f + 1) : room kids n vis stk ≤ f := by
  unfold room at *; simp at h; omega
theorem room_new {kids : Nat → List Nat} {n : Nat} {vis stk : List Nat} {i f : Nat} (hi : i < n) (hv : i ∉ vis) (h : room kids n vis (i :: stk) ≤ f + 1) : room kids n (vis ++ [i]) (kids i ++ stk) ≤ f := by
  unfold room at *; rw [restK_step hv n, if_pos hi] at h; simp at h ⊢; omega
theorem room_one {kids : Nat → List Nat} {n : Nat} {vis stk : List Nat} {i f : Nat} (h : room kids n vis (i :: stk) ≤ f) : ∃ g, f = g + 1 := by
  unfold room at h; simp at h; exact ⟨f - 1, by omega⟩
/-- How a walk stands: what was met, and what is yet to be looked at. -/
structure Way (kids : Nat → List Nat) (n : Nat) (T : List Nat) (f : Nat) (vis stk : List Nat) : Prop where
  tot : dfs kids f vis stk = T
  room : room kids n vis stk ≤ f
  nd : vis.Nodup
  vlt : ∀ x ∈ vis, x < n
  slt : ∀ x ∈ stk, x < n
theorem Way.pop {kids : Nat → List Nat} {n : Nat} {T : List Nat} {f i : Nat} {vis stk : List Nat} (h : Way kids n T f vis (i :: stk)) (hv : i ∈ vis) : ∃ g, f = g + 1 ∧ Way kids n T g vis stk := by
  obtain ⟨g, rfl⟩ := room_one h.room
  have ht := h.tot
  rw [dfs, if_pos hv] at ht
  exact ⟨g, rfl, ht, room_seen h.room, h.nd, h.vlt, fun x hx => h.slt x (List.mem_cons_of_mem _ hx)⟩
theorem Way.push {kids : Nat → List Nat} {n : Nat} {T : List Nat} {f i : Nat} {vis stk : List Nat} (h : Way kids n T f vis (i :: stk)) (hv : i ∉ vis) (hk : ∀ x ∈ kids i, x < n) :
    ∃ g, f = g + 1 ∧ Way kids n T g (vis ++ [i]) (kids i ++ stk) := by
  obtain ⟨g, rfl⟩ := room_one h.room
  have ht := h.tot
  rw [dfs, if_neg hv] at ht
  have hi := h.slt i List.mem_cons_self
  refine ⟨g, rfl, ht, room_new hi hv h.room, ?_, ?_, ?_⟩
  · rw [List.nodup_append]
    exact ⟨h.nd, by simp, fun a ha b hb => by simp at hb; subst hb; rintro rfl; exact hv ha⟩
  · intro x hx
    rcases List.mem_append.1 hx with hx | hx
    · exact h.vlt x hx
    · simp at hx; subst hx; exact hi
  · intro x hx
    rcases List.mem_append.1 hx with hx | hx
    · exact hk x hx
    · exact h.slt x (List.mem_cons_of_mem _ hx)
theorem Way.fin {kids : Nat → List Nat} {n : Nat} {T : List Nat} {f : Nat} {vis : List Nat} (h : Way kids n T f vis []) : vis = T := by
  have ht := h.tot
  cases f <;> simpa [dfs] using ht
theorem nodup_short : ∀ (n : Nat) (l : List Nat), l.Nodup → (∀ x ∈ l, x < n) → l.length ≤ n := by
  intro n
  induction n with
  | zero => intro l _ hl; cases l with
    | nil => simp
    | cons a l => exact absurd (hl a List.mem_cons_self) (by omega)
  | succ n ih =>
    intro l h hl
    have h1 := ih (l.erase n) (h.erase n) fun x hx => by
      have := (List.Nodup.mem_erase_iff h).1 hx
      have := hl x this.2
      omega
    rw [List.length_erase] at h1
    split at h1 <;> omega
def kidN (G : Gr) (i : Nat) : List Nat := (nd G.nodes i).kids.map Int.toNat
def metL (G : Gr) (root : Nat) : List Nat := dfs (kidN G) 20001 [] [root]
/-- A graph that is right: what the walks ask of it. -/
structure RightG (G : Gr) : Prop where
  nodes : G.nodes.length ≤ 20000
  sum : sumK G.nodes ≤ 20000
  kids : ∀ i, i < G.nodes.length → ∀ x ∈ (nd G.nodes i).kids, 0 ≤ x ∧ x < G.nodes.length
theorem RightG.of {G : Gr} (h : rightB G = true) : RightG G := by
  simp only [rightB, Bool.and_eq_true, decide_eq_true_eq, List.all_eq_true] at h
  obtain ⟨⟨⟨⟨h1, h2⟩, h3⟩, h4⟩, h5⟩ := h
  refine ⟨h1, h4, fun i hi x hx => ?_⟩
  have := (h5 _ (nd_mem hi)).2
  unfold areB at this
  rw [List.all_eq_true] at this
  simpa using this x hx
theorem RightG.lt {G : Gr} (h : RightG G) {i : Nat} (hi : i < G.nodes.length) : ∀ x ∈ kidN G i, x < G.nodes.length := fun x hx => by
  obtain ⟨z, hz, rfl⟩ := List.mem_map.1 hx
  have := h.kids i hi z hz
  omega
theorem restK_sum (G : Gr) : ∀ n, n ≤ G.nodes.length → restK (kidN G) n [] = sumK (G.nodes.take n) := by
  intro n
  induction n with
  | zero => intro _; simp [restK, sumK]
  | succ n ih =>
    intro h
    rw [restK, ih (by omega), sumK_take (by omega)]
    simp [kidN]
theorem RightG.way {G : Gr} (h : RightG G) {root : Nat} (hr : root < G.nodes.length) : Way (kidN G) G.nodes.length (metL G root) 20001 [] [root] := by
  refine ⟨rfl, ?_, by simp, by simp, by simpa using hr⟩
  unfold room
  rw [restK_sum G _ (Nat.le_refl _), List.take_length]
  have := h.sum
  simp; omega
/-- What a walk ends with: all that it began with, each once, and with each its Kids. -/
theorem Way.all {kids : Nat → List Nat} {n : Nat} {T : List Nat} (hk : ∀ i, i < n → ∀ x ∈ kids i, x < n) : ∀ (f : Nat) (vis stk : List Nat), Way kids n T f vis stk → (∀ x ∈ vis, ∀ y ∈ kids x, y ∈ vis ∨ y ∈ stk) →
    vis <+: T ∧ T.Nodup ∧ (∀ x ∈ T, x < n) ∧ (∀ x ∈ stk, x ∈ T) ∧ (∀ x ∈ T, ∀ y ∈ kids x, y ∈ T) := by
  intro f
  induction f with
  | zero =>
    intro vis stk h hc
    have : stk = [] := by
      cases stk with
      | nil => rfl
      | cons i stk => obtain ⟨g, hg⟩ := room_one h.room; omega
    subst this
    have := h.fin
    subst this
    exact ⟨List.prefix_refl _, h.nd, h.vlt, by simp, fun x hx y hy => by simpa using hc x hx y hy⟩
  | succ f ih =>
    intro vis stk h hc
    cases stk with
    | nil =>
      have := h.fin
      subst this
      exact ⟨List.prefix_refl _, h.nd, h.vlt, by simp, fun x hx y hy => by simpa using hc x hx y hy⟩
    | cons i stk =>
      by_cases hv : i ∈ vis
      · obtain ⟨g, hg, hw⟩ := h.pop hv
        obtain rfl : f = g := by omega
        obtain ⟨h1, h2, h3, h4, h5⟩ := ih vis stk hw fun x hx y hy => by
          rcases hc x hx y hy with h | h
          · exact .inl h
          · rcases List.mem_cons.1 h with rfl | h
            · exact .inl hv
            · exact .inr h
        exact ⟨h1, h2, h3, fun x hx => by
          rcases List.mem_cons.1 hx with rfl | hx
          · exact h1.subset hv
          · exact h4 x hx, h5⟩
      · obtain ⟨g, hg, hw⟩ := h.push hv (hk i (h.slt i List.mem_cons_self))
        obtain rfl : f = g := by omega
        obtain ⟨h1, h2, h3, h4, h5⟩ := ih _ _ hw fun x hx y hy => by
          rcases List.mem_append.1 hx with hx | hx
          · rcases hc x hx y hy with h | h
            · exact .inl (List.mem_append_left _ h)
            · rcases List.mem_cons.1 h with rfl | h
              · exact .inl (by simp)
              · exact .inr (List.mem_append_right _ h)
          · simp at hx; subst hx
            exact .inr (List.mem_append_left _ hy)
        exact ⟨(List.prefix_append _ _).trans h1, h2, h3, fun x hx => by
          rcases List.mem_cons.1 hx with rfl | hx
          · exact h1.subset (by simp)
          · exact h4 x (List.mem_append_right _ hx), h5⟩
/-- Nothing is met that need not be. -/
theorem dfs_least {kids : Nat → List Nat} {S : Nat → Prop} (hS : ∀ x, S x → ∀ y ∈ kids x, S y) : ∀ (f : Nat) (vis stk : List Nat), (∀ x ∈ vis, S x) → (∀ x ∈ stk, S x) → ∀ x ∈ dfs kids f vis stk, S x := by
  intro f
  induction f with
  | zero => intro vis stk h1 _; exact h1
  | succ f ih =>
    intro vis stk h1 h2
    cases stk with
    | nil => exact h1
    | cons i stk =>
      rw [dfs]
      have hi := h2 i List.mem_cons_self
      have hs : ∀ x ∈ stk, S x := fun x hx => h2 x (List.mem_cons_of_mem _ hx)
      split
      · exact ih vis stk h1 hs
      · refine ih _ _ (fun x hx => ?_) (fun x hx => ?_)
        · rcases List.mem_append.1 hx with hx | hx
          · exact h1 x hx
          · simp at hx; subst hx; exact hi
        · rcases List.mem_append.1 hx with hx | hx
          · exact hS i hi x hx
          · exact hs x hx
/-- What is met from a node of a right graph. -/
structure MetOk (G : Gr) (root : Nat) : Prop where
  nodup : (metL G root).Nodup
  lt : ∀ x ∈ metL G root, x < G.nodes.length
  base : root ∈ metL G root
  kids : ∀ x ∈ metL G root, ∀ y ∈ kidN G x, y ∈ metL G root
  head : [root] <+: metL G root
theorem RightG.met {G : Gr} (h : RightG G) {root : Nat} (hr : root < G.nodes.length) : MetOk G root := by
  have hw := h.way hr
  obtain ⟨_, h2, h3, h4, h5⟩ := Way.all (fun i hi => h.lt hi) _ _ _ hw (by simp)
  obtain ⟨g, hg, hp⟩ := hw.push (by simp) (h.lt hr)
  obtain ⟨h1, _⟩ := Way.all (fun i hi => h.lt hi) _ _ _ hp (fun x hx y hy => by simp at hx; subst hx; exact .inr (List.mem_append_left _ hy))
  exact ⟨h2, h3, h4 root (by simp), h5, by simpa using h1⟩
theorem metL_least {G : Gr} {root : Nat} {S : Nat → Prop} (h0 : S root) (hS : ∀ x, S x → ∀ y ∈ kidN G x, S y) : ∀ x ∈ metL G root, S x :=
  dfs_least hS _ _ _ (by simp) (by simpa using h0)
/-- What is met from what is met, is met. -/
theorem metL_sub {G : Gr} (h : RightG G) {a b : Nat} (ha : a < G.nodes.length) (hb : b ∈ metL G a) : ∀ x ∈ metL G b, x ∈ metL G a := metL_least hb (h.met ha).kids
end Go.Proofs.YtdcbngimgpdjoaaDoor
