/- Nodes that are met from one, depth first: plain Lean. No condition. -/
import Derived.Test.YtdcbngimgpdjoaaDoorGr
namespace Go.Proofs.YtdcbngimgpdjoaaDoor
/-- Those met, with a row of what is to be looked at yet. -/
def dfs (kids : Nat → List Nat) : Nat → List Nat → List Nat → List Nat
  | 0, vis, _ => vis
  | _ + 1, vis, [] => vis
  | f + 1, vis, i :: stk => if i ∈ vis then dfs kids f vis stk else dfs kids f (vis ++ [i]) (kids i ++ stk)
def restK (kids : Nat → List Nat) : Nat → List Nat → Nat
  | 0, _ => 0
  | n + 1, vis => restK kids n vis + if n ∈ vis then 0 else (kids n).length
theorem restK_step {kids : Nat → List Nat} {vis : List Nat} {i : Nat} (h : i ∉ vis) : ∀ n, restK kids n vis = restK kids n (vis ++ [i]) + if i < n then (kids i).length else 0 := by
  intro n
  induction n with
  | zero => simp [restK]
  | succ n ih =>
    simp only [restK]
    by_cases e : n = i
    · subst e
      simp [h] at ih ⊢
      omega
    · have h1 : (n ∈ vis ++ [i]) ↔ n ∈ vis := by simp [e]
      have h2 : (i < n + 1) ↔ i < n := by omega
      simp only [h1, h2]
      omega
/-- What is left to do, at most. -/
def room (kids : Nat → List Nat) (n : Nat) (vis stk : List Nat) : Nat := stk.length + restK kids n vis
theorem room_seen {kids : Nat → List Nat} {n : Nat} {vis stk : List Nat} {i f : Nat} (h : room kids n vis (i :: stk) ≤ f + 1) : room kids n vis stk ≤ f := by
  unfold room at *; simp at h; omega
theorem room_new {kids : Nat → List Nat} {n : Nat} {vis stk : List Nat} {i f : Nat} (hi : i < n) (hv : i ∉ vis) (h : room kids n vis (i :: stk) ≤ f + 1) : room kids n (vis ++ [i]) (kids i ++ stk) ≤ f := by
  unfold room at *; rw [restK_step hv n, if_pos hi] at h; simp at h ⊢; omega
theorem room_one {kids : Nat → List Nat} {n : Nat} {vis stk : List Nat} {i f : Nat} (h : room kids n vis (i :: stk) ≤ f) : ∃ g, f = g + 1 := by
  unfold room at h; simp at h; exact ⟨f - 1, by omega⟩
/-- How a walk stands: what was met, and what is yet to be looked at. -/
structure Way (kids : Nat → List Nat) (n : Nat) (T : List Nat) (f : Nat) (vis stk : List Nat) : Prop where
  tot : dfs kids f vis stk = T
  room : room kids n vis stk ≤ f
  nd : vis.Nodup
  vlt : ∀ x ∈ vis, x < n
  slt : ∀ x ∈ stk, x < n
theorem Way.pop {kids : Nat → List Nat} {n : Nat} {T : List Nat} {f i : Nat} {vis stk : List Nat} (h : Way kids n T f vis (i :: stk)) (hv : i ∈ vis) : ∃ g, f = g + 1 ∧ Way kids n T g vis stk := by
  obtain ⟨g, rfl⟩ := room_one h.room
  have ht := h.tot
  rw [dfs, if_pos hv] at ht
  exact ⟨g, rfl, ht, room_seen h.room, h.nd, h.vlt, fun x hx => h.slt x (List.mem_cons_of_mem _ hx)⟩
theorem Way.push {kids : Nat → List Nat} {n : Nat} {T : List Nat} {f i : Nat} {vis stk : List Nat} (h : Way kids n T f vis (i :: stk)) (hv : i ∉ vis) (hk : ∀ x ∈ kids i, x < n) :
    ∃ g, f = g + 1 ∧ Way kids n T g (vis ++ [i]) (kids i ++ stk) := by
  obtain ⟨g, rfl⟩ := room_one h.room
  have ht := h.tot
  rw [dfs, if_neg hv] at ht
  have hi := h.slt i List.mem_cons_self
  refine ⟨g, rfl, ht, room_new hi hv h.room, ?_, ?_, ?_⟩
  · rw [List.nodup_append]
    exact ⟨h.nd, by simp, fun a ha b hb => by simp at hb; subst hb; rintro rfl; exact hv ha⟩
  · intro x hx
    rcases List.mem_append.1 hx with hx | hx
    · exact h.vlt x hx
    · simp at hx; subst hx; exact hi
  · intro x hx
    rcases List.mem_append.1 hx with hx | hx
    · exact hk x hx
    · exact h.slt x (List.mem_cons_of_mem _ hx)
theorem Way.fin {kids : Nat → List Nat} {n : Nat} {T : List Nat} {f : Nat} {vis : List Nat} (h : Way kids n T f vis []) : vis = T := by
  have ht := h.tot
  cases f <;> simpa [dfs] using ht
theorem nodup_short : ∀ (n : Nat) (l : List Nat), l.Nodup → (∀ x ∈ l, x < n) → l.length ≤ n := by
  intro n
  induction n with
  | zero => intro l _ hl; cases l with
    | nil => simp
    | cons a l => exact absurd (hl a List.mem_cons_self) (by omega)
  | succ n ih =>
    intro l h hl
    have h1 := ih (l.erase n) (h.erase n) fun x hx => by
      have := (List.Nodup.mem_erase_iff h).1 hx
      have := hl x this.2
      omega
    rw [List.length_erase] at h1
    split at h1 <;> omega
def kidN (G : Gr) (i : Nat) : List Nat := (nd G.nodes i).kids.map Int.toNat
def metL (G : Gr) (root : Nat) : List Nat := dfs (kidN G) 20001 [] [root]
/-- A graph that is right: what the walks ask of it. -/
structure RightG (G : Gr) : Prop where
  nodes : G.nodes.length ≤ 20000
  sum : sumK G.nodes ≤ 20000
  kids : ∀ i, i < G.nodes.length → ∀ x ∈ (nd G.nodes i).kids, 0 ≤ x ∧ x < G.nodes.length
theorem RightG.of {G : Gr} (h : rightB G = true) : RightG G := by
  simp only [rightB, Bool.and_eq_true, decide_eq_true_eq, List.all_eq_true] at h
  obtain ⟨⟨⟨⟨h1, h2⟩, h3⟩, h4⟩, h5⟩ := h
  refine ⟨h1, h4, fun i hi x hx => ?_⟩
  have := (h5 _ (nd_mem hi)).2
  unfold areB at this
  rw [List.all_eq_true] at this
  simpa using this x hx
theorem RightG.lt {G : Gr} (h : RightG G) {i : Nat} (hi : i < G.nodes.length) : ∀ x ∈ kidN G i, x < G.nodes.length := fun x hx => by
  obtain ⟨z, hz, rfl⟩ := List.mem_map.1 hx
  have := h.kids i hi z hz
  omega
theorem restK_sum (G : Gr) : ∀ n, n ≤ G.nodes.length → restK (kidN G) n [] = sumK (G.nodes.take n) := by
  intro n
  induction n with
  | zero => intro _; simp [restK, sumK]
  | succ n ih =>
    intro h
    rw [restK, ih (by omega), sumK_take (by omega)]
    simp [kidN]
theorem RightG.way {G : Gr} (h : RightG G) {root : Nat} (hr : root < G.nodes.length) : Way (kidN G) G.nodes.length (metL G root) 20001 [] [root] := by
  refine ⟨rfl, ?_, by simp, by simp, by simpa using hr⟩
  unfold room
  rw [restK_sum G _ (Nat.le_refl _), List.take_length]
  have := h.sum
  simp; omega
/-- What a walk ends with: all that it began with, each once, and with each its Kids. -/
theorem Way.all {kids : Nat → List Nat} {n : Nat} {T : List Nat} (hk : ∀ i, i < n → ∀ x ∈ kids i, x < n) : ∀ (f : Nat) (vis stk : List Nat), Way kids n T f vis stk → (∀ x ∈ vis, ∀ y ∈ kids x, y ∈ vis ∨ y ∈ stk) →
    vis <+: T ∧ T.Nodup ∧ (∀ x ∈ T, x < n) ∧ (∀ x ∈ stk, x ∈ T) ∧ (∀ x ∈ T, ∀ y ∈ kids x, y ∈ T) := by
  intro f
  induction f with
  | zero =>
    intro vis stk h hc
    have : stk = [] := by
      cases stk with
      | nil => rfl
      | cons i stk => obtain ⟨g, hg⟩ := room_one h.room; omega
    subst this
    have := h.fin
    subst this
    exact ⟨List.prefix_refl _, h.nd, h.vlt, by simp, fun x hx y hy => by simpa using hc x hx y hy⟩
  | succ f ih =>
    intro vis stk h hc
    cases stk with
    | nil =>
      have := h.fin
      subst this
      exact ⟨List.prefix_refl _, h.nd, h.vlt, by simp, fun x hx y hy => by simpa using hc x hx y hy⟩
    | cons i stk =>
      by_cases hv : i ∈ vis
      · obtain ⟨g, hg, hw⟩ := h.pop hv
        obtain rfl : f = g := by omega
        obtain ⟨h1, h2, h3, h4, h5⟩ := ih vis stk hw fun x hx y hy => by
          rcases hc x hx y hy with h | h
          · exact .inl h
          · rcases List.mem_cons.1 h with rfl | h
            · exact .inl hv
            · exact .inr h
        exact ⟨h1, h2, h3, fun x hx => by
          rcases List.mem_cons.1 hx with rfl | hx
          · exact h1.subset hv
          · exact h4 x hx, h5⟩
      · obtain ⟨g, hg, hw⟩ := h.push hv (hk i (h.slt i List.mem_cons_self))
        obtain rfl : f = g := by omega
        obtain ⟨h1, h2, h3, h4, h5⟩ := ih _ _ hw fun x hx y hy => by
          rcases List.mem_append.1 hx with hx | hx
          · rcases hc x hx y hy with h | h
            · exact .inl (List.mem_append_left _ h)
            · rcases List.mem_cons.1 h with rfl | h
              · exact .inl (by simp)
              · exact .inr (List.mem_append_right _ h)
          · simp at hx; subst hx
            exact .inr (List.mem_append_left _ hy)
        exact ⟨(List.prefix_append _ _).trans h1, h2, h3, fun x hx => by
          rcases List.mem_cons.1 hx with rfl | hx
          · exact h1.subset (by simp)
          · exact h4 x (List.mem_append_right _ hx), h5⟩
/-- Nothing is met that need not be. -/
theorem dfs_least {kids : Nat → List Nat} {S : Nat → Prop} (hS : ∀ x, S x → ∀ y ∈ kids x, S y) : ∀ (f : Nat) (vis stk : List Nat), (∀ x ∈ vis, S x) → (∀ x ∈ stk, S x) → ∀ x ∈ dfs kids f vis stk, S x := by
  intro f
  induction f with
  | zero => intro vis stk h1 _; exact h1
  | succ f ih =>
    intro vis stk h1 h2
    cases stk with
    | nil => exact h1
    | cons i stk =>
      rw [dfs]
      have hi := h2 i List.mem_cons_self
      have hs : ∀ x ∈ stk, S x := fun x hx => h2 x (List.mem_cons_of_mem _ hx)
      split
      · exact ih vis stk h1 hs
      · refine ih _ _ (fun x hx => ?_) (fun x hx => ?_)
        · rcases List.mem_append.1 hx with hx | hx
          · exact h1 x hx
          · simp at hx; subst hx; exact hi
        · rcases List.mem_append.1 hx with hx | hx
          · exact hS i hi x hx
          · exact hs x hx
/-- What is met from a node of a right graph. -/
structure MetOk (G : Gr) (root : Nat) : Prop where
  nodup : (metL G root).Nodup
  lt : ∀ x ∈ metL G root, x < G.nodes.length
  base : root ∈ metL G root
  kids : ∀ x ∈ metL G root, ∀ y ∈ kidN G x, y ∈ metL G root
  head : [root] <+: metL G root
theorem RightG.met {G : Gr} (h : RightG G) {root : Nat} (hr : root < G.nodes.length) : MetOk G root := by
  have hw := h.way hr
  obtain ⟨_, h2, h3, h4, h5⟩ := Way.all (fun i hi => h.lt hi) _ _ _ hw (by simp)
  obtain ⟨g, hg, hp⟩ := hw.push (by simp) (h.lt hr)
  obtain ⟨h1, _⟩ := Way.all (fun i hi => h.lt hi) _ _ _ hp (fun x hx y hy => by simp at hx; subst hx; exact .inr (List.mem_append_left _ hy))
  exact ⟨h2, h3, h4 root (by simp), h5, by simpa using h1⟩
theorem metL_least {G : Gr} {root : Nat} {S : Nat → Prop} (h0 : S root) (hS : ∀ x, S x → ∀ y ∈ kidN G x, S y) : ∀ x ∈ metL G root, S x :=
  dfs_least hS _ _ _ (by simp) (by simpa using h0)
/-- What is met from what is met, is met. -/
theorem metL_sub {G : Gr} (h : RightG G) {a b : Nat} (ha : a < G.nodes.length) (hb : b ∈ metL G a) : ∀ x ∈ metL G b, x ∈ metL G a := metL_least hb (h.met ha).kids
end Go.Proofs.YtdcbngimgpdjoaaDoor
/- Going round: the walk with three colours, in plain Lean. No condition. -/
namespace Go.Proofs.YtdcbngimgpdjoaaDoor
/-- y is one of x's Kids. -/
def edge (kids : Nat → List Nat) (y x : Nat) : Prop := y ∈ kids x
inductive Leads (kids : Nat → List Nat) (x : Nat) : Nat → Prop
  | refl : Leads kids x x
  | step {y z : Nat} : Leads kids x y → z ∈ kids y → Leads kids x z
theorem Leads.acc {kids : Nat → List Nat} {x y : Nat} (h : Leads kids x y) (ha : Acc (edge kids) x) : Acc (edge kids) y := by
  induction h with
  | refl => exact ha
  | step _ hz ih => exact ih.inv hz
theorem Leads.first {kids : Nat → List Nat} {x y : Nat} (h : Leads kids x y) : x = y ∨ ∃ z ∈ kids x, Leads kids z y := by
  induction h with
  | refl => exact .inl rfl
  | step h hz ih =>
    rcases ih with rfl | ⟨u, hu, hl⟩
    · exact .inr ⟨_, hz, .refl⟩
    · exact .inr ⟨u, hu, hl.step hz⟩
theorem no_round {kids : Nat → List Nat} {x : Nat} (ha : Acc (edge kids) x) : ∀ y, Leads kids x y → x ∈ kids y → False := by
  induction ha with
  | intro x _ ih =>
    intro y hl hx
    rcases hl.first with rfl | ⟨z, hz, hl'⟩
    · exact ih x hx x .refl hx
    · exact ih z hz x (hl'.step hx) hz
/-- Is an open node come to again? D are done, stk are open, each with how many of its Kids were looked at. -/
def cyc (kids : Nat → List Nat) : Nat → List Nat → List (Nat × Nat) → Bool
  | 0, _, _ => false
  | _ + 1, _, [] => false
  | f + 1, D, (i, c) :: stk =>
    match (kids i)[c]? with
    | none => cyc kids f (i :: D) stk
    | some k => if k ∈ D then cyc kids f D ((i, c + 1) :: stk) else if k = i ∨ k ∈ stk.map (·.1) then true else cyc kids f D ((k, 0) :: (i, c + 1) :: stk)
/-- Each is done behind its Kids. -/
def topo (kids : Nat → List Nat) : List Nat → Prop
  | [] => True
  | i :: D => (∀ y ∈ kids i, y ∈ D) ∧ topo kids D
theorem topo_acc {kids : Nat → List Nat} : ∀ D, topo kids D → ∀ x ∈ D, Acc (edge kids) x := by
  intro D
  induction D with
  | nil => simp
  | cons i D ih =>
    intro h x hx
    rcases List.mem_cons.1 hx with rfl | hx
    · exact ⟨_, fun y hy => ih h.2 y (h.1 y hy)⟩
    · exact ih h.2 x hx
def good (kids : Nat → List Nat) (D : List Nat) : List Nat → List (Nat × Nat) → Prop
  | _, [] => True
  | ab, e :: t => (∀ y ∈ (kids e.1).take e.2, y ∈ D ∨ y ∈ ab) ∧ good kids D (e.1 :: ab) t
theorem good.mono {kids : Nat → List Nat} {D D' : List Nat} (hD : ∀ y ∈ D, y ∈ D') : ∀ (t : List (Nat × Nat)) (ab ab' : List Nat), (∀ y ∈ ab, y ∈ D' ∨ y ∈ ab') → good kids D ab t → good kids D' ab' t := by
  intro t
  induction t with
  | nil => intro _ _ _ _; trivial
  | cons e t ih =>
    intro ab ab' h hg
    refine ⟨fun y hy => ?_, ih _ _ (fun y hy => ?_) hg.2⟩
    · rcases hg.1 y hy with h' | h'
      · exact .inl (hD y h')
      · exact h y h'
    · rcases List.mem_cons.1 hy with rfl | hy
      · exact .inr List.mem_cons_self
      · rcases h y hy with h' | h'
        · exact .inl h'
        · exact .inr (List.mem_cons_of_mem _ h')
theorem restK_congr {kids : Nat → List Nat} {A B : List Nat} (h : ∀ x, x ∈ A ↔ x ∈ B) : ∀ n, restK kids n A = restK kids n B := by
  intro n
  induction n with
  | zero => rfl
  | succ n ih => simp only [restK, ih, h n]
def openK (kids : Nat → List Nat) (stk : List (Nat × Nat)) : Nat := (stk.map fun e => (kids e.1).length - e.2 + 1).sum
def shut (D : List Nat) (stk : List (Nat × Nat)) : List Nat := D ++ stk.map (·.1)
/-- How the walk stands. -/
structure Rnd (kids : Nat → List Nat) (n root : Nat) (T : Bool) (f : Nat) (D : List Nat) (stk : List (Nat × Nat)) : Prop where
  tot : cyc kids f D stk = T
  room : openK kids stk + restK (fun x => 0 :: kids x) n (shut D stk) ≤ f
  slt : ∀ e ∈ stk, e.1 < n ∧ e.2 ≤ (kids e.1).length
  topo : topo kids D
  good : good kids D [] stk
  pair : stk.Pairwise fun a b => Leads kids b.1 a.1
  lead : ∀ e ∈ stk, Leads kids root e.1
  root : root ∈ shut D stk
theorem Rnd.one {kids : Nat → List Nat} {n root : Nat} {T : Bool} {f : Nat} {D : List Nat} {e : Nat × Nat} {stk : List (Nat × Nat)} (h : Rnd kids n root T f D (e :: stk)) : ∃ g, f = g + 1 := by
  have := h.room
  simp [openK] at this
  exact ⟨f - 1, by omega⟩
theorem Rnd.pop {kids : Nat → List Nat} {n root : Nat} {T : Bool} {f : Nat} {D : List Nat} {i c : Nat} {stk : List (Nat × Nat)} (h : Rnd kids n root T f D ((i, c) :: stk)) (hc : c = (kids i).length) :
    ∃ g, f = g + 1 ∧ Rnd kids n root T g (i :: D) stk := by
  obtain ⟨g, rfl⟩ := h.one
  have ht := h.tot
  subst hc
  simp only [cyc, List.getElem?_eq_none (Nat.le_refl _)] at ht
  have hsh : ∀ x, x ∈ shut D ((i, (kids i).length) :: stk) ↔ x ∈ shut (i :: D) stk := fun x => by simp [shut]; constructor <;> (rintro (h | h | h) <;> simp [h])
  refine ⟨g, rfl, ht, ?_, fun e he => h.slt e (List.mem_cons_of_mem _ he), ⟨fun y hy => ?_, h.topo⟩, ?_, (List.pairwise_cons.1 h.pair).2, fun e he => h.lead e (List.mem_cons_of_mem _ he), (hsh _).1 h.root⟩
  · have := h.room
    rw [restK_congr hsh] at this
    simp [openK] at this ⊢; omega
  · have := h.good.1 y (by simpa using hy)
    simpa using this
  · exact good.mono (fun y hy => List.mem_cons_of_mem _ hy) stk [i] [] (by simp) h.good.2
theorem Rnd.skip {kids : Nat → List Nat} {n root : Nat} {T : Bool} {f : Nat} {D : List Nat} {i c k : Nat} {stk : List (Nat × Nat)} (h : Rnd kids n root T f D ((i, c) :: stk)) (hc : (kids i)[c]? = some k) (hk : k ∈ D) :
    ∃ g, f = g + 1 ∧ Rnd kids n root T g D ((i, c + 1) :: stk) := by
  obtain ⟨g, rfl⟩ := h.one
  have ht := h.tot
  simp only [cyc, hc, if_pos hk] at ht
  have hlt : c < (kids i).length := (List.getElem?_eq_some_iff.1 hc).1
  have hsh : ∀ x, x ∈ shut D ((i, c) :: stk) ↔ x ∈ shut D ((i, c + 1) :: stk) := fun x => by simp [shut]
  refine ⟨g, rfl, ht, ?_, ?_, h.topo, ⟨fun y hy => ?_, h.good.2⟩, ?_, ?_, (hsh _).1 h.root⟩
  · have := h.room
    rw [restK_congr hsh] at this
    simp [openK] at this ⊢; omega
  · intro e he
    rcases List.mem_cons.1 he with rfl | he
    · exact ⟨(h.slt _ List.mem_cons_self).1, hlt⟩
    · exact h.slt e (List.mem_cons_of_mem _ he)
  · rw [List.take_add_one, hc] at hy
    rcases List.mem_append.1 hy with hy | hy
    · exact h.good.1 y hy
    · simp at hy; subst hy; exact .inl hk
  · exact List.pairwise_cons.2 ⟨fun b hb => (List.pairwise_cons.1 h.pair).1 b hb, (List.pairwise_cons.1 h.pair).2⟩
  · intro e he
    have hi := h.lead _ List.mem_cons_self
    rcases List.mem_cons.1 he with rfl | he
    · exact hi
    · exact h.lead e (List.mem_cons_of_mem _ he)
theorem Rnd.push {kids : Nat → List Nat} {n root : Nat} {T : Bool} {f : Nat} {D : List Nat} {i c k : Nat} {stk : List (Nat × Nat)} (h : Rnd kids n root T f D ((i, c) :: stk)) (hc : (kids i)[c]? = some k) (hk : k ∉ D) (hn : k < n)
    (hs : ¬ (k = i ∨ k ∈ stk.map (·.1))) : ∃ g, f = g + 1 ∧ Rnd kids n root T g D ((k, 0) :: (i, c + 1) :: stk) := by
  obtain ⟨g, rfl⟩ := h.one
  have ht := h.tot
  simp only [cyc, hc, if_neg hk, if_neg hs] at ht
  have hlt : c < (kids i).length := (List.getElem?_eq_some_iff.1 hc).1
  have hki : k ∈ kids i := List.mem_of_getElem? hc
  have hns : k ∉ shut D ((i, c) :: stk) := by
    simp only [shut, List.map_cons, List.mem_append, List.mem_cons]
    rintro (h | h | h)
    · exact hk h
    · exact hs (.inl h)
    · exact hs (.inr h)
  have hsh : ∀ x, x ∈ shut D ((i, c) :: stk) ++ [k] ↔ x ∈ shut D ((k, 0) :: (i, c + 1) :: stk) := fun x => by
    simp [shut]; constructor <;> (rintro (h | h | h | h) <;> simp [h])
  refine ⟨g, rfl, ht, ?_, ?_, h.topo, ⟨by simp, fun y hy => ?_, ?_⟩, ?_, ?_, ?_⟩
  · have := h.room
    rw [restK_step hns n, if_pos hn, restK_congr hsh] at this
    simp [openK] at this ⊢; omega
  · intro e he
    rcases List.mem_cons.1 he with rfl | he
    · exact ⟨hn, Nat.zero_le _⟩
    · rcases List.mem_cons.1 he with rfl | he
      · exact ⟨(h.slt _ List.mem_cons_self).1, hlt⟩
      · exact h.slt e (List.mem_cons_of_mem _ he)
  · simp only at hy
    rw [List.take_add_one, hc] at hy
    rcases List.mem_append.1 hy with hy | hy
    · rcases h.good.1 y hy with h' | h'
      · exact .inl h'
      · simp at h'
    · simp at hy; subst hy; exact .inr List.mem_cons_self
  · exact good.mono (fun y hy => hy) stk [i] [i, k] (fun y hy => .inr (by simp at hy; simp [hy])) h.good.2
  · have hp := List.pairwise_cons.1 h.pair
    refine List.pairwise_cons.2 ⟨fun b hb => ?_, List.pairwise_cons.2 ⟨fun b hb => hp.1 b hb, hp.2⟩⟩
    rcases List.mem_cons.1 hb with rfl | hb
    · exact Leads.refl.step hki
    · exact (hp.1 b hb).step hki
  · intro e he
    have hi := h.lead _ List.mem_cons_self
    rcases List.mem_cons.1 he with rfl | he
    · exact hi.step hki
    · rcases List.mem_cons.1 he with rfl | he
      · exact hi
      · exact h.lead e (List.mem_cons_of_mem _ he)
  · exact (hsh _).1 (List.mem_append_left _ h.root)
theorem Rnd.hit {kids : Nat → List Nat} {n root : Nat} {T : Bool} {f : Nat} {D : List Nat} {i c k : Nat} {stk : List (Nat × Nat)} (h : Rnd kids n root T f D ((i, c) :: stk)) (hc : (kids i)[c]? = some k) (hk : k ∉ D)
    (hs : k = i ∨ k ∈ stk.map (·.1)) : T = true ∧ ¬ Acc (edge kids) root := by
  obtain ⟨g, rfl⟩ := h.one
  have ht := h.tot
  simp only [cyc, hc, if_neg hk, if_pos hs] at ht
  have hki : k ∈ kids i := List.mem_of_getElem? hc
  refine ⟨ht.symm, fun ha => ?_⟩
  rcases hs with rfl | hs
  · exact no_round ((h.lead _ List.mem_cons_self).acc ha) k .refl hki
  · obtain ⟨e, he, rfl⟩ := List.mem_map.1 hs
    exact no_round ((h.lead _ (List.mem_cons_of_mem _ he)).acc ha) i ((List.pairwise_cons.1 h.pair).1 e he) hki
theorem Rnd.fin {kids : Nat → List Nat} {n root : Nat} {T : Bool} {f : Nat} {D : List Nat} (h : Rnd kids n root T f D []) : T = false ∧ Acc (edge kids) root := by
  have ht := h.tot
  refine ⟨by cases f <;> exact ht.symm, topo_acc D h.topo root ?_⟩
  simpa [shut] using h.root
theorem Rnd.spec {kids : Nat → List Nat} {n root : Nat} {T : Bool} (hk : ∀ i, i < n → ∀ x ∈ kids i, x < n) : ∀ (f : Nat) (D : List Nat) (stk : List (Nat × Nat)), Rnd kids n root T f D stk → (T = true ↔ ¬ Acc (edge kids) root) := by
  intro f
  induction f with
  | zero =>
    intro D stk h
    cases stk with
    | nil => obtain ⟨h1, h2⟩ := h.fin; simp [h1, h2]
    | cons e stk => obtain ⟨g, hg⟩ := h.one; omega
  | succ f ih =>
    intro D stk h
    cases stk with
    | nil => obtain ⟨h1, h2⟩ := h.fin; simp [h1, h2]
    | cons e stk =>
      obtain ⟨i, c⟩ := e
      cases hc : (kids i)[c]? with
      | none =>
        have h1 := List.getElem?_eq_none_iff.1 hc
        have h2 := (h.slt _ List.mem_cons_self).2
        obtain ⟨g, hg, hw⟩ := h.pop (by simp only at h2; omega)
        obtain rfl : f = g := by omega
        exact ih _ _ hw
      | some k =>
        by_cases hD : k ∈ D
        · obtain ⟨g, hg, hw⟩ := h.skip hc hD
          obtain rfl : f = g := by omega
          exact ih _ _ hw
        · by_cases hs : k = i ∨ k ∈ stk.map (·.1)
          · obtain ⟨h1, h2⟩ := h.hit hc hD hs
            simp [h1, h2]
          · obtain ⟨g, hg, hw⟩ := h.push hc hD (hk i (h.slt _ List.mem_cons_self).1 k (List.mem_of_getElem? hc)) hs
            obtain rfl : f = g := by omega
            exact ih _ _ hw
def cycL (G : Gr) (root : Nat) : Bool := cyc (kidN G) 40001 [] [(root, 0)]
theorem restK_ones (G : Gr) : ∀ n, n ≤ G.nodes.length → restK (fun x => 0 :: kidN G x) n [] = n + sumK (G.nodes.take n) := by
  intro n
  induction n with
  | zero => intro _; simp [restK, sumK]
  | succ n ih =>
    intro h
    rw [restK, ih (by omega), sumK_take (by omega)]
    simp [kidN]; omega
theorem RightG.rnd {G : Gr} (h : RightG G) {root : Nat} (hr : root < G.nodes.length) : Rnd (kidN G) G.nodes.length root (cycL G root) 40001 [] [(root, 0)] := by
  refine ⟨rfl, ?_, by simpa using hr, trivial, ⟨by simp, trivial⟩, by simp, fun e he => ?_, by simp [shut]⟩
  · have h1 := restK_step (kids := fun x => 0 :: kidN G x) (vis := []) (i := root) (by simp) G.nodes.length
    rw [if_pos hr, restK_ones G _ (Nat.le_refl _), List.take_length] at h1
    have h2 := h.sum
    have h3 := h.nodes
    simp [openK, shut] at h1 ⊢
    omega
  · simp at he; subst he; exact .refl
theorem RightG.cyc {G : Gr} (h : RightG G) {root : Nat} (hr : root < G.nodes.length) : cycL G root = true ↔ ¬ Acc (edge (kidN G)) root :=
  Rnd.spec (fun _ hi => h.lt hi) _ _ _ (h.rnd hr)
end Go.Proofs.YtdcbngimgpdjoaaDoor
/- Taking away nodes without Kids, again and again: plain Lean. No condition. -/
namespace Go.Proofs.YtdcbngimgpdjoaaDoor
/-- How many Kids of u are not taken away. -/
def leftN (kids : Nat → List Nat) (R : List Nat) (u : Nat) : Nat := ((kids u).filter fun y => decide (y ∉ R)).length
/-- Who has k among its Kids, once for each time, in the order of l. -/
def upsN (kids : Nat → List Nat) (l : List Nat) (k : Nat) : List Nat := l.flatMap fun x => List.replicate ((kids x).count k) x
theorem upsN_snoc (kids : Nat → List Nat) (l : List Nat) (x k : Nat) : upsN kids (l ++ [x]) k = upsN kids l k ++ List.replicate ((kids x).count k) x := by simp [upsN]
theorem upsN_mem {kids : Nat → List Nat} {l : List Nat} {k u : Nat} (h : u ∈ upsN kids l k) : u ∈ l := by
  obtain ⟨x, hx, hu⟩ := List.mem_flatMap.1 h
  rw [List.mem_replicate] at hu
  exact hu.2 ▸ hx
theorem upsN_count {kids : Nat → List Nat} (k : Nat) : ∀ {l : List Nat}, l.Nodup → ∀ u ∈ l, (upsN kids l k).count u = (kids u).count k := by
  intro l
  induction l with
  | nil => simp
  | cons x l ih =>
    intro hn u hu
    rw [List.nodup_cons] at hn
    simp only [upsN, List.flatMap_cons, List.count_append, List.count_replicate]
    by_cases e : x = u
    · subst e
      have h0 : (upsN kids l k).count x = 0 := List.count_eq_zero_of_not_mem fun h => hn.1 (upsN_mem h)
      unfold upsN at h0
      simp [h0]
    · have := ih hn.2 u (by rcases List.mem_cons.1 hu with rfl | h; exact absurd rfl e; exact h)
      unfold upsN at this
      simp [e, this]
theorem count_out {kids : Nat → List Nat} {R : List Nat} {k : Nat} (hk : k ∉ R) (u : Nat) : leftN kids R u = leftN kids (R ++ [k]) u + (kids u).count k := by
  unfold leftN
  induction kids u with
  | nil => simp
  | cons y l ih =>
    simp only [List.filter_cons, List.count_cons, List.mem_append, List.mem_singleton]
    by_cases e : y = k
    · subst e; simp [hk] at ih ⊢; omega
    · by_cases h : y ∈ R
      · simp [e, h] at ih ⊢; exact ih
      · simp [e, h] at ih ⊢; omega
/-- How taking away stands: R is away, free is free. -/
structure Kn (kids : Nat → List Nat) (L R free : List Nat) (lf : Nat → Nat) : Prop where
  nd : (R ++ free).Nodup
  sub : ∀ x ∈ R ++ free, x ∈ L
  left : ∀ u ∈ L, lf u = leftN kids R u
  zero : ∀ u ∈ L, (lf u = 0 ↔ u ∈ R ++ free)
  acc : ∀ x ∈ R, Acc (edge kids) x
/-- The same, while k is being taken away: j of those that have it are told. -/
structure Ki (kids : Nat → List Nat) (L R free : List Nat) (k j : Nat) (lf : Nat → Nat) : Prop where
  nd : (R ++ k :: free).Nodup
  sub : ∀ x ∈ R ++ k :: free, x ∈ L
  left : ∀ u ∈ L, lf u + ((upsN kids L k).take j).count u = leftN kids R u
  zero : ∀ u ∈ L, (lf u = 0 ↔ u ∈ R ++ k :: free)
  acc : ∀ x ∈ R ++ [k], Acc (edge kids) x
theorem Kn.pop {kids : Nat → List Nat} {L R free : List Nat} {k : Nat} {lf : Nat → Nat} (h : Kn kids L R (k :: free) lf) : Ki kids L R free k 0 lf := by
  refine ⟨h.nd, h.sub, fun u hu => by simpa using h.left u hu, h.zero, fun x hx => ?_⟩
  rcases List.mem_append.1 hx with hx | hx
  · exact h.acc x hx
  · simp at hx; subst hx
    have hL := h.sub x (by simp)
    have h0 := (h.zero x hL).2 (by simp)
    rw [h.left x hL] at h0
    refine ⟨_, fun y hy => h.acc y ?_⟩
    unfold leftN at h0
    have h1 := List.filter_eq_nil_iff.1 (List.eq_nil_of_length_eq_zero h0) y hy
    simpa using h1
theorem Ki.fin {kids : Nat → List Nat} {L R free : List Nat} {k : Nat} {lf : Nat → Nat} (hL : L.Nodup) (h : Ki kids L R free k (upsN kids L k).length lf) : Kn kids L (R ++ [k]) free lf := by
  have hk : k ∉ R := by
    have := h.nd
    rw [List.nodup_append] at this
    exact fun hin => this.2.2 k hin k (by simp) rfl
  refine ⟨by simpa using h.nd, by simpa using h.sub, fun u hu => ?_, by simpa using h.zero, h.acc⟩
  have h1 := h.left u hu
  rw [List.take_length, upsN_count k hL u hu, count_out hk u] at h1
  omega
theorem Ki.step {kids : Nat → List Nat} {L R free : List Nat} {k j : Nat} {lf : Nat → Nat} (hLn : L.Nodup) (h : Ki kids L R free k j lf) (hj : j < (upsN kids L k).length) {u : Nat} (hu : (upsN kids L k)[j] = u) :
    u ∈ L ∧ 1 ≤ lf u ∧ (lf u - 1 = 0 → Ki kids L R (u :: free) k (j + 1) (fun x => if x = u then lf u - 1 else lf x)) ∧ (lf u - 1 ≠ 0 → Ki kids L R free k (j + 1) (fun x => if x = u then lf u - 1 else lf x)) := by
  have huL : u ∈ L := upsN_mem (hu ▸ List.getElem_mem hj)
  have htk : (upsN kids L k).take (j + 1) = (upsN kids L k).take j ++ [u] := by
    rw [List.take_succ_eq_append_getElem hj, hu]
  have hc : ((upsN kids L k).take (j + 1)).count u ≤ (kids u).count k := by
    rw [← upsN_count k hLn u huL]
    exact List.Sublist.count_le _ (List.take_sublist _ _)
  have hk : k ∉ R := by
    have := h.nd
    rw [List.nodup_append] at this
    exact fun hin => this.2.2 k hin k (by simp) rfl
  have hl := h.left u huL
  have ho := count_out (kids := kids) hk u
  rw [htk, List.count_append] at hc
  simp at hc
  have h1 : 1 ≤ lf u := by omega
  have hleft : ∀ x ∈ L, (if x = u then lf u - 1 else lf x) + ((upsN kids L k).take (j + 1)).count x = leftN kids R x := fun x hx => by
    rw [htk, List.count_append]
    by_cases e : x = u
    · subst e; simp; omega
    · rw [if_neg e, List.count_eq_zero_of_not_mem (l := [u]) (by simpa using e)]
      exact h.left x hx
  have hnot : u ∉ R ++ k :: free := fun hin => by have := (h.zero u huL).2 hin; omega
  refine ⟨huL, h1, fun h0 => ⟨?_, ?_, hleft, ?_, h.acc⟩, fun h0 => ⟨h.nd, h.sub, hleft, ?_, h.acc⟩⟩
  · have := h.nd
    simp only [List.nodup_append, List.nodup_cons, List.mem_cons, List.mem_append] at this hnot ⊢
    refine ⟨this.1, ⟨?_, ?_, this.2.1.2⟩, ?_⟩
    · rintro (rfl | h2)
      · exact hnot (.inr (.inl rfl))
      · exact this.2.1.1 h2
    · exact fun h2 => hnot (.inr (.inr h2))
    · rintro a ha b (rfl | rfl | hb)
      · exact this.2.2 a ha b (.inl rfl)
      · rintro rfl; exact hnot (.inl ha)
      · exact this.2.2 a ha b (.inr hb)
  · intro x hx
    simp only [List.mem_append, List.mem_cons] at hx
    rcases hx with hx | rfl | rfl | hx
    · exact h.sub x (by simp [hx])
    · exact h.sub x (by simp)
    · exact huL
    · exact h.sub x (by simp [hx])
  · intro x hx
    by_cases e : x = u
    · subst e; simp [h0]
    · rw [if_neg e, h.zero x hx]; simp [e]
  · intro x hx
    by_cases e : x = u
    · subst e; simp only [if_true]; exact ⟨fun h2 => absurd h2 h0, fun h2 => absurd h2 hnot⟩
    · rw [if_neg e]; exact h.zero x hx
theorem nodup_sub : ∀ (R L : List Nat), R.Nodup → (∀ x ∈ R, x ∈ L) → R.length ≤ L.length := by
  intro R
  induction R with
  | nil => simp
  | cons x R ih =>
    intro L hn hs
    rw [List.nodup_cons] at hn
    have hx := hs x List.mem_cons_self
    have := ih (L.erase x) hn.2 fun y hy => (List.mem_erase_of_ne (by rintro rfl; exact hn.1 hy)).2 (hs y (List.mem_cons_of_mem _ hy))
    rw [List.length_erase_of_mem hx] at this
    have hp := List.length_pos_of_mem hx
    simp only [List.length_cons]; omega
theorem nodup_full {R L : List Nat} (hn : R.Nodup) (hs : ∀ x ∈ R, x ∈ L) (hl : L.length ≤ R.length) : ∀ x ∈ L, x ∈ R := fun x hx => by
  refine Classical.byContradiction fun hc => ?_
  have := nodup_sub R (L.erase x) hn fun y hy => (List.mem_erase_of_ne (by rintro rfl; exact hc hy)).2 (hs y hy)
  rw [List.length_erase_of_mem hx] at this
  have hp := List.length_pos_of_mem hx
  omega
/-- At the end: what is not away, goes round. -/
theorem Kn.fin {kids : Nat → List Nat} {L R : List Nat} {lf : Nat → Nat} (hL : ∀ x ∈ L, ∀ y ∈ kids x, y ∈ L) (hLn : L.Nodup) (h : Kn kids L R [] lf) : R.length ≤ L.length ∧ (R.length < L.length ↔ ∃ x ∈ L, ¬ Acc (edge kids) x) := by
  have hn : R.Nodup := by have := h.nd; simpa using this
  have hs : ∀ x ∈ R, x ∈ L := fun x hx => h.sub x (by simp [hx])
  have hle : R.length ≤ L.length := nodup_sub R L hn hs
  refine ⟨hle, fun hlt => ?_, fun ⟨x, hx, hna⟩ => ?_⟩
  · obtain ⟨x, hxL, hxR⟩ : ∃ x ∈ L, x ∉ R := Classical.byContradiction fun hc => by
      have := nodup_sub L R hLn fun x hx => Classical.byContradiction fun h => hc ⟨x, hx, h⟩
      omega
    refine ⟨x, hxL, fun ha => ?_⟩
    induction ha with
    | intro x _ ih =>
      have h0 : lf x ≠ 0 := fun e => hxR (by simpa using (h.zero x hxL).1 e)
      rw [h.left x hxL] at h0
      obtain ⟨y, hy⟩ := List.exists_mem_of_length_pos (Nat.pos_of_ne_zero h0)
      rw [List.mem_filter] at hy
      exact ih y hy.1 (hL x hxL y hy.1) (by simpa using hy.2)
  · rcases Nat.lt_or_ge R.length L.length with h1 | h1
    · exact h1
    · exact absurd (h.acc x (nodup_full hn hs h1 x hx)) hna
end Go.Proofs.YtdcbngimgpdjoaaDoor
/- What a graph unfolds to: plain Lean. No condition. -/
namespace Go.Proofs.YtdcbngimgpdjoaaDoor
/-- A value for each node out of those of its Kids: the equation holds wherever no way goes on for ever. -/
noncomputable def recA {β : Type} (kids : Nat → List Nat) (F : Nat → List β → β) (d : β) (x : Nat) : β :=
  open Classical in
  if h : Acc (edge kids) x then Acc.rec (motive := fun _ _ => β) (fun x _ ih => F x ((kids x).attach.map fun y => ih y.1 y.2)) h else d
theorem recA_eq {β : Type} (kids : Nat → List Nat) (F : Nat → List β → β) (d : β) {x : Nat} (h : Acc (edge kids) x) : recA kids F d x = F x ((kids x).map (recA kids F d)) := by
  have h1 : recA kids F d x = Acc.rec (motive := fun _ _ => β) (fun x _ ih => F x ((kids x).attach.map fun y => ih y.1 y.2)) h := by
    unfold recA; rw [dif_pos h]
  rw [h1]
  cases h with
  | intro x hx =>
    have e : (kids x).map (recA kids F d) = (kids x).attach.map fun y => recA kids F d y.1 := by
      conv => lhs; rw [← List.attach_map_subtype_val (kids x)]
      rw [List.map_map]; rfl
    rw [e]
    refine congrArg (F x) (List.map_congr_left fun y _ => ?_)
    unfold recA
    rw [dif_pos (hx y.1 y.2)]
/-- The greatest size that is told. -/
abbrev great : Nat := 4611686018427387904
/-- A sum that is at most the greatest. -/
def sumN (a b : Nat) : Nat := min (a + b) great
noncomputable def sizeA (kids : Nat → List Nat) : Nat → Nat := recA kids (fun _ l => l.foldl sumN 1) 0
noncomputable def deepA (kids : Nat → List Nat) : Nat → Nat := recA kids (fun _ l => l.foldl (fun m d => max m (d + 1)) 1) 0
theorem sizeA_eq {kids : Nat → List Nat} {x : Nat} (h : Acc (edge kids) x) : sizeA kids x = ((kids x).map (sizeA kids)).foldl sumN 1 := recA_eq kids _ _ h
theorem deepA_eq {kids : Nat → List Nat} {x : Nat} (h : Acc (edge kids) x) : deepA kids x = ((kids x).map (deepA kids)).foldl (fun m d => max m (d + 1)) 1 := recA_eq kids _ _ h
theorem sumN_le (a b : Nat) : sumN a b ≤ great := Nat.min_le_right _ _
theorem foldl_le : ∀ (l : List Nat) (a : Nat), a ≤ great → l.foldl sumN a ≤ great := by
  intro l
  induction l with
  | nil => intro a h; exact h
  | cons c l ih => intro a _; exact ih _ (sumN_le _ _)
theorem sizeA_le {kids : Nat → List Nat} {x : Nat} (h : Acc (edge kids) x) : sizeA kids x ≤ great := by rw [sizeA_eq h]; exact foldl_le _ _ (by unfold great; omega)
/-- The sums over the first j Kids. -/
noncomputable def sF (kids : Nat → List Nat) (ks : List Nat) (j : Nat) : Nat := ((ks.take j).map (sizeA kids)).foldl sumN 1
noncomputable def dF (kids : Nat → List Nat) (ks : List Nat) (j : Nat) : Nat := ((ks.take j).map (deepA kids)).foldl (fun m d => max m (d + 1)) 1
theorem sF_le (kids : Nat → List Nat) (ks : List Nat) (j : Nat) : sF kids ks j ≤ great := foldl_le _ _ (by unfold great; omega)
theorem sF_zero (kids : Nat → List Nat) (ks : List Nat) : sF kids ks 0 = 1 := rfl
theorem dF_zero (kids : Nat → List Nat) (ks : List Nat) : dF kids ks 0 = 1 := rfl
theorem sF_succ (kids : Nat → List Nat) {ks : List Nat} {j : Nat} (h : j < ks.length) : sF kids ks (j + 1) = sumN (sF kids ks j) (sizeA kids ks[j]) := by
  unfold sF
  rw [List.take_succ_eq_append_getElem h, List.map_append, List.foldl_append]; rfl
theorem dF_succ (kids : Nat → List Nat) {ks : List Nat} {j : Nat} (h : j < ks.length) : dF kids ks (j + 1) = max (dF kids ks j) (deepA kids ks[j] + 1) := by
  unfold dF
  rw [List.take_succ_eq_append_getElem h, List.map_append, List.foldl_append]; rfl
theorem sF_end {kids : Nat → List Nat} {x : Nat} (h : Acc (edge kids) x) : sF kids (kids x) (kids x).length = sizeA kids x := by
  rw [sizeA_eq h]; unfold sF; rw [List.take_length]
theorem dF_end {kids : Nat → List Nat} {x : Nat} (h : Acc (edge kids) x) : dF kids (kids x) (kids x).length = deepA kids x := by
  rw [deepA_eq h]; unfold dF; rw [List.take_length]
/-- Trees. -/
inductive Tr where
  | mk (kind : Int) (tag text : ByteArray) (kids : List Tr)
instance : Inhabited Tr := ⟨.mk 0 ⟨#[]⟩ ⟨#[]⟩ []⟩
def Tr.kids : Tr → List Tr
  | .mk _ _ _ l => l
def Tr.kind : Tr → Int
  | .mk k _ _ _ => k
def Tr.tag : Tr → ByteArray
  | .mk _ t _ _ => t
def Tr.text : Tr → ByteArray
  | .mk _ _ t _ => t
mutual
/-- A tree's nodes. -/
def Tr.count : Tr → Nat
  | .mk _ _ _ l => 1 + Tr.counts l
def Tr.counts : List Tr → Nat
  | [] => 0
  | t :: l => t.count + Tr.counts l
end
theorem Tr.counts_append (a b : List Tr) : Tr.counts (a ++ b) = Tr.counts a + Tr.counts b := by
  induction a with
  | nil => simp [Tr.counts]
  | cons x a ih => simp [Tr.counts, ih]; omega
theorem Tr.counts_eq (l : List Tr) : Tr.counts l = (l.map Tr.count).sum := by
  induction l with
  | nil => simp [Tr.counts]
  | cons x a ih => simp [Tr.counts, ih]
theorem le_sum_x : ∀ (l : List Nat) (x : Nat), x ∈ l → x ≤ l.sum := by
  intro l
  induction l with
  | nil => simp
  | cons a l ih =>
    intro x hx
    rw [List.sum_cons]
    rcases List.mem_cons.1 hx with rfl | h
    · omega
    · have := ih x h; omega
theorem Tr.count_pos (t : Tr) : 1 ≤ t.count := by cases t; simp [Tr.count]
theorem Tr.count_kid {t u : Tr} (h : u ∈ t.kids) : u.count < t.count := by
  cases t with
  | mk k a b l =>
    have h1 : u.count ≤ Tr.counts l := by
      rw [Tr.counts_eq]
      exact le_sum_x _ _ (List.mem_map.2 ⟨u, h, rfl⟩)
    simp only [Tr.count]; omega
theorem Tr.kids_len (t : Tr) : t.kids.length < t.count := by
  cases t with
  | mk k a b l =>
    have h1 : l.length ≤ Tr.counts l := by
      induction l with
      | nil => simp
      | cons x l ih => have := x.count_pos; simp only [Tr.counts, List.length_cons]; omega
    simp only [Tr.kids, Tr.count]; omega
/-- What a node unfolds to. -/
noncomputable def treeA (G : Gr) : Nat → Tr := recA (kidN G) (fun x l => .mk (nd G.nodes x).kind (nd G.nodes x).tag (nd G.nodes x).text l) default
theorem treeA_eq {G : Gr} {x : Nat} (h : Acc (edge (kidN G)) x) : treeA G x = .mk (nd G.nodes x).kind (nd G.nodes x).tag (nd G.nodes x).text ((kidN G x).map (treeA G)) := recA_eq (kidN G) _ _ h
theorem foldl_sum : ∀ (l : List Nat) (a : Nat), a ≤ great → (l.map fun c => min c great).foldl sumN a = min (a + l.sum) great := by
  intro l
  induction l with
  | nil => intro a ha; simp; omega
  | cons c l ih =>
    intro a ha
    simp only [List.map_cons, List.foldl_cons, List.sum_cons]
    rw [ih (sumN a (min c great)) (Nat.min_le_right _ _)]
    unfold sumN
    have := Nat.zero_le l.sum
    omega
/-- The size is the tree's count, if that is not too great. -/
theorem size_count {G : Gr} {x : Nat} (h : Acc (edge (kidN G)) x) : sizeA (kidN G) x = min (treeA G x).count great := by
  induction h with
  | intro x hx ih =>
    have ha : Acc (edge (kidN G)) x := ⟨_, hx⟩
    rw [sizeA_eq ha, treeA_eq ha]
    have h1 : (kidN G x).map (sizeA (kidN G)) = (((kidN G x).map (treeA G)).map Tr.count).map fun c => min c great := by
      rw [List.map_map, List.map_map]
      exact List.map_congr_left fun y hy => ih y hy
    rw [h1, foldl_sum _ 1 (by unfold great; omega)]
    simp only [Tr.count, Tr.counts_eq]
theorem foldl_deep : ∀ (l : List Nat) (a b : Nat), (∀ c ∈ l, c + 1 ≤ b) → a ≤ b → l.foldl (fun m d => max m (d + 1)) a ≤ b := by
  intro l
  induction l with
  | nil => intro a b _ h; exact h
  | cons c l ih =>
    intro a b hl ha
    rw [List.foldl_cons]
    exact ih _ b (fun x hx => hl x (List.mem_cons_of_mem _ hx)) (by have := hl c List.mem_cons_self; omega)
theorem dF_le {kids : Nat → List Nat} {ks : List Nat} {b : Nat} (h : ∀ y ∈ ks, deepA kids y + 1 ≤ b) (h1 : 1 ≤ b) (j : Nat) : dF kids ks j ≤ b := by
  refine foldl_deep _ _ _ (fun c hc => ?_) h1
  obtain ⟨y, hy, rfl⟩ := List.mem_map.1 hc
  exact h y (List.mem_of_mem_take hy)
/-- No tree is deeper than it has nodes. -/
theorem deep_count {G : Gr} {x : Nat} (h : Acc (edge (kidN G)) x) : deepA (kidN G) x ≤ (treeA G x).count := by
  induction h with
  | intro x hx ih =>
    have ha : Acc (edge (kidN G)) x := ⟨_, hx⟩
    rw [deepA_eq ha]
    refine foldl_deep _ _ _ (fun c hc => ?_) (Tr.count_pos _)
    obtain ⟨y, hy, rfl⟩ := List.mem_map.1 hc
    have h1 := ih y hy
    have h2 : (treeA G y).count < (treeA G x).count := Tr.count_kid (by rw [treeA_eq ha]; exact List.mem_map.2 ⟨y, hy, rfl⟩)
    omega
theorem foldl_max (l : List Nat) (a : Nat) : l.foldl (fun m d => max m (d + 1)) (a + 1) = l.foldl max a + 1 := by
  induction l generalizing a with
  | nil => rfl
  | cons c l ih =>
    simp only [List.foldl_cons]
    rw [← ih]
    congr 1
    omega
theorem Kn.perm {kids : Nat → List Nat} {L R f f' : List Nat} {lf : Nat → Nat} (h : Kn kids L R f lf) (hp : f.Perm f') : Kn kids L R f' lf := by
  have hq : (R ++ f).Perm (R ++ f') := hp.append_left R
  exact ⟨hq.nodup_iff.1 h.nd, fun x hx => h.sub x (hq.mem_iff.2 hx), h.left, fun u hu => (h.zero u hu).trans hq.mem_iff, h.acc⟩
theorem Ki.perm {kids : Nat → List Nat} {L R f f' : List Nat} {k j : Nat} {lf : Nat → Nat} (h : Ki kids L R f k j lf) (hp : f.Perm f') : Ki kids L R f' k j lf := by
  have hq : (R ++ k :: f).Perm (R ++ k :: f') := (hp.cons k).append_left R
  exact ⟨hq.nodup_iff.1 h.nd, fun x hx => h.sub x (hq.mem_iff.2 hx), h.left, fun u hu => (h.zero u hu).trans hq.mem_iff, h.acc⟩
/-- What is taken away has all its Kids taken away ahead of it. -/
theorem Ki.kids {kids : Nat → List Nat} {L R free : List Nat} {k : Nat} {lf : Nat → Nat} (h : Ki kids L R free k 0 lf) : ∀ y ∈ kids k, y ∈ R := fun y hy => by
  have hL := h.sub k (by simp)
  have h0 := (h.zero k hL).2 (by simp)
  have h1 := h.left k hL
  simp only [List.take_zero, List.count_nil, Nat.add_zero] at h1
  rw [h0] at h1
  unfold leftN at h1
  have h2 := List.filter_eq_nil_iff.1 (List.eq_nil_of_length_eq_zero h1.symm) y hy
  simpa using h2
/-- At the end, all that does not go round is taken away. -/
theorem Kn.all {kids : Nat → List Nat} {L R : List Nat} {lf : Nat → Nat} (hL : ∀ x ∈ L, ∀ y ∈ kids x, y ∈ L) (h : Kn kids L R [] lf) : ∀ x ∈ L, Acc (edge kids) x → x ∈ R := fun x hx ha => by
  induction ha with
  | intro x _ ih =>
    have h0 : lf x = 0 := by
      rw [h.left x hx]
      unfold leftN
      rw [List.filter_eq_nil_iff.2 (fun y hy => by simpa using ih y hy (hL x hx y hy))]
      rfl
    simpa using (h.zero x hx).1 h0
end Go.Proofs.YtdcbngimgpdjoaaDoor
/- The reference's order of a graph's nodes, each behind its Kids (marginaliaref17.below): plain Lean. Condition: no way from the root goes on for ever. -/
namespace Go.Proofs.YtdcbngimgpdjoaaDoor
/-- A way down: each behind one whose Kid it is. -/
def Path (kids : Nat → List Nat) : List Nat → Prop
  | [] => True
  | [_] => True
  | x :: y :: l => y ∈ kids x ∧ Path kids (y :: l)
/-- How 'below' stands: D is told, s waits, its last on top. -/
structure Bel (kids : Nat → List Nat) (n root : Nat) (D s : List Nat) : Prop where
  nd : D.Nodup
  order : ∀ i, (h : i < D.length) → ∀ y ∈ kids D[i], y ∈ D.take i
  lt : ∀ x, x ∈ D ∨ x ∈ s → x < n
  acc : ∀ x, x ∈ D ∨ x ∈ s → Acc (edge kids) x
  path : Path kids s
  snd : s.Nodup
  apart : ∀ x ∈ s, x ∉ D
  top : root ∈ D ∨ s.head? = some root
  empty : s = [] → root ∈ D
theorem Path.snoc {kids : Nat → List Nat} : ∀ {s : List Nat} {k y : Nat}, Path kids (s ++ [k]) → y ∈ kids k → Path kids (s ++ [k] ++ [y]) := by
  intro s
  induction s with
  | nil => intro k y _ hy; exact ⟨hy, trivial⟩
  | cons a s ih =>
    intro k y h hy
    cases s with
    | nil => exact ⟨h.1, hy, trivial⟩
    | cons b s => exact ⟨h.1, ih h.2 hy⟩
theorem Path.init {kids : Nat → List Nat} : ∀ {s : List Nat} {k : Nat}, Path kids (s ++ [k]) → Path kids s := by
  intro s
  induction s with
  | nil => intro k _; trivial
  | cons a s ih =>
    intro k h
    cases s with
    | nil => trivial
    | cons b s => exact ⟨h.1, ih h.2⟩
theorem Leads.pre {kids : Nat → List Nat} {x y z : Nat} (hy : y ∈ kids x) (h : Leads kids y z) : Leads kids x z := by
  induction h with
  | refl => exact .step .refl hy
  | step _ hz ih => exact .step ih hz
/-- All on a way lead to its end. -/
theorem Path.leads {kids : Nat → List Nat} : ∀ {s : List Nat} {k x : Nat}, Path kids (s ++ [k]) → x ∈ s ++ [k] → Leads kids x k := by
  intro s
  induction s with
  | nil => intro k x _ hx; simp at hx; subst hx; exact .refl
  | cons a s ih =>
    intro k x h hx
    have h2 : Path kids (s ++ [k]) := by
      cases s with
      | nil => trivial
      | cons b s => exact h.2
    rcases List.mem_cons.1 hx with rfl | hx
    · have h1 : ∃ b, b ∈ kids x ∧ b ∈ s ++ [k] := by
        cases s with
        | nil => exact ⟨k, h.1, by simp⟩
        | cons b s => exact ⟨b, h.1, by simp⟩
      obtain ⟨b, hb, hm⟩ := h1
      exact .pre hb (ih h2 hm)
    · exact ih h2 hx
theorem no_ring {kids : Nat → List Nat} {x : Nat} (ha : Acc (edge kids) x) : ∀ {y : Nat}, y ∈ kids x → Leads kids y x → False := by
  induction ha with
  | intro x _ ih =>
    intro y hy hl
    rcases hl.first with rfl | ⟨z, hz, h⟩
    · exact ih y hy hy .refl
    · exact ih y hy hz (.step h hy)
theorem Bel.start {kids : Nat → List Nat} {n root : Nat} (ha : Acc (edge kids) root) (hr : root < n) : Bel kids n root [] [root] :=
  ⟨.nil, fun i h => by simp at h, fun x hx => by simp at hx; omega, fun x hx => by simp at hx; subst hx; exact ha, trivial, by simp, by simp, .inr rfl, fun h => by simp at h⟩
theorem Bel.push {kids : Nat → List Nat} {n root : Nat} {D s : List Nat} {k y : Nat} (hk : ∀ i, i < n → ∀ x ∈ kids i, x < n) (h : Bel kids n root D (s ++ [k])) (hy : y ∈ kids k) (hd : y ∉ D) : Bel kids n root D (s ++ [k] ++ [y]) := by
  have hkl := h.lt k (.inr (by simp))
  have hka := h.acc k (.inr (by simp))
  have hns : y ∉ s ++ [k] := fun hm => no_ring hka hy (Path.leads h.path hm)
  refine ⟨h.nd, h.order, fun x hx => ?_, fun x hx => ?_, h.path.snoc hy, ?_, fun x hx => ?_, ?_, fun e => by simp at e⟩
  · rcases hx with hx | hx
    · exact h.lt x (.inl hx)
    · rcases List.mem_append.1 hx with hx | hx
      · exact h.lt x (.inr hx)
      · rw [List.mem_singleton.1 hx]; exact hk k hkl y hy
  · rcases hx with hx | hx
    · exact h.acc x (.inl hx)
    · rcases List.mem_append.1 hx with hx | hx
      · exact h.acc x (.inr hx)
      · rw [List.mem_singleton.1 hx]; exact hka.inv hy
  · rw [List.nodup_append]
    exact ⟨h.snd, by simp, fun a ha b hb e => hns (by rw [List.mem_singleton.1 hb] at e; exact e ▸ ha)⟩
  · rcases List.mem_append.1 hx with hx | hx
    · exact h.apart x hx
    · rw [List.mem_singleton.1 hx]; exact hd
  · rcases h.top with h1 | h1
    · exact .inl h1
    · right
      cases s with
      | nil => simpa using h1
      | cons a s => simpa using h1
theorem Bel.pop {kids : Nat → List Nat} {n root : Nat} {D s : List Nat} {k : Nat} (h : Bel kids n root D (s ++ [k])) (hk : ∀ y ∈ kids k, y ∈ D) : Bel kids n root (D ++ [k]) s := by
  have hkD := h.apart k (by simp)
  have hsn := List.nodup_append.1 h.snd
  refine ⟨?_, fun i hi y hy => ?_, fun x hx => ?_, fun x hx => ?_, h.path.init, hsn.1, fun x hx => ?_, ?_, fun e => ?_⟩
  · rw [List.nodup_append]
    exact ⟨h.nd, by simp, fun a ha b hb e => hkD (by rw [List.mem_singleton.1 hb] at e; exact e ▸ ha)⟩
  · by_cases hlt : i < D.length
    · rw [List.getElem_append_left hlt] at hy
      rw [List.take_append_of_le_length (by omega)]
      exact h.order i hlt y hy
    · have : i = D.length := by simp at hi; omega
      subst this
      rw [List.getElem_append_right (Nat.le_refl _)] at hy
      rw [List.take_left']
      · exact hk y (by simpa using hy)
      · rfl
  · exact h.lt x (by rcases hx with hx | hx; · rcases List.mem_append.1 hx with hx | hx; · exact .inl hx
                                               · right; rw [List.mem_singleton.1 hx]; simp
                     · right; simp [hx])
  · exact h.acc x (by rcases hx with hx | hx; · rcases List.mem_append.1 hx with hx | hx; · exact .inl hx
                                                · right; rw [List.mem_singleton.1 hx]; simp
                      · right; simp [hx])
  · intro hm
    rcases List.mem_append.1 hm with hm | hm
    · exact h.apart x (by simp [hx]) hm
    · exact hsn.2.2 x hx k (by simp) (List.mem_singleton.1 hm)
  · rcases h.top with h1 | h1
    · left; simp [h1]
    · cases s with
      | nil => left; simp at h1; simp [h1]
      | cons a s => right; simpa using h1
  · subst e
    rcases h.top with h1 | h1
    · simp [h1]
    · simp at h1; simp [h1]
/-- No more than the nodes are told or wait. -/
theorem Bel.room {kids : Nat → List Nat} {n root : Nat} {D s : List Nat} (h : Bel kids n root D s) : D.length + s.length ≤ n := by
  have hn : (D ++ s).Nodup := by
    rw [List.nodup_append]
    exact ⟨h.nd, h.snd, fun a ha b hb e => h.apart b hb (e ▸ ha)⟩
  have := nodup_short n _ hn (fun x hx => h.lt x (List.mem_append.1 hx))
  rwa [List.length_append] at this
end Go.Proofs.YtdcbngimgpdjoaaDoor
