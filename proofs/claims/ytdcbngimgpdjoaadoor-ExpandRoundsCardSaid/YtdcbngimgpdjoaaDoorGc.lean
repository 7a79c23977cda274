/- Going round: the walk with three colours, in plain Lean. No condition. -/
import Derived.Test.YtdcbngimgpdjoaaDoorGd
namespace Go.Proofs.YtdcbngimgpdjoaaDoor
/-- y is one of x's Kids. -/
def edge (kids : Nat → List Nat) (y x : Nat) : Prop := y ∈ kids x
inductive Leads (kids : Nat → List Nat) (x : Nat) : Nat → Prop
  | refl : Leads kids x x
  | step {y z : Nat} : Leads kids x y → z ∈ kids y → Leads kids x z
theorem Leads.acc {kids : Nat → List Nat} {x y : Nat} (h : Leads kids x y) (ha : Acc (edge kids) x) : Acc (edge kids) y := by
  induction h with
  | refl => exact ha
  | step _ hz ih => exact ih.inv hz
theorem Leads.first {kids : Nat → List Nat} {x y : Nat} (h : Leads kids x y) : x = y ∨ ∃ z ∈ kids x, Leads kids z y := by
  induction h with
  | refl => exact .inl rfl
  | step h hz ih =>
    rcases ih with rfl | ⟨u, hu, hl⟩
    · exact .inr ⟨_, hz, .refl⟩
    · exact .inr ⟨u, hu, hl.step hz⟩
theorem no_round {kids : Nat → List Nat} {x : Nat} (ha : Acc (edge kids) x) : ∀ y, Leads kids x y → x ∈ kids y → False := by
  induction ha with
  | intro x _ ih =>
    intro y hl hx
    rcases hl.first with rfl | ⟨z, hz, hl'⟩
    · exact ih x hx x .refl hx
    · exact ih z hz x (hl'.step hx) hz
/-- Is an open node come to again? D are done, stk are open, each with how many of its Kids were looked at. -/
def cyc (kids : Nat → List Nat) : Nat → List Nat → List (Nat × Nat) → Bool
  | 0, _, _ => false
  | _ + 1, _, [] => false
  | f + 1, D, (i, c) :: stk =>
    match (kids i)[c]? with
    | none => cyc kids f (i :: D) stk
    | some k => if k ∈ D then cyc kids f D ((i, c + 1) :: stk) else if k = i ∨ k ∈ stk.map (·.1) then true else cyc kids f D ((k, 0) :: (i, c + 1) :: stk)
/-- Each is done behind its Kids. -/
def topo (kids : Nat → List Nat) : List Nat → Prop
  | [] => True
  | i :: D => (∀ y ∈ kids i, y ∈ D) ∧ topo kids D
theorem topo_acc {kids : Nat → List Nat} : ∀ D, topo kids D → ∀ x ∈ D, Acc (edge kids) x := by
  intro D
  induction D with
  | nil => simp
  | cons i D ih =>
    intro h x hx
    rcases List.mem_cons.1 hx with rfl | hx
    · exact ⟨_, fun y hy => ih h.2 y (h.1 y hy)⟩
    · exact ih h.2 x hx
def good (kids : Nat → List Nat) (D : List Nat) : List Nat → List (Nat × Nat) → Prop
  | _, [] => True
  | ab, e :: t => (∀ y ∈ (kids e.1).take e.2, y ∈ D ∨ y ∈ ab) ∧ good kids D (e.1 :: ab) t
theorem good.mono {kids : Nat → List Nat} {D D' : List Nat} (hD : ∀ y ∈ D, y ∈ D') : ∀ (t : List (Nat × Nat)) (ab ab' : List Nat), (∀ y ∈ ab, y ∈ D' ∨ y ∈ ab') → good kids D ab t → good kids D' ab' t := by
  intro t
  induction t with
  | nil => intro _ _ _ _; trivial
  | cons e t ih =>
    intro ab ab' h hg
    refine ⟨fun y hy => ?_, ih _ _ (fun y hy => ?_) hg.2⟩
    · rcases hg.1 y hy with h' | h'
      · exact .inl (hD y h')
      · exact h y h'
    · rcases List.mem_cons.1 hy with rfl | hy
      · exact .inr List.mem_cons_self
      · rcases h y hy with h' | h'
        · exact .inl h'
        · exact .inr (List.mem_cons_of_mem _ h')
theorem restK_congr {kids : Nat → List Nat} {A B : List Nat} (h : ∀ x, x ∈ A ↔ x ∈ B) : ∀ n, restK kids n A = restK kids n B := by
  intro n
  induction n with
  | zero => rfl
  | succ n ih => simp only [restK, ih, h n]
def openK (kids : Nat → List Nat) (stk : List (Nat × Nat)) : Nat := (stk.map fun e => (kids e.1).length - e.2 + 1).sum
def shut (D : List Nat) (stk : List (Nat × Nat)) : List Nat := D ++ stk.map (·.1)
/-- How the walk stands. -/
structure Rnd (kids : Nat → List Nat) (n root : Nat) (T : Bool) (f : Nat) (D : List Nat) (stk : List (Nat × Nat)) : Prop where
  tot : cyc kids f D stk = T
  room : openK kids stk + restK (fun x => 0 :: kids x) n (shut D stk) ≤ f
  slt : ∀ e ∈ stk, e.1 < n ∧ e.2 ≤ (kids e.1).length
  topo : topo kids D
  good : good kids D [] stk
  pair : stk.Pairwise fun a b => Leads kids b.1 a.1
  lead : ∀ e ∈ stk, Leads kids root e.1
  root : root ∈ shut D stk
theorem Rnd.one {kids : Nat → List Nat} {n root : Nat} {T : Bool} {f : Nat} {D : List Nat} {e : Nat × Nat} {stk : List (Nat × Nat)} (h : Rnd kids n root T f D (e :: stk)) : ∃ g, f = g + 1 := by
  have := h.room
  simp [openK] at this
  exact ⟨f - 1, by omega⟩
theorem Rnd.pop {kids : Nat → List Nat} {n root : Nat} {T : Bool} {f : Nat} {D : List Nat} {i c : Nat} {stk : List (Nat × Nat)} (h : Rnd kids n root T f D ((i, c) :: stk)) (hc : c = (kids i).length) :
    ∃ g, f = g + 1 ∧ Rnd kids n root T g (i :: D) stk := by
  obtain ⟨g, rfl⟩ := h.one
  have ht := h.tot
  subst hc
  simp only [cyc, List.getElem?_eq_none (Nat.le_refl _)] at ht
  have hsh : ∀ x, x ∈ shut D ((i, (kids i).length) :: stk) ↔ x ∈ shut (i :: D) stk := fun x => by simp [shut]; constructor <;> (rintro (h | h | h) <;> simp [h])
  refine ⟨g, rfl, ht, ?_, fun e he => h.slt e (List.mem_cons_of_mem _ he), ⟨fun y hy => ?_, h.topo⟩, ?_, (List.pairwise_cons.1 h.pair).2, fun e he => h.lead e (List.mem_cons_of_mem _ he), (hsh _).1 h.root⟩
  · have := h.room
    rw [restK_congr hsh] at this
    simp [openK] at this ⊢; omega
  · have := h.good.1 y (by simpa using hy)
    simpa using this
  · exact good.mono (fun y hy => List.mem_cons_of_mem _ hy) stk [i] [] (by simp) h.good.2
theorem Rnd.skip {kids : Nat → List Nat} {n root : Nat} {T : Bool} {f : Nat} {D : List Nat} {i c k : Nat} {stk : List (Nat × Nat)} (h : Rnd kids n root T f D ((i, c) :: stk)) (hc : (kids i)[c]? = some k) (hk : k ∈ D) :
    ∃ g, f = g + 1 ∧ Rnd kids n root T g D ((i, c + 1) :: stk) := by
  obtain ⟨g, rfl⟩ := h.one
  have ht := h.tot
  simp only [cyc, hc, if_pos hk] at ht
  have hlt : c < (kids i).length := (List.getElem?_eq_some_iff.1 hc).1
  have hsh : ∀ x, x ∈ shut D ((i, c) :: stk) ↔ x ∈ shut D ((i, c + 1) :: stk) := fun x => by simp [shut]
  refine ⟨g, rfl, ht, ?_, ?_, h.topo, ⟨fun y hy => ?_, h.good.2⟩, ?_, ?_, (hsh _).1 h.root⟩
  · have := h.room
    rw [restK_congr hsh] at this
    simp [openK] at this ⊢; omega
  · intro e he
    rcases List.mem_cons.1 he with rfl | he
    · exact ⟨(h.slt _ List.mem_cons_self).1, hlt⟩
    · exact h.slt e (List.mem_cons_of_mem _ he)
  · rw [List.take_add_one, hc] at hy
    rcases List.mem_append.1 hy with hy | hy
    · exact h.good.1 y hy
    · simp at hy; subst hy; exact .inl hk
  · exact List.pairwise_cons.2 ⟨fun b hb => (List.pairwise_cons.1 h.pair).1 b hb, (List.pairwise_cons.1 h.pair).2⟩
  · intro e he
    have hi := h.lead _ List.mem_cons_self
    rcases List.mem_cons.1 he with rfl | he
    · exact hi
    · exact h.lead e (List.mem_cons_of_mem _ he)
theorem Rnd.push {kids : Nat → List Nat} {n root : Nat} {T : Bool} {f : Nat} {D : List Nat} {i c k : Nat} {stk : List (Nat × Nat)} (h : Rnd kids n root T f D ((i, c) :: stk)) (hc : (kids i)[c]? = some k) (hk : k ∉ D) (hn : k < n)
    (hs : ¬ (k = i ∨ k ∈ stk.map (·.1))) : ∃ g, f = g + 1 ∧ Rnd kids n root T g D ((k, 0) :: (i, c + 1) :: stk) := by
  obtain ⟨g, rfl⟩ := h.one
  have ht := h.tot
  simp only [cyc, hc, if_neg hk, if_neg hs] at ht
  have hlt : c < (kids i).length := (List.getElem?_eq_some_iff.1 hc).1
  have hki : k ∈ kids i := List.mem_of_getElem? hc
  have hns : k ∉ shut D ((i, c) :: stk) := by
    simp only [shut, List.map_cons, List.mem_append, List.mem_cons]
    rintro (h | h | h)
    · exact hk h
    · exact hs (.inl h)
    · exact hs (.inr h)
  have hsh : ∀ x, x ∈ shut D ((i, c) :: stk) ++ [k] ↔ x ∈ shut D ((k, 0) :: (i, c + 1) :: stk) := fun x => by
    simp [shut]; constructor <;> (rintro (h | h | h | h) <;> simp [h])
  refine ⟨g, rfl, ht, ?_, ?_, h.topo, ⟨by simp, fun y hy => ?_, ?_⟩, ?_, ?_, ?_⟩
  · have := h.room
    rw [restK_step hns n, if_pos hn, restK_congr hsh] at this
    simp [openK] at this ⊢; omega
  · intro e he
    rcases List.mem_cons.1 he with rfl | he
    · exact ⟨hn, Nat.zero_le _⟩
    · rcases List.mem_cons.1 he with rfl | he
      · exact ⟨(h.slt _ List.mem_cons_self).1, hlt⟩
      · exact h.slt e (List.mem_cons_of_mem _ he)
  · simp only at hy
    rw [List.take_add_one, hc] at hy
    rcases List.mem_append.1 hy with hy | hy
    · rcases h.good.1 y hy with h' | h'
      · exact .inl h'
      · simp at h'
    · simp at hy; subst hy; exact .inr List.mem_cons_self
  · exact good.mono (fun y hy => hy) stk [i] [i, k] (fun y hy => .inr (by simp at hy; simp [hy])) h.good.2
  · have hp := List.pairwise_cons.1 h.pair
    refine List.pairwise_cons.2 ⟨fun b hb => ?_, List.pairwise_cons.2 ⟨fun b hb => hp.1 b hb, hp.2⟩⟩
    rcases List.mem_cons.1 hb with rfl | hb
    · exact Leads.refl.step hki
    · exact (hp.1 b hb).step hki
  · intro e he
    have hi := h.lead _ List.mem_cons_self
    rcases List.mem_cons.1 he with rfl | he
    · exact hi.step hki
    · rcases List.mem_cons.1 he with rfl | he
      · exact hi
      · exact h.lead e (List.mem_cons_of_mem _ he)
  · exact (hsh _).1 (List.mem_append_left _ h.root)
theorem Rnd.hit {kids : Nat → List Nat} {n root : Nat} {T : Bool} {f : Nat} {D : List Nat} {i c k : Nat} {stk : List (Nat × Nat)} (h : Rnd kids n root T f D ((i, c) :: stk)) (hc : (kids i)[c]? = some k) (hk : k ∉ D)
    (hs : k = i ∨ k ∈ stk.map (·.1)) : T = true ∧ ¬ Acc (edge kids) root := by
  obtain ⟨g, rfl⟩ := h.one
  have ht := h.tot
  simp only [cyc, hc, if_neg hk, if_pos hs] at ht
  have hki : k ∈ kids i := List.mem_of_getElem? hc
  refine ⟨ht.symm, fun ha => ?_⟩
  rcases hs with rfl | hs
  · exact no_round ((h.lead _ List.mem_cons_self).acc ha) k .refl hki
  · obtain ⟨e, he, rfl⟩ := List.mem_map.1 hs
    exact no_round ((h.lead _ (List.mem_cons_of_mem _ he)).acc ha) i ((List.pairwise_cons.1 h.pair).1 e he) hki
theorem Rnd.fin {kids : Nat → List Nat} {n root : Nat} {T : Bool} {f : Nat} {D : List Nat} (h : Rnd kids n root T f D []) : T = false ∧ Acc (edge kids) root := by
  have ht := h.tot
  refine ⟨by cases f <;> exact ht.symm, topo_acc D h.topo root ?_⟩
  simpa [shut] using h.root
theorem Rnd.spec {kids : Nat → List Nat} {n root : Nat} {T : Bool} (hk : ∀ i, i < n → ∀ x ∈ kids i, x < n) : ∀ (f : Nat) (D : List Nat) (stk : List (Nat × Nat)), Rnd kids n root T f D stk → (T = true ↔ ¬ Acc (edge kids) root) := by
  intro f
  induction f with
  | zero =>
    intro D stk h
    cases stk with
    | nil => obtain ⟨h1, h2⟩ := h.fin; simp [h1, h2]
    | cons e stk => obtain ⟨g, hg⟩ := h.one; omega
  | succ f ih =>
    intro D stk h
    cases stk with
    | nil => obtain ⟨h1, h2⟩ := h.fin; simp [h1, h2]
    | cons e stk =>
      obtain ⟨i, c⟩ := e
      cases hc : (kids i)[c]? with
      | none =>
        have h1 := List.getElem?_eq_none_iff.1 hc
        have h2 := (h.slt _ List.mem_cons_self).2
        obtain ⟨g, hg, hw⟩ := h.pop (by simp only at h2; omega)
        obtain rfl : f = g := by omega
        exact ih _ _ hw
      | some k =>
        by_cases hD : k ∈ D
        · obtain ⟨g, hg, hw⟩ := h.skip hc hD
          obtain rfl : f = g := by omega
          exact ih _ _ hw
        · by_cases hs : k = i ∨ k ∈ stk.map (·.1)
          · obtain ⟨h1, h2⟩ := h.hit hc hD hs
            simp [h1, h2]
          · obtain ⟨g, hg, hw⟩ := h.push hc hD (hk i (h.slt _ List.mem_cons_self).1 k (List.mem_of_getElem? hc)) hs
            obtain rfl : f = g := by omega
            exact ih _ _ hw
def cycL (G : Gr) (root : Nat) : Bool := cyc (kidN G) 40001 [] [(root, 0)]
theorem restK_ones (G : Gr) : ∀ n, n ≤ G.nodes.length → restK (fun x => 0 :: kidN G x) n [] = n + sumK (G.nodes.take n) := by
  intro n
  induction n with
  | zero => intro _; simp [restK, sumK]
  | succ n ih =>
    intro h
    rw [restK, ih (by omega), sumK_take (by omega)]
    simp [kidN]; omega
theorem RightG.rnd {G : Gr} (h : RightG G) {root : Nat} (hr : root < G.nodes.length) : Rnd (kidN G) G.nodes.length root (cycL G root) 40001 [] [(root, 0)] := by
  refine ⟨rfl, ?_, by simpa using hr, trivial, ⟨by simp, trivial⟩, by simp, fun e he => ?_, by simp [shut]⟩
  · have h1 := restK_step (kids := fun x => 0 :: kidN G x) (vis := []) (i := root) (by simp) G.nodes.length
    rw [if_pos hr, restK_ones G _ (Nat.le_refl _), List.take_length] at h1
    have h2 := h.sum
    have h3 := h.nodes
    simp [openK, shut] at h1 ⊢
    omega
  · simp at he; subst he; exact .refl
theorem RightG.cyc {G : Gr} (h : RightG G) {root : Nat} (hr : root < G.nodes.length) : cycL G root = true ↔ ¬ Acc (edge (kidN G)) root :=
  Rnd.spec (fun _ hi => h.lt hi) _ _ _ (h.rnd hr)
end Go.Proofs.YtdcbngimgpdjoaaDoor
