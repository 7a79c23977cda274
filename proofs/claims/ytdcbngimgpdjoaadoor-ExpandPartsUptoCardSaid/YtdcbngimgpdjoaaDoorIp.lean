/- Graphs by the order in which their nodes are met: forms, turned graphs, other texts. Plain Lean, no condition. -/
import Derived.Test.YtdcbngimgpdjoaaDoorXp
namespace Go.Proofs.YtdcbngimgpdjoaaDoor
theorem dfs_nil (kids : Nat → List Nat) (f : Nat) (vis : List Nat) : dfs kids f vis [] = vis := by cases f <;> rfl
/-- More room tells no more. -/
theorem dfs_more {kids : Nat → List Nat} {n : Nat} (hk : ∀ i, i < n → ∀ x ∈ kids i, x < n) : ∀ (f g : Nat) (vis stk : List Nat), room kids n vis stk ≤ f → f ≤ g → (∀ x ∈ stk, x < n) → dfs kids g vis stk = dfs kids f vis stk := by
  intro f
  induction f with
  | zero =>
    intro g vis stk h _ _
    cases stk with
    | nil => rw [dfs_nil, dfs_nil]
    | cons i stk => obtain ⟨_, h'⟩ := room_one h; omega
  | succ f ih =>
    intro g vis stk h hg hs
    cases stk with
    | nil => rw [dfs_nil, dfs_nil]
    | cons i stk =>
      obtain ⟨g, rfl⟩ : ∃ g', g = g' + 1 := ⟨g - 1, by omega⟩
      rw [dfs, dfs]
      have hi := hs i List.mem_cons_self
      have hs' : ∀ x ∈ stk, x < n := fun x hx => hs x (List.mem_cons_of_mem _ hx)
      split
      · exact ih g vis stk (room_seen h) (by omega) hs'
      · next hv =>
        refine ih g _ _ (room_new hi hv h) (by omega) fun x hx => ?_
        rcases List.mem_append.1 hx with hx | hx
        · exact hk i hi x hx
        · exact hs' x hx
theorem room_app {kids : Nat → List Nat} {n : Nat} {vis s t : List Nat} : room kids n vis (s ++ t) = room kids n vis s + t.length := by unfold room; simp; omega
/-- What stands behind is looked at behind. -/
theorem dfs_append {kids : Nat → List Nat} {n : Nat} (hk : ∀ i, i < n → ∀ x ∈ kids i, x < n) : ∀ (f : Nat) (vis s t : List Nat), room kids n vis (s ++ t) ≤ f → (∀ x ∈ s, x < n) → (∀ x ∈ t, x < n) →
    dfs kids f vis (s ++ t) = dfs kids f (dfs kids f vis s) t ∧ room kids n (dfs kids f vis s) t ≤ f := by
  intro f
  induction f with
  | zero =>
    intro vis s t h _ _
    rw [room_app] at h
    have : t = [] := List.eq_nil_of_length_eq_zero (by omega)
    subst this
    have : s = [] := by
      cases s with
      | nil => rfl
      | cons a s => exact absurd h (by unfold room; simp)
    subst this
    exact ⟨rfl, by simpa [dfs] using h⟩
  | succ f ih =>
    intro vis s t h hs ht
    cases s with
    | nil => exact ⟨by rw [dfs_nil, List.nil_append], by rw [dfs_nil]; exact h⟩
    | cons i s =>
      have hi := hs i List.mem_cons_self
      have hs' : ∀ x ∈ s, x < n := fun x hx => hs x (List.mem_cons_of_mem _ hx)
      rw [List.cons_append, dfs, dfs]
      have hL : ∀ (v u : List Nat), room kids n v u ≤ f → (∀ x ∈ u, x < n) → dfs kids (f + 1) v u = dfs kids f v u := fun v u h1 h2 => dfs_more hk f (f + 1) v u h1 (Nat.le_succ _) h2
      split
      · obtain ⟨h1, h2⟩ := ih vis s t (room_seen h) hs' ht
        rw [h1, hL _ t h2 ht]
        exact ⟨rfl, by omega⟩
      · next hv =>
        have hks : ∀ x ∈ kids i ++ s, x < n := fun x hx => by
          rcases List.mem_append.1 hx with hx | hx
          · exact hk i hi x hx
          · exact hs' x hx
        have := room_new (stk := s ++ t) hi hv h
        rw [← List.append_assoc] at this
        obtain ⟨h1, h2⟩ := ih (vis ++ [i]) (kids i ++ s) t this hks ht
        rw [List.append_assoc] at h1
        rw [h1, hL _ t h2 ht]
        exact ⟨rfl, by omega⟩
/-- Numbered otherwise, the same is met. -/
theorem dfs_map {kids kids' : Nat → List Nat} {S : Nat → Prop} (p : Nat → Nat) (hp : ∀ x y, S x → S y → p x = p y → x = y) (hk : ∀ x, S x → kids' (p x) = (kids x).map p) (hS : ∀ x, S x → ∀ y ∈ kids x, S y) :
    ∀ (f : Nat) (vis stk : List Nat), (∀ x ∈ vis, S x) → (∀ x ∈ stk, S x) → dfs kids' f (vis.map p) (stk.map p) = (dfs kids f vis stk).map p := by
  intro f
  induction f with
  | zero => intro vis stk _ _; rfl
  | succ f ih =>
    intro vis stk hv hs
    cases stk with
    | nil => rfl
    | cons i stk =>
      have hi := hs i List.mem_cons_self
      have hs' : ∀ x ∈ stk, S x := fun x hx => hs x (List.mem_cons_of_mem _ hx)
      have hm : (p i ∈ vis.map p) ↔ i ∈ vis := ⟨fun h => by
        obtain ⟨x, hx, he⟩ := List.mem_map.1 h
        exact hp _ _ (hv x hx) hi he ▸ hx, fun h => List.mem_map.2 ⟨i, h, rfl⟩⟩
      rw [List.map_cons, dfs, dfs]
      by_cases h : i ∈ vis
      · rw [if_pos (hm.2 h), if_pos h, ih vis stk hv hs']
      · rw [if_neg (fun h' => h (hm.1 h')), if_neg h, ← ih (vis ++ [i]) (kids i ++ stk)]
        · rw [hk i hi]; simp
        · intro x hx
          rcases List.mem_append.1 hx with hx | hx
          · exact hv x hx
          · simp at hx; subst hx; exact hi
        · intro x hx
          rcases List.mem_append.1 hx with hx | hx
          · exact hS i hi x hx
          · exact hs' x hx
/-- How many stand ahead of a number's first. -/
def posIn (l : List Nat) (x : Nat) : Nat := l.idxOf x
theorem posIn_lt {l : List Nat} {x : Nat} (h : x ∈ l) : posIn l x < l.length := List.idxOf_lt_length_of_mem h
theorem posIn_get {l : List Nat} {x : Nat} (h : posIn l x < l.length) : l[posIn l x] = x := List.getElem_idxOf h
theorem posIn_inj {l : List Nat} {x y : Nat} (hx : x ∈ l) (hy : y ∈ l) (h : posIn l x = posIn l y) : x = y := by
  have h1 := posIn_get (posIn_lt hx)
  have h2 := posIn_get (posIn_lt hy)
  rw [← h1, ← h2]
  simp only [h]
theorem posIn_at {l : List Nat} (hn : l.Nodup) {k : Nat} (h : k < l.length) : posIn l l[k] = k := by
  have h1 := posIn_lt (List.getElem_mem h)
  exact (List.getElem_inj (h₀ := h1) (h₁ := h) hn).1 (posIn_get h1)
theorem map_posIn {l : List Nat} (hn : l.Nodup) : l.map (posIn l) = List.range l.length := by
  apply List.ext_getElem (by simp)
  intro k h1 h2
  simp only [List.getElem_map, List.getElem_range]
  exact posIn_at hn (by simpa using h1)
theorem posIn_map {l : List Nat} {p : Nat → Nat} (hp : ∀ x ∈ l, ∀ y ∈ l, p x = p y → x = y) (hn : l.Nodup) {x : Nat} (h : x ∈ l) : posIn (l.map p) (p x) = posIn l x := by
  have hn' : (l.map p).Nodup := by
    rw [List.Nodup, List.pairwise_map]
    exact List.Pairwise.imp_of_mem (fun {a b} ha hb hne he => hne (hp a ha b hb he)) hn
  have h1 := posIn_lt h
  have h2 := posIn_at hn' (k := posIn l x) (by simpa using h1)
  rw [List.getElem_map, posIn_get h1] at h2
  exact h2
deriving instance DecidableEq for Nd
deriving instance DecidableEq for Gr
/-- The nodes that are met from a graph's roots, in order. -/
def rootN (G : Gr) : List Nat := G.roots.map Int.toNat
def orderL (G : Gr) : List Nat := dfs (kidN G) 40001 [] (rootN G)
def toI (G : Gr) (z : Int) : Int := (posIn (orderL G) z.toNat : Nat)
def formN (G : Gr) (e : Nd) : Nd := { e with kids := e.kids.map (toI G) }
/-- The nodes in the order in which they are met, each of its new number. -/
def formG (G : Gr) : Gr := ⟨(orderL G).map fun i => formN G (nd G.nodes i), G.roots.map (toI G)⟩
/-- What is known of a graph that is right, and of its roots. -/
structure RightR (G : Gr) : Prop extends RightG G where
  many : G.roots.length ≤ 20000
  roots : ∀ x ∈ G.roots, 0 ≤ x ∧ x < G.nodes.length
  nodes' : ∀ e ∈ G.nodes, nodeB e = true
theorem RightR.of {G : Gr} (h : rightB G = true) : RightR G := by
  refine ⟨.of h, ?_, ?_, ?_⟩ <;> simp only [rightB, Bool.and_eq_true, decide_eq_true_eq, List.all_eq_true] at h
  · exact h.1.1.1.2
  · intro x hx
    have := h.1.1.2
    unfold areB at this
    rw [List.all_eq_true] at this
    simpa using this x hx
  · exact fun e he => (h.2 e he).1
theorem RightR.to {G : Gr} (h : RightR G) : rightB G = true := by
  simp only [rightB, Bool.and_eq_true, decide_eq_true_eq, List.all_eq_true]
  refine ⟨⟨⟨⟨h.nodes, h.many⟩, ?_⟩, h.sum⟩, fun e he => ⟨h.nodes' e he, ?_⟩⟩
  · unfold areB; rw [List.all_eq_true]; intro x hx; simpa using h.roots x hx
  · obtain ⟨i, hi, rfl⟩ := List.mem_iff_getElem.1 he
    unfold areB; rw [List.all_eq_true]; intro x hx
    have := h.kids i hi x (by rw [nd_eq hi]; exact hx)
    simpa using this
theorem RightR.rlt {G : Gr} (h : RightR G) : ∀ x ∈ rootN G, x < G.nodes.length := fun x hx => by
  obtain ⟨z, hz, rfl⟩ := List.mem_map.1 hx
  have := h.roots z hz
  omega
theorem RightR.way {G : Gr} (h : RightR G) : Way (kidN G) G.nodes.length (orderL G) 40001 [] (rootN G) := by
  refine ⟨rfl, ?_, by simp, by simp, h.rlt⟩
  unfold room
  rw [restK_sum G _ (Nat.le_refl _), List.take_length]
  have := h.sum
  have := h.many
  simp [rootN]; omega
/-- What is known of the order. -/
structure OrdOk (G : Gr) : Prop where
  nodup : (orderL G).Nodup
  lt : ∀ x ∈ orderL G, x < G.nodes.length
  base : ∀ x ∈ rootN G, x ∈ orderL G
  kids : ∀ x ∈ orderL G, ∀ y ∈ kidN G x, y ∈ orderL G
theorem RightR.ord {G : Gr} (h : RightR G) : OrdOk G := by
  obtain ⟨_, h2, h3, h4, h5⟩ := Way.all (fun i hi => h.lt hi) _ _ _ h.way (by simp)
  exact ⟨h2, h3, h4, h5⟩
theorem formG_nd {G : Gr} {x : Nat} (h : x ∈ orderL G) : nd (formG G).nodes (posIn (orderL G) x) = formN G (nd G.nodes x) := by
  have h1 := posIn_lt h
  rw [nd_eq (by simpa [formG] using h1)]
  simp only [formG, List.getElem_map, posIn_get h1]
theorem formG_kids {G : Gr} {x : Nat} (h : x ∈ orderL G) : kidN (formG G) (posIn (orderL G) x) = (kidN G x).map (posIn (orderL G)) := by
  unfold kidN
  rw [formG_nd h]
  simp [formN, toI]
theorem formG_roots (G : Gr) : rootN (formG G) = (rootN G).map (posIn (orderL G)) := by simp [rootN, formG, toI]
theorem formG_order {G : Gr} (h : RightR G) : orderL (formG G) = List.range (orderL G).length := by
  have ho := h.ord
  have hm := dfs_map (kids := kidN G) (kids' := kidN (formG G)) (S := fun x => x ∈ orderL G) (posIn (orderL G)) (fun x y hx hy => posIn_inj hx hy) (fun x hx => formG_kids hx) ho.kids 40001 [] (rootN G) (by simp) ho.base
  unfold orderL
  rw [formG_roots]
  exact hm.trans (map_posIn ho.nodup)
theorem nd_of_mem {G : Gr} {e : Nd} (h : e ∈ (formG G).nodes) : ∃ x ∈ orderL G, e = formN G (nd G.nodes x) := by
  obtain ⟨x, hx, rfl⟩ := List.mem_map.1 h
  exact ⟨x, hx, rfl⟩
theorem nodeB_kids {e : Nd} {k : List Int} (h : k.length = e.kids.length) : nodeB { e with kids := k } = nodeB e := by
  have h0 : (k.isEmpty = e.kids.isEmpty) := by rw [Bool.eq_iff_iff, List.isEmpty_iff_length_eq_zero, List.isEmpty_iff_length_eq_zero, h]
  simp only [nodeB, kindB, h]
theorem sum_order {G : Gr} {l : List Nat} (hn : l.Nodup) (hl : ∀ x ∈ l, x < G.nodes.length) : (l.map fun i => (nd G.nodes i).kids.length).sum ≤ sumK G.nodes := by
  have key : ∀ (l pre : List Nat), (pre ++ l).Nodup → (∀ x ∈ l, x < G.nodes.length) → restK (kidN G) G.nodes.length pre = restK (kidN G) G.nodes.length (pre ++ l) + (l.map fun i => (nd G.nodes i).kids.length).sum := by
    intro l
    induction l with
    | nil => simp
    | cons i l ih =>
      intro pre hn hl
      have hi : i ∉ pre := by
        rw [List.nodup_append] at hn
        exact fun hp => hn.2.2 i hp i List.mem_cons_self rfl
      have h1 := ih (pre ++ [i]) (by simpa using hn) fun x hx => hl x (List.mem_cons_of_mem _ hx)
      rw [restK_step hi G.nodes.length, if_pos (hl i List.mem_cons_self), h1]
      simp [kidN]; omega
  have := key l [] (by simpa using hn) hl
  rw [restK_sum G _ (Nat.le_refl _), List.take_length] at this
  omega
theorem formG_right {G : Gr} (h : RightR G) : RightR (formG G) := by
  have ho := h.ord
  have hl : (orderL G).length ≤ G.nodes.length := by
    have := nodup_short _ _ ho.nodup ho.lt
    exact this
  have hn := h.nodes
  refine ⟨⟨by simp [formG]; omega, ?_, ?_⟩, by simpa [formG] using h.many, ?_, ?_⟩
  · have := sum_order ho.nodup ho.lt
    have h2 := h.sum
    have h3 : sumK (formG G).nodes = ((orderL G).map fun i => (nd G.nodes i).kids.length).sum := by
      simp [sumK, formG, formN, Function.comp_def]
    omega
  · intro i hi x hx
    have hi' : i < (orderL G).length := by simpa [formG] using hi
    rw [nd_eq hi] at hx
    simp only [formG, List.getElem_map, formN] at hx
    obtain ⟨z, hz, rfl⟩ := List.mem_map.1 hx
    have := posIn_lt (ho.kids _ (List.getElem_mem hi') z.toNat (List.mem_map.2 ⟨z, hz, rfl⟩))
    simp only [toI, formG, List.length_map]
    omega
  · intro x hx
    obtain ⟨z, hz, rfl⟩ := List.mem_map.1 (show x ∈ G.roots.map (toI G) from hx)
    have := posIn_lt (ho.base z.toNat (List.mem_map.2 ⟨z, hz, rfl⟩))
    simp only [toI, formG, List.length_map]
    omega
  · intro e he
    obtain ⟨x, hx, rfl⟩ := nd_of_mem he
    unfold formN
    rw [nodeB_kids (by simp)]
    exact h.nodes' _ (nd_mem (ho.lt x hx))
theorem posIn_range {m k : Nat} (h : k < m) : posIn (List.range m) k = k := by
  have := posIn_at List.nodup_range (l := List.range m) (k := k) (by simpa using h)
  simpa using this
/-- A form is its own form. -/
theorem formG_form {G : Gr} (h : RightR G) : formG (formG G) = formG G := by
  have ho := h.ord
  have hr := formG_right h
  have hto : ∀ z : Int, 0 ≤ z → z < (formG G).nodes.length → toI (formG G) z = z := fun z h0 h1 => by
    have : z.toNat < (orderL G).length := by have := h1; simp [formG] at this; omega
    rw [toI, formG_order h, posIn_range this]; omega
  have hid : ∀ l : List Int, (∀ z ∈ l, 0 ≤ z ∧ z < (formG G).nodes.length) → l.map (toI (formG G)) = l := fun l hl => by
    conv => rhs; rw [← List.map_id l]
    exact List.map_congr_left fun z hz => hto z (hl z hz).1 (hl z hz).2
  have e1 : (formG (formG G)).nodes = (formG G).nodes := by
    show (orderL (formG G)).map _ = _
    rw [formG_order h]
    apply List.ext_getElem (by simp [formG])
    intro i h1 h2
    simp only [List.getElem_map, List.getElem_range, formN]
    have hi : i < (formG G).nodes.length := h2
    rw [hid _ (hr.kids i hi), nd_eq hi]
  have e2 : (formG (formG G)).roots = (formG G).roots := hid _ hr.roots
  cases hg : formG (formG G)
  cases hg' : formG G
  rw [hg] at e1 e2
  rw [hg'] at e1 e2
  exact congr (congrArg _ e1) e2
/-- A graph without 'plain'. -/
def bareN (e : Nd) : Nd := { e with plain := false }
def bareG (G : Gr) : Gr := ⟨G.nodes.map bareN, G.roots⟩
def sameB (G H : Gr) : Bool := rightB G && rightB H && decide (bareG (formG G) = bareG (formG H))
def formB (G : Gr) : Gr := if rightB G then formG G else ⟨[], []⟩
/-- A node's number, 'by' further round. -/
def turnI (n b : Nat) (z : Int) : Int := ((z.toNat + b) % n : Nat)
def backN (n b j : Nat) : Nat := (j + (n - b)) % n
def turnE (n b : Nat) (e : Nd) : Nd := { e with kids := e.kids.map (turnI n b) }
def turnG (G : Gr) (b : Nat) : Gr := ⟨(List.range G.nodes.length).map fun j => turnE G.nodes.length b (nd G.nodes (backN G.nodes.length b j)), G.roots.map (turnI G.nodes.length b)⟩
theorem back_lt {n b j : Nat} (h : 0 < n) : backN n b j < n := Nat.mod_lt _ h
theorem back_turn {n b x : Nat} (hb : b < n) (hx : x < n) : backN n b ((x + b) % n) = x := by
  unfold backN
  by_cases h : x + b < n
  · rw [Nat.mod_eq_of_lt h, show x + b + (n - b) = x + n by omega, Nat.add_mod_right, Nat.mod_eq_of_lt hx]
  · have h2 : (x + b) % n = x + b - n := by rw [Nat.mod_eq_sub_mod (by omega), Nat.mod_eq_of_lt (by omega)]
    rw [h2, show x + b - n + (n - b) = x by omega, Nat.mod_eq_of_lt hx]
theorem turn_back {n b j : Nat} (hb : b < n) (hj : j < n) : (backN n b j + b) % n = j := by
  unfold backN
  by_cases h : j < b
  · rw [Nat.mod_eq_of_lt (by omega : j + (n - b) < n), show j + (n - b) + b = j + n by omega, Nat.add_mod_right, Nat.mod_eq_of_lt hj]
  · have h2 : (j + (n - b)) % n = j + (n - b) - n := by rw [Nat.mod_eq_sub_mod (by omega), Nat.mod_eq_of_lt (by omega)]
    rw [h2, show j + (n - b) - n + b = j by omega, Nat.mod_eq_of_lt hj]
theorem turn_inj {n b x y : Nat} (hb : b < n) (hx : x < n) (hy : y < n) (h : (x + b) % n = (y + b) % n) : x = y := by
  rw [← back_turn hb hx, ← back_turn hb hy, h]
theorem turnG_nd {G : Gr} {b x : Nat} (hb : b < G.nodes.length) (hx : x < G.nodes.length) : nd (turnG G b).nodes ((x + b) % G.nodes.length) = turnE G.nodes.length b (nd G.nodes x) := by
  have h1 : (x + b) % G.nodes.length < G.nodes.length := Nat.mod_lt _ (by omega)
  rw [nd_eq (by simpa [turnG] using h1)]
  simp only [turnG, List.getElem_map, List.getElem_range, back_turn hb hx]
theorem turnG_len (G : Gr) (b : Nat) : (turnG G b).nodes.length = G.nodes.length := by simp [turnG]
theorem turnI_nat (n b : Nat) (z : Int) : (turnI n b z).toNat = (z.toNat + b) % n := Int.toNat_natCast _
theorem turnG_kids {G : Gr} {b x : Nat} (hb : b < G.nodes.length) (hx : x < G.nodes.length) : kidN (turnG G b) ((x + b) % G.nodes.length) = (kidN G x).map fun y => (y + b) % G.nodes.length := by
  unfold kidN
  rw [turnG_nd hb hx]
  simp [turnE, turnI_nat]
theorem turnG_roots (G : Gr) (b : Nat) : rootN (turnG G b) = (rootN G).map fun y => (y + b) % G.nodes.length := by simp [rootN, turnG, turnI_nat]
theorem turnG_order {G : Gr} (h : RightR G) {b : Nat} (hb : b < G.nodes.length) : orderL (turnG G b) = (orderL G).map fun y => (y + b) % G.nodes.length := by
  have hm := dfs_map (kids := kidN G) (kids' := kidN (turnG G b)) (S := fun x => x < G.nodes.length) (fun y => (y + b) % G.nodes.length) (fun x y hx hy => turn_inj hb hx hy) (fun x hx => turnG_kids hb hx) (fun x hx => h.lt hx) 40001 [] (rootN G) (by simp) h.rlt
  unfold orderL
  rw [turnG_roots]
  exact hm
theorem turn_to {G : Gr} (h : RightR G) {b : Nat} (hb : b < G.nodes.length) {z : Int} (hz : z.toNat ∈ orderL G) : toI (turnG G b) (turnI G.nodes.length b z) = toI G z := by
  have ho := h.ord
  unfold toI
  rw [turnG_order h hb, show (turnI G.nodes.length b z).toNat = (z.toNat + b) % G.nodes.length from turnI_nat _ _ _]
  rw [posIn_map (p := fun y => (y + b) % G.nodes.length) (fun x hx y hy => turn_inj hb (ho.lt x hx) (ho.lt y hy)) ho.nodup hz]
/-- Numbered otherwise, a graph has the same form. -/
theorem turn_form {G : Gr} (h : RightR G) {b : Nat} (hb : b < G.nodes.length) : formG (turnG G b) = formG G := by
  have ho := h.ord
  have e1 : (formG (turnG G b)).nodes = (formG G).nodes := by
    show (orderL (turnG G b)).map _ = (orderL G).map _
    rw [turnG_order h hb, List.map_map]
    refine List.map_congr_left fun x hx => ?_
    simp only [Function.comp]
    rw [turnG_nd hb (ho.lt x hx)]
    simp only [formN, turnE, List.map_map, Nd.mk.injEq, true_and, and_true]
    refine List.map_congr_left fun z hz => ?_
    exact turn_to h hb (ho.kids x hx _ (List.mem_map.2 ⟨z, hz, rfl⟩))
  have e2 : (formG (turnG G b)).roots = (formG G).roots := by
    show (G.roots.map _).map _ = G.roots.map _
    rw [List.map_map]
    exact List.map_congr_left fun z hz => turn_to h hb (ho.base _ (List.mem_map.2 ⟨z, hz, rfl⟩))
  cases hg : formG (turnG G b)
  cases hg' : formG G
  rw [hg] at e1 e2
  rw [hg'] at e1 e2
  exact congr (congrArg _ e1) e2
theorem turn_right {G : Gr} (h : RightR G) {b : Nat} (hb : b < G.nodes.length) : RightR (turnG G b) := by
  have hn : (turnG G b).nodes = ((G.nodes.map (turnE G.nodes.length b)).drop (G.nodes.length - b)) ++ ((G.nodes.map (turnE G.nodes.length b)).take (G.nodes.length - b)) := by
    apply List.ext_getElem
    · simp [turnG]
    · intro j h1 h2
      have hj : j < G.nodes.length := by simpa [turnG] using h1
      simp only [turnG, List.getElem_map, List.getElem_range]
      rw [nd_eq (back_lt (by omega))]
      by_cases hc : j < b
      · have hk : backN G.nodes.length b j = G.nodes.length - b + j := by unfold backN; rw [Nat.mod_eq_of_lt (by omega)]; omega
        rw [List.getElem_append_left (by simp; omega)]
        simp only [List.getElem_drop, List.getElem_map, hk]
      · have hk : backN G.nodes.length b j = j - b := by unfold backN; rw [Nat.mod_eq_sub_mod (by omega), Nat.mod_eq_of_lt (by omega)]; omega
        rw [List.getElem_append_right (by simp; omega)]
        simp only [List.getElem_take, List.getElem_map, List.length_drop, List.length_map]
        simp only [hk, show j - (G.nodes.length - (G.nodes.length - b)) = j - b by omega]
  have hsum : sumK (turnG G b).nodes = sumK G.nodes := by
    unfold sumK
    rw [hn, List.map_append, List.sum_append, Nat.add_comm, ← List.sum_append, ← List.map_append, List.take_append_drop]
    simp [turnE, Function.comp_def]
  have hmem : ∀ e ∈ (turnG G b).nodes, ∃ x, x < G.nodes.length ∧ e = turnE G.nodes.length b (nd G.nodes x) := fun e he => by
    obtain ⟨j, hj, rfl⟩ := List.mem_map.1 he
    exact ⟨_, back_lt (by omega), rfl⟩
  have hlt : ∀ z : Int, 0 ≤ turnI G.nodes.length b z ∧ turnI G.nodes.length b z < (turnG G b).nodes.length := fun z => by
    have h1 : (z.toNat + b) % G.nodes.length < G.nodes.length := Nat.mod_lt _ (by omega)
    rw [turnG_len]; unfold turnI; omega
  refine ⟨⟨by rw [turnG_len]; exact h.nodes, by rw [hsum]; exact h.sum, ?_⟩, by simpa [turnG] using h.many, ?_, ?_⟩
  · intro i hi x hx
    obtain ⟨y, hy, he⟩ := hmem _ (nd_mem hi)
    rw [he] at hx
    obtain ⟨z, hz, rfl⟩ := List.mem_map.1 hx
    exact hlt z
  · intro x hx
    obtain ⟨z, hz, rfl⟩ := List.mem_map.1 hx
    exact hlt z
  · intro e he
    obtain ⟨x, hx, rfl⟩ := hmem e he
    unfold turnE
    rw [nodeB_kids (by simp)]
    exact h.nodes' _ (nd_mem hx)
/-- A graph with another text at one of its nodes. -/
def textG (G : Gr) (k : Nat) (t : ByteArray) : Gr := ⟨G.nodes.modify k fun e => { e with text := t }, G.roots⟩
theorem textG_nd (G : Gr) (k : Nat) (t : ByteArray) (i : Nat) (hi : i < G.nodes.length) : nd (textG G k t).nodes i = if k = i then { nd G.nodes i with text := t } else nd G.nodes i := by
  rw [nd_eq (by simpa [textG] using hi)]
  simp only [textG, List.getElem_modify]
  split <;> rw [nd_eq hi]
theorem textG_len (G : Gr) (k : Nat) (t : ByteArray) : (textG G k t).nodes.length = G.nodes.length := by simp [textG]
theorem textG_kids (G : Gr) (k : Nat) (t : ByteArray) : kidN (textG G k t) = kidN G := by
  funext i
  unfold kidN
  by_cases hi : i < G.nodes.length
  · rw [textG_nd G k t i hi]; split <;> rfl
  · have h1 : nd (textG G k t).nodes i = default := by unfold nd; rw [List.getD_eq_getElem?_getD, List.getElem?_eq_none (by rw [textG_len]; omega)]; rfl
    have h2 : nd G.nodes i = default := by unfold nd; rw [List.getD_eq_getElem?_getD, List.getElem?_eq_none (by omega)]; rfl
    rw [h1, h2]
theorem textG_order (G : Gr) (k : Nat) (t : ByteArray) : orderL (textG G k t) = orderL G := by unfold orderL; rw [textG_kids]; rfl
/-- With another text at a node that is met, the form is another. -/
theorem text_other {G : Gr} (h : RightR G) {k : Nat} (hk : k ∈ orderL G) {t : ByteArray} (ht : t ≠ (nd G.nodes k).text) : bareG (formG (textG G k t)) ≠ bareG (formG G) := fun he => by
  have h1 := posIn_lt hk
  have hl := h.ord.lt k hk
  have h2 : (bareG (formG (textG G k t))).nodes = (bareG (formG G)).nodes := by rw [he]
  have h3 : (bareG (formG (textG G k t))).nodes[posIn (orderL G) k]? = (bareG (formG G)).nodes[posIn (orderL G) k]? := by rw [h2]
  simp only [bareG, formG, textG_order, List.map_map, List.getElem?_map, List.getElem?_eq_getElem h1, posIn_get h1, Option.map_some, Option.some.injEq, Function.comp] at h3
  have h4 := congrArg Nd.text h3
  simp only [bareN, formN, textG_nd G k t k hl, if_pos] at h4
  exact ht h4
/-- The new numbers, as far as they are given. -/
def toF (l : List Nat) (x : Nat) : Nat := if x ∈ l then posIn l x else 0
theorem toF_snoc {l : List Nat} {x : Nat} (h : x ∉ l) (y : Nat) : toF (l ++ [x]) y = if y = x then l.length else toF l y := by
  unfold toF posIn
  by_cases e : y = x
  · subst e
    rw [if_pos (by simp), if_pos rfl, List.idxOf_append, if_neg h]
    simp
  · by_cases hy : y ∈ l
    · rw [if_pos (by simp [hy]), if_neg e, if_pos hy, List.idxOf_append, if_pos hy]
    · rw [if_neg (by simp [hy, e]), if_neg e, if_neg hy]
theorem toF_mem {l : List Nat} {x : Nat} (h : x ∈ l) : toF l x = posIn l x := if_pos h
/-- What was met behind the first k roots. -/
def visK (G : Gr) (k : Nat) : List Nat := dfs (kidN G) 40001 [] ((rootN G).take k)
theorem visK_end (G : Gr) : visK G G.roots.length = orderL G := by unfold visK orderL; rw [List.take_of_length_le (by simp [rootN])]
theorem visK_zero (G : Gr) : visK G 0 = [] := by simp [visK, dfs_nil]
theorem RightR.wayK {G : Gr} (h : RightR G) (k : Nat) : Way (kidN G) G.nodes.length (visK G k) 40001 [] ((rootN G).take k) := by
  refine ⟨rfl, ?_, by simp, by simp, fun x hx => h.rlt x (List.mem_of_mem_take hx)⟩
  unfold room
  rw [restK_sum G _ (Nat.le_refl _), List.take_length]
  have := h.sum
  have := h.many
  simp [rootN]; omega
/-- The walk from the next root, with what was met from those ahead. -/
theorem RightR.next {G : Gr} (h : RightR G) {k : Nat} (hk : k < G.roots.length) {r : Nat} (hr : (nth G.roots k) = (r : Nat)) : Way (kidN G) G.nodes.length (visK G (k + 1)) 20001 (visK G k) [r] := by
  obtain ⟨_, hn, hl, _, _⟩ := Way.all (fun i hi => h.lt hi) _ _ _ (h.wayK k) (by simp)
  have hrk : (rootN G).take (k + 1) = (rootN G).take k ++ [r] := by
    have hk' : k < (rootN G).length := by simpa [rootN] using hk
    rw [List.take_succ_eq_append_getElem hk']
    congr 2
    rw [nth_eq hk] at hr
    simp [rootN, hr]
  have hrl : r < G.nodes.length := h.rlt r (by
    have : r ∈ (rootN G).take (k + 1) := by rw [hrk]; simp
    exact List.mem_of_mem_take this)
  have hroom : room (kidN G) G.nodes.length (visK G k) [r] ≤ 20001 := by
    have h0 : restK (kidN G) G.nodes.length (visK G k) ≤ restK (kidN G) G.nodes.length [] := by
      have key : ∀ n, restK (kidN G) n (visK G k) ≤ restK (kidN G) n [] := by
        intro n
        induction n with
        | zero => exact Nat.le_refl _
        | succ n ih =>
          simp only [restK]
          have : (if n ∈ visK G k then 0 else (kidN G n).length) ≤ (if n ∈ ([] : List Nat) then 0 else (kidN G n).length) := by
            by_cases hc : n ∈ visK G k <;> simp [hc]
          omega
      exact key _
    rw [restK_sum G _ (Nat.le_refl _), List.take_length] at h0
    have := h.sum
    unfold room
    simp; omega
  refine ⟨?_, hroom, hn, hl, by simpa using hrl⟩
  have hw := (h.wayK (k + 1)).room
  rw [hrk] at hw
  obtain ⟨e1, _⟩ := dfs_append (fun i hi => h.lt hi) 40001 [] ((rootN G).take k) [r] hw (fun x hx => h.rlt x (List.mem_of_mem_take hx)) (by simpa using hrl)
  have e2 : visK G (k + 1) = dfs (kidN G) 40001 (visK G k) [r] := by
    show dfs (kidN G) 40001 [] ((rootN G).take (k + 1)) = _
    rw [hrk]
    exact e1
  rw [e2]
  exact (dfs_more (fun i hi => h.lt hi) 20001 40001 (visK G k) [r] hroom (by omega) (by simpa using hrl)).symm
end Go.Proofs.YtdcbngimgpdjoaaDoor
