/- Events with anchors and aliases in one list, and what is made of them: plain Lean. No condition. -/
import Derived.Test.YtiblamapjekdeaaGreatFm
namespace Go.Proofs.YtiblamapjekdeaaGreat
def nmA (k : Nat) : ByteArray := if k = 0 then ⟨#[97]⟩ else if k = 1 then ⟨#[98]⟩ else ⟨#[99]⟩
abbrev evA7 (t : ByteArray) (k : Nat) : Ev := ⟨7, t, ⟨#[]⟩, nmA k, 1, false⟩
abbrev evA8 (k : Nat) : Ev := ⟨8, ⟨#[]⟩, ⟨#[]⟩, nmA k, 0, false⟩
/-- What the law has come to. -/
structure An where
  ev : List Ev
  last : List Nat
  want : List Int
  n : Nat
  bad : Bool
def an0 : An := ⟨[⟨1, ⟨#[]⟩, ⟨#[]⟩, ⟨#[]⟩, 0, false⟩, ⟨3, ⟨#[]⟩, ⟨#[]⟩, ⟨#[]⟩, 0, false⟩], [0, 0, 0], [], 1, false⟩
def an7 (a : An) (t : ByteArray) (k : Nat) : An := ⟨a.ev ++ [evA7 t k], a.last.set k a.n, a.want ++ [(a.n : Int)], a.n + 1, a.bad⟩
def an8 (a : An) (k : Nat) : An := ⟨a.ev ++ [evA8 k], a.last, a.want ++ [((a.last.getD k 0 : Nat) : Int)], a.n, a.bad || (a.last.getD k 0 == 0)⟩
structure AnInv (a : An) (i : Nat) : Prop where
  len : a.ev.length = i + 2
  wlen : a.want.length = i
  n1 : 1 ≤ a.n
  n2 : a.n ≤ i + 1
  last : a.last.length = 3
  right : ∀ e ∈ a.ev, rightB e = true ∧ e.ok
  kd : ∃ l, kinds a.ev = 1 :: 3 :: l ∧ ∀ x ∈ l, x = 7 ∨ x = 8
  good : a.bad = false → ∃ s, mkAll 9 99 mk0 a.ev = .ok s ∧ s.way = [0] ∧ s.nodes.length = a.n ∧ (nd s.nodes 0).kids = a.want ∧ ∀ k, k < 3 → look s.names (nmA k) = if a.last.getD k 0 = 0 then none else some (a.last.getD k 0)
  worse : a.bad = true → mkAll 9 99 mk0 a.ev = .error 10
theorem nmA_size (k : Nat) : ¬ (nmA k).size = 0 := by unfold nmA; split; decide; split <;> decide
theorem nmA_len (k : Nat) : (nmA k).size ≤ maxLen := by unfold nmA; split; decide; split <;> decide
theorem right_al (k : Nat) : rightB (evA8 k) = true := by
  have h : emp (nmA k) = false := by rw [emp, empty_strF]; simpa using nmA_size k
  have h0 : emp ⟨#[]⟩ = true := by simp [emp]
  simp [rightB, h, h0]
theorem ok_al (k : Nat) : (evA8 k).ok := ⟨(by decide : (Lit.int .i64 8).wf = true), (by decide : (Lit.int .i64 0).wf = true), (by decide : (⟨#[]⟩ : ByteArray).size ≤ maxLen), (by decide : (⟨#[]⟩ : ByteArray).size ≤ maxLen), nmA_len k⟩
theorem nmA_inj {j k : Nat} (hj : j < 3) (hk : k < 3) (h : nmA j = nmA k) : j = k := by
  match j, k, hj, hk with
  | 0, 0, _, _ => rfl
  | 0, 1, _, _ => exact absurd h (by decide)
  | 0, 2, _, _ => exact absurd h (by decide)
  | 1, 0, _, _ => exact absurd h (by decide)
  | 1, 1, _, _ => rfl
  | 1, 2, _, _ => exact absurd h (by decide)
  | 2, 0, _, _ => exact absurd h (by decide)
  | 2, 1, _, _ => exact absurd h (by decide)
  | 2, 2, _, _ => rfl
theorem an0_inv : AnInv an0 0 := by
  refine ⟨rfl, rfl, Nat.le_refl _, Nat.le_refl _, rfl, ?_, ⟨[], rfl, by simp⟩, fun _ => ⟨_, rfl, rfl, rfl, rfl, ?_⟩, fun h => by cases h⟩
  · intro e he
    simp only [an0, List.mem_cons, List.not_mem_nil, or_false] at he
    rcases he with rfl | rfl
    · exact ⟨by simp [rightB, emp], ⟨by decide, by decide, by decide, by decide, by decide⟩⟩
    · exact ⟨by simp [rightB, emp], ⟨by decide, by decide, by decide, by decide, by decide⟩⟩
  · intro k hk
    match k, hk with
    | 0, _ => rfl
    | 1, _ => rfl
    | 2, _ => rfl
theorem mkAll_one {d n : Nat} {s : Mk} {x : Ev} : mkAll d n s [x] = mkStep d n s x := by
  simp only [mkAll]
  cases mkStep d n s x <;> rfl
theorem kinds_app (a b : List Ev) : kinds (a ++ b) = kinds a ++ kinds b := by simp [kinds]
theorem AnInv.seven {a : An} {i : Nat} (h : AnInv a i) (hi : i ≤ 40) {t : ByteArray} (ht : t.size ≤ maxLen) {k : Nat} (hk : k < 3) : AnInv (an7 a t k) (i + 1) := by
  have hn2 := h.n2
  refine ⟨by simp [an7, h.len], by simp [an7, h.wlen], by simp [an7], by simp [an7]; omega, by simp [an7, h.last], ?_, ?_, fun hb => ?_, fun hb => ?_⟩
  · intro e he
    rcases List.mem_append.1 he with he | he
    · exact h.right e he
    · simp at he; subst he
      exact ⟨by simp [rightB], ⟨(by decide : (Lit.int .i64 7).wf = true), (by decide : (Lit.int .i64 1).wf = true), ht, (by decide : (⟨#[]⟩ : ByteArray).size ≤ maxLen), nmA_len k⟩⟩
  · obtain ⟨l, h1, h2⟩ := h.kd
    refine ⟨l ++ [7], by simp [an7, kinds_app, h1]; rfl, ?_⟩
    intro x hx
    rcases List.mem_append.1 hx with hx | hx
    · exact h2 x hx
    · simp at hx; exact .inl hx
  · obtain ⟨s, h1, h2, h3, h4, h5⟩ := h.good hb
    have hst : mkStep 9 99 s (evA7 t k) = .ok (newNode (nodeK (evA7 t k)) (nmA k) s) := by
      rw [mkStep_7 rfl, if_neg (by omega)]
    have hp : place s.nodes.length { s with nodes := s.nodes ++ [nodeK (evA7 t k)] } = { s with nodes := (s.nodes ++ [nodeK (evA7 t k)]).modify 0 (addKid (s.nodes.length : Int)) } := by
      unfold place; simp only [h2]; rfl
    refine ⟨newNode (nodeK (evA7 t k)) (nmA k) s, ?_, ?_, ?_, ?_, fun j hj => ?_⟩
    · show mkAll 9 99 mk0 (a.ev ++ [evA7 t k]) = _
      rw [mkAll_append, h1]; simp only []; rw [mkAll_one, hst]
    · rw [newNode_way, h2]
    · rw [newNode_nodes, h3]; rfl
    · have : (newNode (nodeK (evA7 t k)) (nmA k) s).nodes = (s.nodes ++ [nodeK (evA7 t k)]).modify 0 (addKid (s.nodes.length : Int)) := by
        unfold newNode; simp only [if_neg (nmA_size k)]; rw [hp]
      rw [this, nd_modify _ _ _ _ (by simp), if_pos rfl]
      have h0 : nd (s.nodes ++ [nodeK (evA7 t k)]) 0 = nd s.nodes 0 := by
        unfold nd
        rw [List.getD_eq_getElem?_getD, List.getD_eq_getElem?_getD, List.getElem?_append_left (show 0 < s.nodes.length by have := h.n1; omega)]
      rw [h0]
      show (nd s.nodes 0).kids ++ [(s.nodes.length : Int)] = a.want ++ [(a.n : Int)]
      rw [h4, h3]
    · rw [newNode_names, if_neg (nmA_size k), look_snoc]
      show (if nmA k = nmA j then some s.nodes.length else look s.names (nmA j)) = if (a.last.set k a.n).getD j 0 = 0 then none else some ((a.last.set k a.n).getD j 0)
      by_cases e : k = j
      · subst e
        have hg : (a.last.set k a.n).getD k 0 = a.n := by simp [h.last, hk]
        rw [if_pos rfl, hg, if_neg (by have := h.n1; omega), h3]
      · have hg : (a.last.set k a.n).getD j 0 = a.last.getD j 0 := by simp [e]
        rw [if_neg (fun he => e (nmA_inj hk hj he)), hg]
        exact h5 j hj
  · have := h.worse hb
    show mkAll 9 99 mk0 (a.ev ++ [evA7 t k]) = _
    rw [mkAll_append, this]
theorem AnInv.eight {a : An} {i : Nat} (h : AnInv a i) {k : Nat} (hk : k < 3) : AnInv (an8 a k) (i + 1) := by
  have hn2 := h.n2
  refine ⟨by simp [an8, h.len], by simp [an8, h.wlen], h.n1, by simp [an8]; omega, h.last, ?_, ?_, fun hb => ?_, fun hb => ?_⟩
  · intro e he
    rcases List.mem_append.1 he with he | he
    · exact h.right e he
    · simp at he; subst he
      exact ⟨right_al k, ok_al k⟩
  · obtain ⟨l, h1, h2⟩ := h.kd
    refine ⟨l ++ [8], by simp [an8, kinds_app, h1]; rfl, ?_⟩
    intro x hx
    rcases List.mem_append.1 hx with hx | hx
    · exact h2 x hx
    · simp at hx; exact .inr hx
  · have hb' : a.bad = false ∧ ¬ a.last.getD k 0 = 0 := by
      have : (a.bad || (a.last.getD k 0 == 0)) = false := hb
      simpa using this
    obtain ⟨s, h1, h2, h3, h4, h5⟩ := h.good hb'.1
    have hl := h5 k hk
    rw [if_neg hb'.2] at hl
    have hst : mkStep 9 99 s (evA8 k) = .ok (place (a.last.getD k 0) s) := by
      rw [mkStep_8 rfl, hl]
    have hp : place (a.last.getD k 0) s = { s with nodes := s.nodes.modify 0 (addKid ((a.last.getD k 0 : Nat) : Int)) } := by
      unfold place; simp only [h2]; rfl
    refine ⟨place (a.last.getD k 0) s, ?_, ?_, ?_, ?_, fun j hj => ?_⟩
    · show mkAll 9 99 mk0 (a.ev ++ [evA8 k]) = _
      rw [mkAll_append, h1]; simp only []; rw [mkAll_one, hst]
    · rw [place_way, h2]
    · rw [place_nodes, h3]; rfl
    · rw [hp]
      show (nd (s.nodes.modify 0 (addKid ((a.last.getD k 0 : Nat) : Int))) 0).kids = _
      rw [nd_modify _ _ _ _ (by have := h.n1; omega), if_pos rfl]
      show (nd s.nodes 0).kids ++ [((a.last.getD k 0 : Nat) : Int)] = _
      rw [h4]; rfl
    · rw [place_names]; exact h5 j hj
  · show mkAll 9 99 mk0 (a.ev ++ [evA8 k]) = _
    rw [mkAll_append]
    by_cases hb0 : a.bad = true
    · rw [h.worse hb0]
    · have hb1 : a.bad = false := by simpa using hb0
      have hz : a.last.getD k 0 = 0 := by
        have : (a.bad || (a.last.getD k 0 == 0)) = true := hb
        rw [hb1] at this
        simpa using this
      obtain ⟨s, h1, h2, h3, h4, h5⟩ := h.good hb1
      have hl := h5 k hk
      rw [if_pos hz] at hl
      rw [h1]
      simp only []
      rw [mkAll_one, mkStep_8 rfl, hl]
theorem scan_leafs : ∀ (l t : List Int) (n : Nat), (∀ x ∈ l, x = 7 ∨ x = 8) → Ev.scan1 (l ++ 4 :: t) [(3, n)] = some (l.length + 1) := by
  intro l
  induction l with
  | nil => intro t n _; simp [Ev.scan1, Ev.opens, Ev.leaf]
  | cons x l ih =>
    intro t n h
    have hx := h x (by simp)
    have ho : Ev.opens x = false := by rcases hx with rfl | rfl <;> rfl
    have hlf : Ev.leaf x = true := by rcases hx with rfl | rfl <;> rfl
    simp only [List.cons_append, Ev.scan1, ho, hlf, Bool.false_eq_true, if_false, if_true, Ev.bump]
    rw [ih t (n + 1) fun y hy => h y (by simp [hy])]
    rfl
abbrev endA : List Ev := [⟨4, ⟨#[]⟩, ⟨#[]⟩, ⟨#[]⟩, 0, false⟩, ⟨2, ⟨#[]⟩, ⟨#[]⟩, ⟨#[]⟩, 0, false⟩]
abbrev moreA : List Ev := [⟨1, ⟨#[]⟩, ⟨#[]⟩, ⟨#[]⟩, 0, false⟩, evA8 0, ⟨2, ⟨#[]⟩, ⟨#[]⟩, ⟨#[]⟩, 0, false⟩]
theorem right_bareA (k : Int) (hk : k = 1 ∨ k = 2 ∨ k = 4) : rightB ⟨k, ⟨#[]⟩, ⟨#[]⟩, ⟨#[]⟩, 0, false⟩ = true := by
  rcases hk with rfl | rfl | rfl <;> simp [rightB, emp]
theorem ok_bareA (k : Int) (hk : k = 1 ∨ k = 2 ∨ k = 4) : Ev.ok ⟨k, ⟨#[]⟩, ⟨#[]⟩, ⟨#[]⟩, 0, false⟩ := by
  rcases hk with rfl | rfl | rfl <;> exact ⟨by decide, by decide, by decide, by decide, by decide⟩
theorem AnInv.docs {a : An} {i : Nat} (h : AnInv a i) : Ev.docs (kinds (a.ev ++ endA)) = true := by
  obtain ⟨l, h1, h2⟩ := h.kd
  have e : kinds (a.ev ++ endA) = 1 :: (3 :: (l ++ 4 :: [2])) := by rw [kinds_app, h1]; simp [kinds]
  have hn : Ev.node1 (3 :: (l ++ 4 :: [2])) = some (l.length + 1 + 1) := by
    have hs := scan_leafs l [2] 0 h2
    have e1 : Ev.leaf 3 = false := rfl
    have e2 : Ev.opens 3 = true := rfl
    simp only [Ev.node1, e1, e2, Bool.false_eq_true, if_false, if_true]
    rw [hs]
    rfl
  rw [e, Ev.docs_cons, hn]
  simp only []
  have hd : (3 :: (l ++ 4 :: [2])).drop (l.length + 1 + 1) = [2] := by
    rw [List.drop_succ_cons, List.drop_append_of_le_length' l]
  rw [hd]
  rfl
where
  List.drop_append_of_le_length' (l : List Int) : (l ++ 4 :: [2]).drop (l.length + 1) = [2] := by
    induction l with
    | nil => rfl
    | cons x l ih => simp
theorem AnInv.rights {a : An} {i : Nat} (h : AnInv a i) : rightsB (a.ev ++ endA) = true ∧ rightsB (a.ev ++ endA ++ moreA) = true ∧ (∀ x ∈ a.ev ++ endA, x.ok) ∧ ∀ x ∈ a.ev ++ endA ++ moreA, x.ok := by
  have h1 : (a.ev ++ endA).all rightB = true := by
    rw [List.all_eq_true]
    intro e he
    rcases List.mem_append.1 he with he | he
    · exact (h.right e he).1
    · simp only [endA, List.mem_cons, List.not_mem_nil, or_false] at he
      rcases he with rfl | rfl
      · exact right_bareA 4 (by omega)
      · exact right_bareA 2 (by omega)
  have h2 : ∀ x ∈ a.ev ++ endA, x.ok := by
    intro e he
    rcases List.mem_append.1 he with he | he
    · exact (h.right e he).2
    · simp only [endA, List.mem_cons, List.not_mem_nil, or_false] at he
      rcases he with rfl | rfl
      · exact ok_bareA 4 (by omega)
      · exact ok_bareA 2 (by omega)
  have h3 : moreA.all rightB = true := by
    simp only [moreA, List.all_cons, List.all_nil, Bool.and_true, Bool.and_eq_true]
    exact ⟨right_bareA 1 (by omega), right_al 0, right_bareA 2 (by omega)⟩
  have h4 : ∀ x ∈ moreA, x.ok := by
    intro e he
    simp only [moreA, List.mem_cons, List.not_mem_nil, or_false] at he
    rcases he with rfl | rfl | rfl
    · exact ok_bareA 1 (by omega)
    · exact ok_al 0
    · exact ok_bareA 2 (by omega)
  refine ⟨by rw [rightsB, h1, h.docs]; rfl, ?_, h2, fun e he => ?_⟩
  · rw [rightsB, List.all_append, h1, h3, kinds_app, Ev.docs_append _ _ (kinds moreA) (Nat.le_refl _) h.docs (by rfl)]; rfl
  · rcases List.mem_append.1 he with he | he
    · exact h2 e he
    · exact h4 e he
/-- What is made in the end. -/
theorem AnInv.fin {a : An} {i : Nat} (h : AnInv a i) :
    (a.bad = true → mkG (a.ev ++ endA) 9 99 = (⟨[], []⟩, 10)) ∧ (a.bad = false → ∃ G, mkG (a.ev ++ endA) 9 99 = (G, 0) ∧ G.nodes.length = a.n ∧ (nd G.nodes 0).kids = a.want) ∧ (a.bad = false → (mkG (a.ev ++ endA ++ moreA) 9 99).2 = 10) := by
  obtain ⟨r1, r2, _, _⟩ := h.rights
  have key : ∀ s, mkAll 9 99 mk0 a.ev = .ok s → mkAll 9 99 mk0 (a.ev ++ endA) = .ok { s with way := s.way.dropLast } := fun s hs => by
    rw [mkAll_append, hs]
    rfl
  refine ⟨fun hb => ?_, fun hb => ?_, fun hb => ?_⟩
  · rw [mkG, r1, mkAll_append, h.worse hb]; rfl
  · obtain ⟨s, h1, h2, h3, h4, _⟩ := h.good hb
    exact ⟨⟨s.nodes, s.roots⟩, by rw [mkG, r1, key s h1]; rfl, h3, h4⟩
  · obtain ⟨s, h1, _⟩ := h.good hb
    rw [mkG, r2, mkAll_append, key s h1]
    rfl
end Go.Proofs.YtiblamapjekdeaaGreat
