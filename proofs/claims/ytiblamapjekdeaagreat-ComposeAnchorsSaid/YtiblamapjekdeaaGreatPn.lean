/- Making a graph of right events, and with which limits: plain Lean. No condition. -/
import Derived.Test.YtiblamapjekdeaaGreatFb
import Derived.Test.YtiblamapjekdeaaGreatEh
namespace Go.Proofs.YtiblamapjekdeaaGreat
namespace Ev
theorem after_len {x : Int} {op op' : List Int} (h : after x op = some op') : (op'.length : Int) = step op.length x := by
  unfold after at h
  unfold step
  split at h
  · rename_i hl
    have : x = 7 ∨ x = 8 := by simpa [leaf] using hl
    cases h
    rcases this with rfl | rfl <;> simp [opens, closes]
  · split at h
    · rename_i ho
      cases h
      simp [ho]
    · rename_i ho
      split at h
      · rename_i hc
        rw [if_neg ho, if_pos hc]
        split at h
        · cases h
        · split at h
          · cases h; simp
          · cases h
      · cases h
theorem after_pos {x : Int} {op : List Int} (h : after x op ≠ none) (hc : closes x = true) : 1 ≤ op.length := by
  have hx : x = 4 ∨ x = 6 := by simpa [closes] using hc
  cases op with
  | nil => exfalso; apply h; rcases hx with rfl | rfl <;> simp [after, leaf, opens, closes]
  | cons c op => simp
theorem scan2_pos : ∀ (l op : List Int) (m : Nat), scan2 l op = some m → ∀ (a : List Int) (x : Int) (b : List Int), l.take m = a ++ x :: b → closes x = true → 1 ≤ lev op.length a := by
  intro l
  induction l with
  | nil => intro op m h; cases h
  | cons y r ih =>
    intro op m h a x b he hc
    simp only [scan2] at h
    cases ha : after y op with
    | none => rw [ha] at h; cases h
    | some op' =>
      rw [ha] at h
      cases a with
      | nil =>
        have hm : 1 ≤ m := by cases m with | zero => simp at he | succ m => omega
        obtain ⟨m', rfl⟩ : ∃ m', m = m' + 1 := ⟨m - 1, by omega⟩
        simp only [List.take_succ_cons, List.nil_append, List.cons.injEq] at he
        obtain ⟨rfl, _⟩ := he
        have := after_pos (x := y) (op := op) (by rw [ha]; exact fun h => by cases h) hc
        show (1 : Int) ≤ (op.length : Int)
        omega
      | cons z a =>
        cases op' with
        | nil =>
          cases h
          simp at he
        | cons c op' =>
          simp only [Option.map_eq_some_iff] at h
          obtain ⟨m', hm', rfl⟩ := h
          simp only [List.take_succ_cons, List.cons_append, List.cons.injEq] at he
          obtain ⟨rfl, he⟩ := he
          have h1 := ih (c :: op') m' hm' a x b he hc
          rw [after_len ha] at h1
          exact h1
theorem node1_pos {l : List Int} {m : Nat} (h : node1 l = some m) {a : List Int} {x : Int} {b : List Int} (he : l.take m = a ++ x :: b) (hc : closes x = true) : 1 ≤ lev 0 a := by
  rw [node_eq] at h
  unfold node2 at h
  split at h
  · cases h
  · rename_i k hk
    split at h
    · cases h; exact scan2_pos l [] m hk a x b he hc
    · cases h
theorem docs_pos : ∀ (n : Nat) (l : List Int), l.length ≤ n → docs l = true → ∀ (a : List Int) (x : Int) (b : List Int), l = a ++ x :: b → closes x = true → 1 ≤ lev 0 a := by
  intro n
  induction n using Nat.strongRecOn with
  | ind n ih =>
    intro l hn hl a x b he hc
    match l, hn, hl with
    | [], _, _ => simp at he
    | y :: r, hn, hl =>
      rw [docs_cons] at hl
      cases hm : node1 r with
      | none => simp [hm] at hl
      | some m =>
        cases hd : r.drop m with
        | nil => simp [hm, hd] at hl
        | cons z r' =>
          simp only [hm, hd, Bool.and_eq_true, beq_iff_eq] at hl
          obtain ⟨rfl, rfl, hr'⟩ := hl
          have hr : r = r.take m ++ (2 :: r') := by rw [← hd, List.take_append_drop]
          have hlen : r'.length < r.length := by
            have := congrArg List.length hd
            simp at this; omega
          simp only [List.length_cons] at hn
          cases a with
          | nil =>
            simp only [List.nil_append, List.cons.injEq] at he
            obtain ⟨rfl, _⟩ := he
            exact absurd hc (by decide)
          | cons a0 a =>
            simp only [List.cons_append, List.cons.injEq] at he
            obtain ⟨rfl, he⟩ := he
            show 1 ≤ lev 0 a
            rw [hr] at he
            rcases List.append_eq_append_iff.1 he with ⟨a', rfl, e2⟩ | ⟨c', e1, e2⟩
            · cases a' with
              | nil =>
                simp only [List.nil_append, List.cons.injEq] at e2
                obtain ⟨rfl, _⟩ := e2
                exact absurd hc (by decide)
              | cons a1 a' =>
                simp only [List.cons_append, List.cons.injEq] at e2
                obtain ⟨rfl, e2⟩ := e2
                rw [lev_append, node1_lev hm]
                exact ih r'.length (by omega) r' (Nat.le_refl _) hr' a' x b e2 hc
            · cases c' with
              | nil =>
                simp only [List.nil_append, List.cons.injEq] at e2
                obtain ⟨rfl, _⟩ := e2
                exact absurd hc (by decide)
              | cons c1 c' =>
                simp only [List.cons_append, List.cons.injEq] at e2
                obtain ⟨rfl, e2⟩ := e2
                exact node1_pos hm e1 hc
end Ev
theorem levN_pos {L : List Ev} (hr : rightsB L = true) {k : Nat} (hk : k < L.length) (hc : Ev.closes (evs L k).kind = true) : 1 ≤ levN L k := by
  simp only [rightsB, Bool.and_eq_true] at hr
  refine Ev.docs_pos _ (kinds L) (Nat.le_refl _) hr.2 ((kinds L).take k) (evs L k).kind ((kinds L).drop (k + 1)) ?_ hc
  rw [← kinds_drop hk, List.take_append_drop]
theorem mkAll_append (d n : Nat) : ∀ (a b : List Ev) (s : Mk), mkAll d n s (a ++ b) = match mkAll d n s a with | .error e => .error e | .ok t => mkAll d n t b := by
  intro a
  induction a with
  | nil => intro b s; rfl
  | cons x a ih =>
    intro b s
    simp only [List.cons_append, mkAll]
    cases mkStep d n s x with
    | error e => rfl
    | ok t => exact ih b t
theorem mkAll_take {d n : Nat} {L : List Ev} {k : Nat} (hk : k < L.length) : mkAll d n mk0 (L.take (k + 1)) = match mkAll d n mk0 (L.take k) with | .error e => .error e | .ok t => mkStep d n t (evs L k) := by
  rw [evs_eq hk, List.take_succ_eq_append_getElem hk, mkAll_append]
  cases mkAll d n mk0 (L.take k) with
  | error e => rfl
  | ok t =>
    simp only [mkAll]
    cases mkStep d n t L[k] <;> rfl
theorem mkAll_stop {d n : Nat} {L : List Ev} {k : Nat} {e : Int} (h : mkAll d n mk0 (L.take k) = .error e) : mkAll d n mk0 L = .error e := by
  rw [← List.take_append_drop k L, mkAll_append, h]
theorem mkAll_part {d n : Nat} {L : List Ev} {t : Mk} (h : mkAll d n mk0 L = .ok t) (k : Nat) : ∃ s, mkAll d n mk0 (L.take k) = .ok s := by
  cases hs : mkAll d n mk0 (L.take k) with
  | ok s => exact ⟨s, rfl⟩
  | error e => rw [mkAll_stop hs] at h; cases h
theorem mkStep_way {d n : Nat} {s t : Mk} {x : Ev} (h : mkStep d n s x = .ok t) (hp : Ev.closes x.kind = true → 1 ≤ s.way.length) : (t.way.length : Int) = Ev.step s.way.length x.kind := by
  unfold mkStep at h
  unfold Ev.step
  simp only [Ev.opens, Ev.closes, Bool.or_eq_true, beq_iff_eq] at hp ⊢
  split at h
  · rename_i h1; cases h; rw [if_neg (by omega), if_neg (by omega)]
  split at h
  · rename_i h3
    rw [if_pos h3]
    split at h
    · cases h
    split at h
    · cases h
    · cases h; simp
  rename_i h1 h3
  rw [if_neg h3]
  split at h
  · rename_i h4
    rw [if_pos h4]
    cases h
    have := hp h4
    simp only [List.length_dropLast]
    omega
  rename_i h4
  rw [if_neg h4]
  split at h
  · split at h
    · cases h
    · cases h; simp [newNode_way]
  split at h
  · split at h
    · cases h
    · cases h; simp [place_way]
  · cases h; rfl
theorem mkStep_nodes {d n : Nat} {s t : Mk} {x : Ev} (h : mkStep d n s x = .ok t) : t.nodes.length = s.nodes.length + (if nodeB x.kind then 1 else 0) := by
  unfold mkStep at h
  simp only [nodeB, Bool.or_eq_true, beq_iff_eq]
  split at h
  · rename_i h1; cases h; rw [if_neg (by omega)]; rfl
  split at h
  · rename_i h3
    rw [if_pos (by omega)]
    split at h
    · cases h
    split at h
    · cases h
    · cases h; exact newNode_nodes _ _ _
  rename_i h1 h3
  split at h
  · rename_i h4; cases h; rw [if_neg (by omega)]; rfl
  rename_i h4
  split at h
  · rename_i h7
    rw [if_pos (by omega)]
    split at h
    · cases h
    · cases h; exact newNode_nodes _ _ _
  rename_i h7
  rw [if_neg (by omega)]
  split at h
  · split at h
    · cases h
    · cases h; exact place_nodes _ _
  · cases h; rfl
/-- How much is open, and how many nodes there are, behind so many events. -/
theorem mkAll_way {d n : Nat} {L : List Ev} (hr : rightsB L = true) : ∀ (k : Nat) (s : Mk), k ≤ L.length → mkAll d n mk0 (L.take k) = .ok s → (s.way.length : Int) = levN L k ∧ s.nodes.length = nodesN (L.take k) := by
  intro k
  induction k with
  | zero => intro s _ h; cases h; exact ⟨rfl, rfl⟩
  | succ k ih =>
    intro s hk h
    rw [mkAll_take (by omega)] at h
    cases ht : mkAll d n mk0 (L.take k) with
    | error e => rw [ht] at h; cases h
    | ok t =>
      rw [ht] at h
      obtain ⟨h1, h2⟩ := ih t (by omega) ht
      have hlt : k < L.length := by omega
      have hp : Ev.closes (evs L k).kind = true → 1 ≤ t.way.length := fun hc => by have := levN_pos hr hlt hc; omega
      refine ⟨?_, ?_⟩
      · rw [mkStep_way h hp, h1]; unfold levN; rw [kinds_take hlt, Ev.lev_append]; rfl
      · rw [mkStep_nodes h, h2, nodes_take hlt]
theorem topN_mono (L : List Ev) : ∀ (j k : Nat), k + j ≤ L.length → topN L k ≤ topN L (k + j) := by
  intro j
  induction j with
  | zero => intro k _; exact Int.le_refl _
  | succ j ih =>
    intro k hk
    have h1 := ih k (by omega)
    have h2 := topN_next (L := L) (k := k + j) (by omega)
    rw [show k + (j + 1) = k + j + 1 by omega, h2]; omega
theorem nodesN_mono (L : List Ev) : ∀ (j k : Nat), k + j ≤ L.length → nodesN (L.take k) ≤ nodesN (L.take (k + j)) := by
  intro j
  induction j with
  | zero => intro k _; exact Nat.le_refl _
  | succ j ih =>
    intro k hk
    have h1 := ih k (by omega)
    have h2 := nodes_take (L := L) (k := k + j) (by omega)
    rw [show k + (j + 1) = k + j + 1 by omega, h2]; omega
theorem levN_top (L : List Ev) {k : Nat} (hk : k ≤ L.length) : levN L k ≤ topN L k := by
  cases k with
  | zero => exact Int.le_refl _
  | succ k => rw [topN_next' (by omega)]; omega
/-- One event with other limits. -/
theorem mkStep_cmp {d n d' n' : Nat} {s t : Mk} {x : Ev} (h : mkStep d n s x = .ok t) :
    mkStep d' n' s x = .ok t ∨ (mkStep d' n' s x = .error 8 ∧ Ev.opens x.kind = true ∧ d' ≤ s.way.length) ∨ (mkStep d' n' s x = .error 9 ∧ nodeB x.kind = true ∧ n' ≤ s.nodes.length) := by
  unfold mkStep at h ⊢
  simp only [Ev.opens, nodeB, Bool.or_eq_true, beq_iff_eq]
  split at h
  · rename_i h1; rw [if_pos h1]; exact .inl h
  rename_i h1
  rw [if_neg h1]
  split at h
  · rename_i h3
    rw [if_pos h3]
    split at h
    · cases h
    split at h
    · cases h
    · by_cases hd : d' ≤ s.way.length
      · rw [if_pos hd]; exact .inr (.inl ⟨rfl, h3, hd⟩)
      rw [if_neg hd]
      by_cases hn : n' ≤ s.nodes.length
      · rw [if_pos hn]; exact .inr (.inr ⟨rfl, by omega, hn⟩)
      · rw [if_neg hn]; exact .inl h
  rename_i h3
  rw [if_neg h3]
  split at h
  · rename_i h4; rw [if_pos h4]; exact .inl h
  rename_i h4
  rw [if_neg h4]
  split at h
  · rename_i h7
    rw [if_pos h7]
    split at h
    · cases h
    · by_cases hn : n' ≤ s.nodes.length
      · rw [if_pos hn]; exact .inr (.inr ⟨rfl, by omega, hn⟩)
      · rw [if_neg hn]; exact .inl h
  rename_i h7
  rw [if_neg h7]
  exact .inl h
/-- All events with other limits: as with those that were enough, or one of the two is told. -/
theorem mkAll_cmp {d n d' n' : Nat} {L : List Ev} {t : Mk} (hr : rightsB L = true) (h : mkAll d n mk0 L = .ok t) : ∀ (k : Nat), k ≤ L.length →
    (mkAll d' n' mk0 (L.take k) = mkAll d n mk0 (L.take k) ∧ topN L k ≤ d' ∧ nodesN (L.take k) ≤ n') ∨
    (mkAll d' n' mk0 (L.take k) = .error 8 ∧ (d' : Int) < topN L L.length) ∨ (mkAll d' n' mk0 (L.take k) = .error 9 ∧ n' < nodesN L) := by
  intro k
  induction k with
  | zero => intro _; exact .inl ⟨rfl, by show (0 : Int) ≤ d'; omega, Nat.zero_le _⟩
  | succ k ih =>
    intro hk
    have hlt : k < L.length := by omega
    rcases ih (by omega) with ⟨h1, h2, h3⟩ | ⟨h1, h2⟩ | ⟨h1, h2⟩
    · obtain ⟨s, hs⟩ := mkAll_part h k
      obtain ⟨u, hu⟩ := mkAll_part h (k + 1)
      have hst : mkStep d n s (evs L k) = .ok u := by rw [mkAll_take hlt, hs] at hu; exact hu
      obtain ⟨w1, w2⟩ := mkAll_way hr k s (by omega) hs
      have hT := topN_mono L (L.length - (k + 1)) (k + 1) (by omega)
      have hC := nodesN_mono L (L.length - (k + 1)) (k + 1) (by omega)
      rw [show k + 1 + (L.length - (k + 1)) = L.length by omega] at hT hC
      rw [List.take_length] at hC
      have ht := topN_next hlt
      have hn := nodes_take hlt
      have hl := levN_top L (k := k) (by omega)
      have hdp : deepN L k = if Ev.opens (evs L k).kind then levN L k + 1 else levN L k := rfl
      have e0 : mkAll d' n' mk0 (L.take (k + 1)) = mkStep d' n' s (evs L k) := by rw [mkAll_take hlt, h1, hs]
      rcases mkStep_cmp (d' := d') (n' := n') hst with c | ⟨c, co, cd⟩ | ⟨c, co, cd⟩
      · by_cases hT' : topN L (k + 1) ≤ d'
        · by_cases hC' : nodesN (L.take (k + 1)) ≤ n'
          · exact .inl ⟨by rw [e0, c, hu], hT', hC'⟩
          · exfalso
            cases hb : nodeB (evs L k).kind with
            | false => rw [hb] at hn; simp at hn; omega
            | true =>
              have : mkStep d' n' s (evs L k) ≠ .ok u := by
                unfold mkStep
                have hk3 : (evs L k).kind = 7 ∨ (evs L k).kind = 3 ∨ (evs L k).kind = 5 := by simpa [nodeB, or_assoc] using hb
                rw [hb] at hn
                simp only [if_true] at hn
                rw [if_neg (by omega)]
                split
                · split
                  · intro e; cases e
                  · rw [if_pos (by omega)]; intro e; cases e
                · rw [if_neg (by omega), if_pos (by omega), if_pos (by omega)]; intro e; cases e
              exact this c
        · exfalso
          cases ho : Ev.opens (evs L k).kind with
          | false => rw [ho] at hdp; simp at hdp; omega
          | true =>
            rw [ho] at hdp
            simp only [if_true] at hdp
            have : mkStep d' n' s (evs L k) ≠ .ok u := by
              unfold mkStep
              have hk3 : (evs L k).kind = 3 ∨ (evs L k).kind = 5 := by simpa [Ev.opens] using ho
              rw [if_neg (by omega), if_pos hk3, if_pos (by omega)]
              intro e; cases e
            exact this c
      · refine .inr (.inl ⟨by rw [e0, c], ?_⟩)
        rw [co] at hdp
        simp only [if_true] at hdp
        omega
      · refine .inr (.inr ⟨by rw [e0, c], ?_⟩)
        rw [co] at hn
        simp only [if_true] at hn
        omega
    · exact .inr (.inl ⟨by rw [mkAll_take hlt, h1], h2⟩)
    · exact .inr (.inr ⟨by rw [mkAll_take hlt, h1], h2⟩)
theorem limits {d n d' n' : Nat} {L : List Ev} {t : Mk} (hr : rightsB L = true) (h : mkAll d n mk0 L = .ok t) :
    (topN L L.length ≤ d' → nodesN L ≤ n' → mkAll d' n' mk0 L = .ok t) ∧ ((d' : Int) < topN L L.length → nodesN L ≤ n' → mkAll d' n' mk0 L = .error 8) ∧ (topN L L.length ≤ d' → n' < nodesN L → mkAll d' n' mk0 L = .error 9) := by
  have c := mkAll_cmp (d' := d') (n' := n') hr h L.length (Nat.le_refl _)
  rw [List.take_length] at c
  refine ⟨fun h1 h2 => ?_, fun h1 h2 => ?_, fun h1 h2 => ?_⟩
  · rcases c with ⟨e, _⟩ | ⟨_, e⟩ | ⟨_, e⟩
    · rw [e, h]
    · omega
    · omega
  · rcases c with ⟨_, e, _⟩ | ⟨e, _⟩ | ⟨_, e⟩
    · omega
    · exact e
    · omega
  · rcases c with ⟨_, _, e⟩ | ⟨_, e⟩ | ⟨e, _⟩
    · omega
    · omega
    · exact e
theorem enough {d n : Nat} {L : List Ev} {t : Mk} (hr : rightsB L = true) (h : mkAll d n mk0 L = .ok t) : topN L L.length ≤ d ∧ nodesN L ≤ n := by
  have c := mkAll_cmp (d' := d) (n' := n) hr h L.length (Nat.le_refl _)
  rw [List.take_length] at c
  rcases c with ⟨_, e⟩ | ⟨e, _⟩ | ⟨e, _⟩
  · exact e
  · rw [h] at e; cases e
  · rw [h] at e; cases e
end Go.Proofs.YtiblamapjekdeaaGreat
