/- Rows of documents by places: one document's step. No condition. -/
import Derived.Test.YtiblamapjekdeaaGreatEvS
import Derived.Test.YtiblamapjekdeaaGreatEv2
namespace Go.Proofs.YtiblamapjekdeaaGreat
open Go.RowKit
def rightsB (L : List Ev) : Bool := L.all rightB && Ev.docs (kinds L)
/-- What one document asks of the places k, e. -/
structure DocStep (L : List Ev) (k : Nat) (e : Int) : Prop where
  mark : (evs L k).kind ≠ 1 → Ev.docs ((kinds L).drop k) = false
  none : e = (k : Int) + 1 → Ev.docs ((kinds L).drop k) = false
  place : e ≠ (k : Int) + 1 → ∃ j : Nat, e = j ∧ k + 2 ≤ j ∧ j ≤ L.length ∧ (j = L.length → Ev.docs ((kinds L).drop k) = false) ∧ (j < L.length → (evs L j).kind ≠ 2 → Ev.docs ((kinds L).drop k) = false) ∧
    ((evs L k).kind = 1 → j < L.length → (evs L j).kind = 2 → Ev.docs ((kinds L).drop k) = Ev.docs ((kinds L).drop (j + 1)))
theorem endI_node (L : List Ev) {n : Nat} : endI L n = match Ev.node1 ((kinds L).drop n) with | some m => (n : Int) + m | none => n := by
  unfold endI
  by_cases h : L.length ≤ n
  · rw [if_pos (by omega), kinds_end h]; rfl
  · rw [if_neg (by omega), Int.toNat_natCast]
    cases Ev.node1 ((kinds L).drop n) <;> rfl
theorem docStep {L : List Ev} {k : Nat} (h : k < L.length) : DocStep L k (endI L ((k : Int) + 1)) := by
  have e1 : ((k : Int) + 1) = ((k + 1 : Nat) : Int) := by omega
  rw [e1, endI_node]
  have hd := kinds_drop h
  have hc := Ev.docs_cons (evs L k).kind ((kinds L).drop (k + 1))
  rw [← hd] at hc
  cases hn : Ev.node1 ((kinds L).drop (k + 1)) with
  | none =>
    rw [hn] at hc
    refine ⟨fun _ => by rw [hc]; simp, fun _ => by rw [hc]; simp, fun hne => absurd rfl hne⟩
  | some m =>
    have hm := Ev.node1_le hn
    have hlen : ((kinds L).drop (k + 1)).length = L.length - (k + 1) := by simp [kinds]
    rw [hn] at hc
    simp only at hc ⊢
    refine ⟨fun hk => by rw [hc, beq_eq_false_iff_ne.2 hk]; rfl, fun he => by omega, fun _ => ⟨k + 1 + m, by omega, by omega, by omega, fun hj => ?_, fun hj hk => ?_, fun h1 hj hk => ?_⟩⟩
    · rw [hc, List.drop_drop, kinds_end (by omega)]; simp
    · rw [hc, List.drop_drop, kinds_drop hj]
      simp [hk]
    · rw [hc, List.drop_drop, kinds_drop hj, h1, hk]
      simp
theorem docs_nil (L : List Ev) {k : Nat} (h : L.length ≤ k) : Ev.docs ((kinds L).drop k) = true := by rw [kinds_end h]; rfl
theorem after_kind {x : Int} {op op' : List Int} (h : Ev.after x op = some op') : 1 ≤ x ∧ x ≤ 8 := by
  unfold Ev.after at h
  by_cases h1 : Ev.leaf x = true
  · simp only [Ev.leaf, Bool.or_eq_true, beq_iff_eq] at h1; omega
  · by_cases h2 : Ev.opens x = true
    · simp only [Ev.opens, Bool.or_eq_true, beq_iff_eq] at h2; omega
    · by_cases h3 : Ev.closes x = true
      · simp only [Ev.closes, Bool.or_eq_true, beq_iff_eq] at h3; omega
      · simp [h1, h2, h3] at h
theorem scan2_kinds : ∀ (l op : List Int) (m : Nat), Ev.scan2 l op = some m → ∀ x ∈ l.take m, 1 ≤ x ∧ x ≤ 8
  | [], _, _, h => by simp [Ev.scan2] at h
  | y :: r, op, m, h => by
    rw [Ev.scan2] at h
    cases ha : Ev.after y op with
    | none => rw [ha] at h; cases h
    | some o =>
      have hy := after_kind ha
      rw [ha] at h
      cases o with
      | nil =>
        simp only [Option.some.injEq] at h
        subst h
        intro x hx
        simp at hx; subst hx; exact hy
      | cons c o =>
        simp only [Option.map_eq_some_iff] at h
        obtain ⟨m', hm', rfl⟩ := h
        intro x hx
        rw [List.take_succ_cons, List.mem_cons] at hx
        rcases hx with rfl | hx
        · exact hy
        · exact scan2_kinds r (c :: o) m' hm' x hx
theorem node1_kinds {l : List Int} {m : Nat} (h : Ev.node1 l = some m) : ∀ x ∈ l.take m, 1 ≤ x ∧ x ≤ 8 := by
  rw [Ev.node_eq] at h
  unfold Ev.node2 at h
  split at h
  · cases h
  · rename_i k hk
    split at h
    · cases h; exact scan2_kinds _ _ _ hk
    · cases h
theorem docs_kinds : ∀ (n : Nat) (l : List Int), l.length ≤ n → Ev.docs l = true → ∀ x ∈ l, 1 ≤ x ∧ x ≤ 8
  | _, [], _, _ => fun _ h => by cases h
  | 0, _ :: _, hl, _ => by simp at hl
  | n + 1, y :: r, hl, h => by
    rw [Ev.docs_cons] at h
    cases hn : Ev.node1 r with
    | none => rw [hn] at h; simp at h
    | some m =>
      have hk := node1_kinds hn
      rw [hn] at h
      cases hd : r.drop m with
      | nil => simp [hd] at h
      | cons z t =>
        simp only [hd, Bool.and_eq_true, beq_iff_eq] at h
        obtain ⟨h1, h2, h3⟩ := h
        have hlen := congrArg List.length hd
        simp only [List.length_drop, List.length_cons] at hlen hl
        have ih := docs_kinds n t (by omega) h3
        intro x hx
        rcases List.mem_cons.1 hx with rfl | hx
        · omega
        · rw [← List.take_append_drop m r, hd, List.mem_append, List.mem_cons] at hx
          rcases hx with hx | rfl | hx
          · exact hk x hx
          · omega
          · exact ih x hx
theorem all_take {L : List Ev} {p : Ev → Bool} {k : Nat} (h : k < L.length) : (L.take (k + 1)).all p = ((L.take k).all p && p (evs L k)) := by
  rw [evs_eq h, List.take_succ_eq_append_getElem h, List.all_append]; simp
theorem all_hit {L : List Ev} {p : Ev → Bool} {k : Nat} (h : k < L.length) (hp : p (evs L k) = false) : L.all p = false := by
  rw [List.all_eq_false]; exact ⟨_, evs_mem h, by rw [hp]; decide⟩
end Go.Proofs.YtiblamapjekdeaaGreat
