/- Words of letters with a tail behind them, as plain lists. No condition. -/
import Derived.Test.YtifhnjaeegmfkaaPlainP
namespace Go.Proofs.Ytifhnjaeegmfkaa
/-- Letters, and blanks between them. -/
def wordsB (l : List Int) : Prop := 0 < l.length ∧ ∀ i, i < l.length → (97 ≤ nth l i ∧ nth l i ≤ 122) ∨ (nth l i = 32 ∧ 0 < i ∧ i + 1 < l.length)
theorem nth_left {l t : List Int} {i : Nat} (h : i < l.length) : nth (l ++ t) i = nth l i := by
  simp [nth, List.getElem?_append_left h]
theorem nth_right (l t : List Int) (i : Nat) : nth (l ++ t) (l.length + i) = nth t i := by
  simp [nth, List.getElem?_append_right]
theorem letter_facts {c : Int} (h : 97 ≤ c ∧ c ≤ 122) : (∀ f, safeB c f = true) ∧ blankB c = false ∧ flowB c = false ∧ signB c = false := by
  have h1 : printB c = true := (printB_iff c).2 (by omega)
  have h2 : blankB c = false := bool_no.2 fun e => by have := (blankB_iff c).1 e; omega
  have h3 : flowB c = false := bool_no.2 fun e => by have := (flowB_iff c).1 e; omega
  have h4 : signB c = false := bool_no.2 fun e => by have := (signB_iff c).1 e; omega
  refine ⟨fun f => ?_, h2, h3, h4⟩
  have h5 : (c != 10) = true := bne_iff_ne.2 (by omega)
  have h6 : (c != 13) = true := bne_iff_ne.2 (by omega)
  have h7 : (c != 65279) = true := bne_iff_ne.2 (by omega)
  simp [safeB, h1, h2, h3, h5, h6, h7]
theorem words_first {l : List Int} (h : wordsB l) : 97 ≤ nth l 0 ∧ nth l 0 ≤ 122 := by
  rcases h.2 0 h.1 with h1 | h1
  · exact h1
  · omega
theorem words_last {l : List Int} (h : wordsB l) : 97 ≤ nth l (l.length - 1) ∧ nth l (l.length - 1) ≤ 122 := by
  have h0 := h.1
  rcases h.2 (l.length - 1) (by omega) with h1 | h1
  · exact h1
  · omega
theorem words_no {l : List Int} (h : wordsB l) {i : Nat} (hi : i < l.length) : (nth l i == 58) = false ∧ (nth l i == 35) = false ∧ flowB (nth l i) = false := by
  rcases h.2 i hi with h1 | h1
  · exact ⟨beq_eq_false_iff_ne.2 (by omega), beq_eq_false_iff_ne.2 (by omega), (letter_facts h1).2.2.1⟩
  · rw [h1.1]; exact ⟨rfl, rfl, rfl⟩
theorem words_beg {l : List Int} (h : wordsB l) (t : List Int) (f : Bool) : begB (l ++ t) f = true := by
  have h0 := h.1
  obtain ⟨a, b, c, d⟩ := letter_facts (words_first h)
  have hf := words_first h
  have e : nth (l ++ t) 0 = nth l 0 := nth_left h0
  have hs : safeAt (l ++ t) 0 f = true := by rw [safeAt, e, a f, Bool.and_true, decide_eq_true_eq, List.length_append]; omega
  rw [begB, if_neg (by rw [hs]; simp), e, if_neg (by omega), d]; rfl
theorem words_hit {l : List Int} (h : wordsB l) (t : List Int) (f : Bool) {i : Nat} (hi : i < l.length) : hit (l ++ t) f i = false := by
  obtain ⟨a, b, c⟩ := words_no h hi
  rw [hit, nth_left hi, a, b, c]; simp
theorem tail_hit {l : List Int} (h : wordsB l) (t : List Int) (f : Bool) (i : Nat) : hit (l ++ t) f (l.length + i) = hit t f i := by
  have h0 := h.1
  have e1 : safeAt (l ++ t) (l.length + i + 1) f = safeAt t (i + 1) f := by
    rw [safeAt, safeAt, Nat.add_assoc, nth_right, List.length_append]
    congr 1
    rw [Bool.eq_iff_iff]; simp only [decide_eq_true_eq]; omega
  rw [hit, hit, nth_right, e1]
  by_cases hi : 0 < i
  · have e2 : l.length + i - 1 = l.length + (i - 1) := by omega
    rw [e2, nth_right, decide_eq_true (show 0 < l.length + i by omega), decide_eq_true hi]
  · obtain rfl : i = 0 := by omega
    have e2 : nth (l ++ t) (l.length + 0 - 1) = nth l (l.length - 1) := nth_left (by omega)
    rw [e2, (letter_facts (words_last h)).2.1]
    simp
theorem words_stop {l : List Int} (h : wordsB l) (t : List Int) (f : Bool) : stopN (l ++ t) f = l.length + stopN t f := by
  obtain ⟨s1, s2, s3⟩ := stop_spec t f
  refine (stop_eq (by rw [List.length_append]; omega) (fun j hj => ?_) (fun hlt => ?_)).symm
  · by_cases hl : j < l.length
    · exact words_hit h t f hl
    · obtain ⟨i, rfl⟩ : ∃ i, j = l.length + i := ⟨j - l.length, by omega⟩
      rw [tail_hit h]; exact s2 i (by omega)
  · rw [tail_hit h]; exact s3 (by rw [List.length_append] at hlt; omega)
theorem words_trim {l : List Int} (h : wordsB l) (t : List Int) : ∀ m, trimN (l ++ t) (l.length + m) = l.length + trimN t m
  | 0 => by
    have h0 := h.1
    obtain ⟨n, hn⟩ : ∃ n, l.length = n + 1 := ⟨l.length - 1, by omega⟩
    have hb := (letter_facts (words_last h)).2.1
    have e : trimN (l ++ t) (n + 1) = n + 1 := by
      rw [trimN, if_neg]
      rw [nth_left (by omega)]
      rw [show l.length - 1 = n by omega] at hb
      rw [hb]; simp
    have e0 : trimN t 0 = 0 := rfl
    rw [Nat.add_zero, hn, e, e0]
  | m + 1 => by
    rw [← Nat.add_assoc, trimN, trimN, nth_right]
    split
    · exact words_trim h t m
    · omega
theorem words_end {l : List Int} (h : wordsB l) (t : List Int) (f : Bool) : endN (l ++ t) f = l.length + endN t f := by
  rw [endN, words_stop h, words_trim h]; rfl
theorem words_key {l : List Int} (h : wordsB l) (t : List Int) (f : Bool) : keyI (l ++ t) f = if keyI t f < 0 then -1 else (l.length : Int) + keyI t f := by
  rw [keyI, keyI, words_stop h, nth_right, List.length_append]
  by_cases hc : stopN t f < t.length ∧ nth t (stopN t f) = 58
  · rw [if_pos ⟨by omega, hc.2⟩, if_pos hc, if_neg (by omega)]; omega
  · rw [if_neg (fun c => hc ⟨by omega, c.2⟩), if_neg hc, if_pos (by omega)]
end Go.Proofs.Ytifhnjaeegmfkaa
