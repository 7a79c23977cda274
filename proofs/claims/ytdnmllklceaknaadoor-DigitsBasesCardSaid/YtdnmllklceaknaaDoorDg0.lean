/- The plain mathematics of the digits: the values of lists of digits, and their decimal texts. No condition. -/
import Derived.Test.YtdnmllklceaknaaDoorHex
namespace Go.Proofs.YtdnmllklceaknaaDoor
namespace Dig
/-- The value of digits, the last one (the smallest) first. -/
def val : List Nat → Nat
  | [] => 0
  | d :: l => d + 10 * val l
/-- Are all of them digits? -/
def Ok (l : List Nat) : Prop := ∀ d ∈ l, d < 10
/-- The decimal text of a number, bytes, the greatest digit first. -/
def decRev (fuel n : Nat) : List Nat :=
  match fuel with
  | 0 => []
  | fuel + 1 => if n < 10 then [n] else n % 10 :: decRev fuel (n / 10)
def dec (n : Nat) : List Nat := (decRev (n + 1) n).reverse
theorem decRev_fuel (f : Nat) : ∀ (n : Nat), n < f → decRev f n = decRev (n + 1) n := by
  induction f using Nat.strongRecOn with
  | ind f ih =>
    intro n hn
    match f, hn with
    | f + 1, hn =>
      by_cases h : n < 10
      · simp [decRev, h]
      · simp only [decRev, h, if_false]
        congr 1
        rw [ih f (by omega) (n / 10) (by omega)]
        have : n / 10 < n := by omega
        by_cases hf : n < f + 1
        · rw [ih n (by omega) (n / 10) this]
        · omega
theorem decRev_val (f : Nat) : ∀ n, n < f → val (decRev f n) = n := by
  induction f with
  | zero => intro n h; omega
  | succ f ih =>
    intro n h
    unfold decRev
    split
    · simp [val]
    · simp only [val]
      rw [ih (n / 10) (by omega)]
      omega
theorem decRev_ok (f : Nat) : ∀ n, Ok (decRev f n) := by
  induction f with
  | zero => intro n d h; simp [decRev] at h
  | succ f ih =>
    intro n
    unfold decRev
    split
    · intro d h; simp at h; omega
    · intro d h
      simp at h
      rcases h with h | h
      · omega
      · exact ih _ d h
/-- Canonical: no nought at the great end, but for "0" itself. -/
def Canon (l : List Nat) : Prop := l ≠ [] ∧ (l.length = 1 ∨ l.getLast? ≠ some 0)
theorem val_pos_of_last {l : List Nat} (h : l ≠ []) (hl : l.getLast? ≠ some 0) : 0 < val l := by
  induction l with
  | nil => exact absurd rfl h
  | cons d l ih =>
    match l, ih, hl with
    | [], _, hl => simp at hl; simp [val]; omega
    | e :: l, ih, hl =>
      have := ih (by simp) (by simpa using hl)
      simp only [val] at this ⊢
      omega
theorem canon_dec (l : List Nat) (ho : Ok l) (hc : Canon l) (f : Nat) (hf : val l < f) : decRev f (val l) = l := by
  induction l generalizing f with
  | nil => exact absurd rfl hc.1
  | cons d l ih =>
    have hd : d < 10 := ho d (by simp)
    match f, hf with
    | f + 1, hf =>
      by_cases hl : l = []
      · subst hl
        simp [val, decRev, hd]
      · have hlast : l.getLast? ≠ some 0 := by
          rcases hc.2 with h | h
          · simp at h; exact absurd h hl
          · rwa [List.getLast?_cons_of_ne_nil hl] at h
        have hp := val_pos_of_last hl hlast
        simp only [val] at hf ⊢
        have h1 : ¬ d + 10 * val l < 10 := by omega
        have h2 : (d + 10 * val l) % 10 = d := by omega
        have h3 : (d + 10 * val l) / 10 = val l := by omega
        simp only [decRev, h1, if_false, h2, h3]
        rw [ih (fun x hx => ho x (by simp [hx])) ⟨hl, .inr hlast⟩ f (by omega)]
end Dig
namespace Dig
theorem val_append (a b : List Nat) : val (a ++ b) = val a + 10 ^ a.length * val b := by
  induction a with
  | nil => simp [val]
  | cons d a ih =>
    have h : 10 ^ a.length * 10 * val b = 10 * (10 ^ a.length * val b) := by rw [Nat.mul_comm (10 ^ a.length) 10, Nat.mul_assoc]
    simp only [List.cons_append, val, ih, List.length_cons, Nat.pow_succ]
    rw [h]
    omega
theorem ok_append {a b : List Nat} (ha : Ok a) (hb : Ok b) : Ok (a ++ b) := by
  intro d h; simp at h; rcases h with h | h; exact ha d h; exact hb d h
theorem ok_take {a : List Nat} (ha : Ok a) (n : Nat) : Ok (a.take n) := fun d h => ha d (List.mem_of_mem_take h)
/-- The digits without the noughts at their great end, but for one that is the only digit. -/
def strip (l : List Nat) : List Nat := match l.reverse.dropWhile (· == 0) with | [] => [0] | x => x.reverse
theorem dropWhile_last {l : List Nat} (h : l.dropWhile (· == 0) ≠ []) : (l.dropWhile (· == 0)).head? ≠ some 0 := by
  induction l with
  | nil => simp at h
  | cons d l ih =>
    rw [List.dropWhile_cons] at h ⊢
    split
    · rename_i hd; rw [if_pos hd] at h; exact ih h
    · rename_i hd; simpa using hd
theorem drop_nil {l : List Nat} (h : l.dropWhile (· == 0) = []) : ∀ d ∈ l, d = 0 := by
  induction l with
  | nil => intro d hd; simp at hd
  | cons e l ih =>
    rw [List.dropWhile_cons] at h
    split at h
    · rename_i he
      intro d hd
      rcases List.mem_cons.1 hd with rfl | hd
      · simpa using he
      · exact ih h d hd
    · simp at h
theorem val_zeros (l : List Nat) (h : l.reverse.dropWhile (· == 0) = []) : val l = 0 := by
  have h0 : ∀ d ∈ l, d = 0 := by
    intro d hd
    have : d ∈ l.reverse := by simpa using hd
    exact drop_nil h d this
  clear h
  induction l with
  | nil => rfl
  | cons d l ih => simp only [val]; rw [h0 d (by simp), ih (fun x hx => h0 x (by simp [hx]))]
theorem val_rev_drop (l : List Nat) : val (l.dropWhile (· == 0)).reverse = val l.reverse := by
  induction l with
  | nil => rfl
  | cons d l ih =>
    rw [List.dropWhile_cons]
    split
    · rename_i hd
      have : d = 0 := by simpa using hd
      subst this
      rw [ih, List.reverse_cons, val_append]
      simp [val]
    · rfl
theorem strip_val (l : List Nat) : val (strip l) = val l := by
  unfold strip
  split
  · rename_i h; rw [val_zeros l h]; rfl
  · rename_i x hx
    have := val_rev_drop l.reverse
    rw [List.reverse_reverse] at this
    exact this
theorem strip_ok {l : List Nat} (h : Ok l) : Ok (strip l) := by
  unfold strip
  split
  · intro d hd; simp at hd; omega
  · intro d hd
    have hd' : d ∈ l.reverse.dropWhile (· == 0) := by simpa using hd
    have := (List.dropWhile_sublist (p := (· == 0)) (l := l.reverse)).mem hd'
    exact h d (by simpa using this)
theorem strip_canon (l : List Nat) : Canon (strip l) := by
  unfold strip
  split
  · exact ⟨by simp, .inl rfl⟩
  · rename_i hx
    refine ⟨by simpa using hx, .inr ?_⟩
    rw [List.getLast?_reverse]
    exact dropWhile_last hx
theorem strip_dec {l : List Nat} (h : Ok l) : (strip l).reverse = dec (val l) := by
  unfold dec
  have := canon_dec (strip l) (strip_ok h) (strip_canon l) (val l + 1) (by rw [strip_val]; omega)
  rw [strip_val] at this
  rw [this]
end Dig
end Go.Proofs.YtdnmllklceaknaaDoor
