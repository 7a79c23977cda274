/- What the functions on digits compute, as plain functions. No condition. -/
import Derived.Test.YtdnmllklceaknaaDoorDg0
import Derived.Test.YtdnmllklceaknaaDoorOpen
namespace Go.Proofs.YtdnmllklceaknaaDoor
open Dig
/-- The decimal text of a number. -/
def decS (n : Nat) : ByteArray := ⟨((dec n).map fun d => UInt8.ofNat (48 + d)).toArray⟩
def hexD (base : Int) (b : UInt8) : Bool := decide (0 ≤ hexI b.toNat ∧ hexI b.toNat < base)
def hexN (b : UInt8) : Nat := (hexI b.toNat).toNat
/-- The digits of a text in a base, the first one first; none: it is no number. -/
def hexL (s : ByteArray) (base : Int) : List Nat := if s.size ≠ 0 ∧ s.size ≤ 5000 ∧ (base = 8 ∨ base = 10 ∨ base = 16) ∧ s.data.toList.all (hexD base) = true then s.data.toList.map hexN else []
/-- The digits of a decimal text, the last one first. -/
def ofL (s : ByteArray) : List Nat := if s.size ≤ 5000 ∧ s.data.toList.all (hexD 10) = true then s.data.toList.reverse.map hexN else []
def valS (s : ByteArray) : Nat := val (ofL s)
def foldV (base : Nat) (l : List Nat) : Nat := l.foldl (fun v d => v * base + d) 0
def plainV (s : ByteArray) (base : Int) : Option Nat := match hexL s base with | [] => none | l => some (foldV base.toNat l)
def ints (l : List Nat) : List Int := l.map fun d : Nat => (d : Int)
theorem hexN_lt {b : UInt8} (h : hexD 10 b = true) : hexN b < 10 := by
  simp only [hexD, decide_eq_true_eq] at h; unfold hexN; omega
theorem hexI_ten (c : Int) : (0 ≤ hexI c ∧ hexI c < 10) ↔ (48 ≤ c ∧ c ≤ 57) := by
  unfold hexI
  by_cases h1 : 48 ≤ c ∧ c ≤ 57
  · rw [if_pos h1]; omega
  · rw [if_neg h1]
    by_cases h2 : 97 ≤ c ∧ c ≤ 102
    · rw [if_pos h2]; omega
    · rw [if_neg h2]
      by_cases h3 : 65 ≤ c ∧ c ≤ 70
      · rw [if_pos h3]; omega
      · rw [if_neg h3]; omega
theorem hexD_ten (b : UInt8) : hexD 10 b = decide (48 ≤ b.toNat ∧ b.toNat ≤ 57) := by
  rw [hexD, Bool.eq_iff_iff]; simp only [decide_eq_true_eq]; rw [hexI_ten]; omega
theorem hexN_ten {b : UInt8} (h : hexD 10 b = true) : (hexN b : Int) = (b.toNat : Int) - 48 := by
  rw [hexD_ten] at h; simp only [decide_eq_true_eq] at h
  simp only [hexN, hexI]; rw [if_pos (by omega)]; omega
theorem ofL_ok (s : ByteArray) : Ok (ofL s) := by
  unfold ofL
  split
  · rename_i h
    intro d hd
    simp only [List.mem_map, List.mem_reverse] at hd
    obtain ⟨b, hb, rfl⟩ := hd
    exact hexN_lt (List.all_eq_true.1 h.2 b hb)
  · intro d hd; cases hd
theorem ofL_len (s : ByteArray) : (ofL s).length ≤ 5000 := by
  unfold ofL
  split
  · rename_i h; simpa using h.1
  · simp
theorem ofL_nil {s : ByteArray} (h : s.size = 0) : ofL s = [] := by
  unfold ofL
  have : s.data.toList = [] := List.eq_nil_of_length_eq_zero (by simpa using h)
  simp [this]
theorem hexL_ten (s : ByteArray) : (hexL s 10).reverse = ofL s := by
  by_cases h0 : s.size = 0
  · rw [ofL_nil h0, hexL, if_neg (by simp [h0])]; rfl
  · unfold hexL ofL
    by_cases h : s.size ≤ 5000 ∧ s.data.toList.all (hexD 10) = true
    · rw [if_pos ⟨h0, h.1, .inr (.inl rfl), h.2⟩, if_pos h, List.map_reverse]
    · rw [if_neg (fun k => h ⟨k.2.1, k.2.2.2⟩), if_neg h]; rfl
theorem val_reverse (l : List Nat) : ∀ v, l.foldl (fun v d => v * 10 + d) v = val (l.reverse) + 10 ^ l.length * v := by
  induction l with
  | nil => intro v; simp [val]
  | cons d l ih =>
    intro v
    rw [List.foldl_cons, ih, List.reverse_cons, val_append]
    simp only [val, List.length_reverse, List.length_cons, Nat.pow_succ, Nat.mul_add, Nat.mul_zero, Nat.add_zero]
    have : 10 ^ l.length * (v * 10) = 10 ^ l.length * 10 * v := by rw [Nat.mul_comm v 10, Nat.mul_assoc]
    omega
theorem foldV_ten (l : List Nat) : foldV 10 l = val l.reverse := by rw [foldV, val_reverse]; omega
theorem foldV_snoc (b : Nat) (l : List Nat) (d : Nat) : foldV b (l ++ [d]) = foldV b l * b + d := by simp [foldV]
theorem valS_fold (s : ByteArray) : valS s = foldV 10 (hexL s 10) := by rw [foldV_ten, hexL_ten]; rfl
/-- The digit at a place, or nought. -/
def dig (l : List Nat) (i : Nat) : Nat := l.getD i 0
theorem val_drop (l : List Nat) (i : Nat) : val (l.drop i) = dig l i + 10 * val (l.drop (i + 1)) := by
  by_cases h : i < l.length
  · rw [List.drop_eq_getElem_cons h]; simp [val, dig, h]
  · rw [List.drop_eq_nil_of_le (by omega), List.drop_eq_nil_of_le (by omega)]
    simp [val, dig, List.getElem?_eq_none (Nat.le_of_not_lt h)]
theorem dig_lt {l : List Nat} (h : Ok l) (i : Nat) : dig l i < 10 := by
  unfold dig
  by_cases hi : i < l.length
  · simp only [List.getD_eq_getElem?_getD, List.getElem?_eq_getElem hi, Option.getD_some]; exact h _ (List.getElem_mem hi)
  · simp only [List.getD_eq_getElem?_getD, List.getElem?_eq_none (Nat.le_of_not_lt hi), Option.getD_none]; omega
theorem ok_snoc {o : List Nat} (h : Ok o) {d : Nat} (hd : d < 10) : Ok (o ++ [d]) := ok_append h (fun x hx => by simp at hx; omega)
theorem val_snoc (o : List Nat) (d : Nat) : val (o ++ [d]) = val o + 10 ^ o.length * d := by rw [val_append]; simp [val]
/-- What a loop that makes the digits of X knows: the digits made, what is carried, and what is yet to come. -/
structure MInv (X i : Nat) (o : List Nat) (more rest : Nat) : Prop where
  len : o.length = i
  ok : Ok o
  sum : val o + 10 ^ i * (more + rest) = X
theorem MInv.step {X i more rest rest' add : Nat} {o : List Nat} (h : MInv X i o more rest) (hr : rest = add + 10 * rest') : MInv X (i + 1) (o ++ [(more + add) % 10]) ((more + add) / 10) rest' := by
  refine ⟨by simp [h.len], ok_snoc h.ok (Nat.mod_lt _ (by omega)), ?_⟩
  rw [val_snoc, h.len, Nat.pow_succ, Nat.mul_assoc]
  have hs := h.sum
  rw [hr] at hs
  have e : more + (add + 10 * rest') = (more + add) % 10 + 10 * ((more + add) / 10 + rest') := by omega
  rw [e, Nat.mul_add] at hs
  omega
theorem MInv.done {X i : Nat} {o : List Nat} (h : MInv X i o 0 0) : val o = X := by have := h.sum; simpa using this
theorem ints_len (l : List Nat) : (ints l).length = l.length := by simp [ints]
theorem nth_ints (l : List Nat) (k : Nat) : nth (ints l) k = (dig l k : Int) := by
  simp only [nth, ints, dig, List.getD_eq_getElem?_getD, List.getElem?_map]
  cases l[k]? <;> simp
end Go.Proofs.YtdnmllklceaknaaDoor
