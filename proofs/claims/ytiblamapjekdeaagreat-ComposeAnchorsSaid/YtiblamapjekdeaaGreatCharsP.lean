/- The classes of code points as plain functions of a number. No condition. -/
import Derived.Test.YtiblamapjekdeaaGreatAux
namespace Go.Proofs.YtiblamapjekdeaaGreat
def printB (c : Int) : Bool := decide (c = 9 ∨ c = 10 ∨ c = 13 ∨ c = 133 ∨ (32 ≤ c ∧ c ≤ 126) ∨ (160 ≤ c ∧ c ≤ 55295) ∨ (57344 ≤ c ∧ c ≤ 65533) ∨ (65536 ≤ c ∧ c ≤ 1114111))
def blankB (c : Int) : Bool := decide (c = 32 ∨ c = 9)
def amongB (l : List UInt8) (c : Int) : Bool := l.any fun b => (b.toNat : Int) == c
def signsL : List UInt8 := [45, 63, 58, 44, 91, 93, 123, 125, 35, 38, 42, 33, 124, 62, 39, 34, 37, 64, 96]
def flowL : List UInt8 := [44, 91, 93, 123, 125]
def signB (c : Int) : Bool := amongB signsL c
def flowB (c : Int) : Bool := amongB flowL c
def nameB (c : Int) : Bool := printB c && !blankB c && c != 10 && c != 13 && c != 65279 && !flowB c
def wordB (c : Int) : Bool := decide ((48 ≤ c ∧ c ≤ 57) ∨ (97 ≤ c ∧ c ≤ 122) ∨ (65 ≤ c ∧ c ≤ 90) ∨ c = 45)
def hexI (c : Int) : Int := if 48 ≤ c ∧ c ≤ 57 then c - 48 else if 97 ≤ c ∧ c ≤ 102 then c - 87 else if 65 ≤ c ∧ c ≤ 70 then c - 55 else -1
theorem amongB_snoc (l : List UInt8) (b : UInt8) (c : Int) : amongB (l ++ [b]) c = (amongB l c || ((b.toNat : Int) == c)) := by simp [amongB]
theorem among_hit {s : ByteArray} {c : Int} {k : Nat} (hk : k < s.size) (h : ((s[k].toNat : Int)) = c) : amongB s.data.toList c = true := by
  unfold amongB
  rw [List.any_eq_true]
  exact ⟨s[k], by rw [← List.take_append_drop (k + 1) s.data.toList, take_snoc s k hk]; simp, by simpa using h⟩
theorem among_miss {s : ByteArray} {c : Int} {k : Nat} (hk : k < s.size) (hp : amongB (s.data.toList.take k) c = false) (h : ((s[k].toNat : Int) == c) = false) : amongB (s.data.toList.take (k + 1)) c = false := by
  rw [take_snoc s k hk, amongB_snoc, hp, h]; rfl
theorem flowB_iff (c : Int) : flowB c = true ↔ c = 44 ∨ c = 91 ∨ c = 93 ∨ c = 123 ∨ c = 125 := by
  simp [flowB, amongB, flowL]
  omega
theorem signB_iff (c : Int) : signB c = true ↔ c = 45 ∨ c = 63 ∨ c = 58 ∨ c = 44 ∨ c = 91 ∨ c = 93 ∨ c = 123 ∨ c = 125 ∨ c = 35 ∨ c = 38 ∨ c = 42 ∨ c = 33 ∨ c = 124 ∨ c = 62 ∨ c = 39 ∨ c = 34 ∨ c = 37 ∨ c = 64 ∨ c = 96 := by
  simp [signB, amongB, signsL]
  omega
theorem printB_iff (c : Int) : printB c = true ↔ (c = 9 ∨ c = 10 ∨ c = 13 ∨ c = 133 ∨ (32 ≤ c ∧ c ≤ 126) ∨ (160 ≤ c ∧ c ≤ 55295) ∨ (57344 ≤ c ∧ c ≤ 65533) ∨ (65536 ≤ c ∧ c ≤ 1114111)) := decide_eq_true_iff
theorem blankB_iff (c : Int) : blankB c = true ↔ (c = 32 ∨ c = 9) := decide_eq_true_iff
theorem wordB_iff (c : Int) : wordB c = true ↔ ((48 ≤ c ∧ c ≤ 57) ∨ (97 ≤ c ∧ c ≤ 122) ∨ (65 ≤ c ∧ c ≤ 90) ∨ c = 45) := decide_eq_true_iff
theorem nameB_iff (c : Int) : nameB c = true ↔ printB c = true ∧ blankB c = false ∧ c ≠ 10 ∧ c ≠ 13 ∧ c ≠ 65279 ∧ flowB c = false := by
  unfold nameB
  simp [and_assoc]
theorem bool_no {b : Bool} : b = false ↔ ¬ b = true := by cases b <;> simp
theorem word_name {c : Int} (h : wordB c = true) : nameB c = true := by
  rw [nameB_iff, bool_no, bool_no, printB_iff, blankB_iff, flowB_iff]
  rw [wordB_iff] at h
  omega
theorem flow_sign {c : Int} (h : flowB c = true) : signB c = true := by
  rw [flowB_iff] at h
  rw [signB_iff]
  omega
theorem hex_word {c : Int} (h : 0 ≤ hexI c) : wordB c = true ∧ hexI c < 16 := by
  rw [wordB_iff]
  unfold hexI at h ⊢
  split at h
  · rename_i h1; rw [if_pos h1]; omega
  · rename_i h1
    rw [if_neg h1]
    split at h
    · rename_i h2; rw [if_pos h2]; omega
    · rename_i h2
      rw [if_neg h2]
      split at h
      · rename_i h3; rw [if_pos h3]; omega
      · omega
end Go.Proofs.YtiblamapjekdeaaGreat
