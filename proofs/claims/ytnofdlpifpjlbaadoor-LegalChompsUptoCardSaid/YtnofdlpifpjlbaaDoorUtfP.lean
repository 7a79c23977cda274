/- The decoding of UTF-8 as the reference does it, beside the model's own. No condition. -/
import Derived.Test.YtnofdlpifpjlbaaDoorAux
import Derived.Lib.DecodeN
import Derived.Lib.ValidU
namespace Go.Proofs.YtnofdlpifpjlbaaDoor
open Go.Lib
/-- The code point that begins at a place, and its bytes (0: none does). -/
def ptAt (s : ByteArray) (i : Nat) : Nat × Nat := if Utf8.decode s i = (65533, 1) then (0, 0) else Utf8.decode s i
def goodC (c : Nat) : Prop := c < 55296 ∨ (57344 ≤ c ∧ c ≤ 1114111)
instance (c : Nat) : Decidable (goodC c) := inferInstanceAs (Decidable (_ ∨ _))
theorem dec1 {L b0 b1 b2 b3 : Nat} (h : b0 < 128) : decodeN L b0 b1 b2 b3 = (b0, 1) := by unfold decodeN; rw [if_pos h]
theorem dec0 {L b0 b1 b2 b3 : Nat} (h : (128 ≤ b0 ∧ b0 < 194) ∨ 245 ≤ b0) (h0 : b0 < 256) : decodeN L b0 b1 b2 b3 = (65533, 1) := by
  unfold decodeN
  rw [if_neg (by omega)]
  by_cases a : b0 / 32 = 6 ∧ 1 < L ∧ b1 / 64 = 2
  · rw [if_pos a, if_neg (by omega)]
  · rw [if_neg a]
    rw [if_neg (by omega)]
    by_cases c : b0 / 8 = 30 ∧ (1 < L ∧ b1 / 64 = 2) ∧ (2 < L ∧ b2 / 64 = 2) ∧ (3 < L ∧ b3 / 64 = 2)
    · rw [if_pos c, if_neg (by omega)]
    · rw [if_neg c]
theorem dec2 {L b0 b1 b2 b3 : Nat} (h : 194 ≤ b0 ∧ b0 < 224) : decodeN L b0 b1 b2 b3 = if 1 < L ∧ b1 / 64 = 2 then (if b0 % 32 * 64 + b1 % 64 ≥ 128 ∧ goodC (b0 % 32 * 64 + b1 % 64) then (b0 % 32 * 64 + b1 % 64, 2) else (65533, 1)) else (65533, 1) := by
  unfold decodeN goodC
  rw [if_neg (by omega)]
  by_cases a : 1 < L ∧ b1 / 64 = 2
  · rw [if_pos ⟨by omega, a⟩, if_pos a, if_pos (by omega), if_pos (by omega)]
  · rw [if_neg (fun k => a k.2), if_neg (by omega), if_neg (by omega), if_neg a]
theorem dec3 {L b0 b1 b2 b3 : Nat} (h : 224 ≤ b0 ∧ b0 < 240) : decodeN L b0 b1 b2 b3 = if (1 < L ∧ b1 / 64 = 2) ∧ (2 < L ∧ b2 / 64 = 2) then
    (if b0 % 16 * 4096 + b1 % 64 * 64 + b2 % 64 ≥ 2048 ∧ goodC (b0 % 16 * 4096 + b1 % 64 * 64 + b2 % 64) then (b0 % 16 * 4096 + b1 % 64 * 64 + b2 % 64, 3) else (65533, 1)) else (65533, 1) := by
  unfold decodeN goodC
  rw [if_neg (by omega), if_neg (by omega)]
  by_cases a : (1 < L ∧ b1 / 64 = 2) ∧ (2 < L ∧ b2 / 64 = 2)
  · rw [if_pos ⟨by omega, a⟩, if_pos a]
    generalize b0 % 16 * 4096 + b1 % 64 * 64 + b2 % 64 = x
    by_cases q : x ≥ 2048 ∧ (x < 55296 ∨ (57344 ≤ x ∧ x ≤ 1114111))
    · rw [if_pos q, if_pos q]
    · rw [if_neg q, if_neg q]
  · rw [if_neg (fun k => a k.2), if_neg (by omega), if_neg a]
theorem dec4 {L b0 b1 b2 b3 : Nat} (h : 240 ≤ b0 ∧ b0 < 245) : decodeN L b0 b1 b2 b3 = if (1 < L ∧ b1 / 64 = 2) ∧ (2 < L ∧ b2 / 64 = 2) ∧ (3 < L ∧ b3 / 64 = 2) then
    (if b0 % 8 * 262144 + b1 % 64 * 4096 + b2 % 64 * 64 + b3 % 64 ≥ 65536 ∧ goodC (b0 % 8 * 262144 + b1 % 64 * 4096 + b2 % 64 * 64 + b3 % 64) then (b0 % 8 * 262144 + b1 % 64 * 4096 + b2 % 64 * 64 + b3 % 64, 4) else (65533, 1)) else (65533, 1) := by
  unfold decodeN goodC
  rw [if_neg (by omega), if_neg (by omega), if_neg (by omega)]
  by_cases a : (1 < L ∧ b1 / 64 = 2) ∧ (2 < L ∧ b2 / 64 = 2) ∧ (3 < L ∧ b3 / 64 = 2)
  · rw [if_pos ⟨by omega, a⟩, if_pos a]
    generalize b0 % 8 * 262144 + b1 % 64 * 4096 + b2 % 64 * 64 + b3 % 64 = x
    by_cases q : x ≥ 65536 ∧ (x < 55296 ∨ (57344 ≤ x ∧ x ≤ 1114111))
    · rw [if_pos q, if_pos q]
    · rw [if_neg q, if_neg q]
  · rw [if_neg (fun k => a k.2), if_neg a]
end Go.Proofs.YtnofdlpifpjlbaaDoor
