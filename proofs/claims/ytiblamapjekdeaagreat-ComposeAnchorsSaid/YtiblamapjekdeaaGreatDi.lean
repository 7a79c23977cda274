/- The reference's Digits at small numbers. Condition: a number below 100. -/
import Derived.Test.YtiblamapjekdeaaGreatOpen
import Derived.Lib.Strings
namespace Go.Proofs.YtiblamapjekdeaaGreat
open Go.RowKit
def dig1 (i : Nat) : ByteArray := (⟨#[48, 49, 50, 51, 52, 53, 54, 55, 56, 57]⟩ : ByteArray).extract i (i + 1)
def digS (i : Nat) : ByteArray := if i < 10 then dig1 i else dig1 (i / 10) ++ dig1 (i % 10)
theorem dig1_size (i : Nat) : (dig1 i).size ≤ 1 := by rw [dig1, ByteArray.size_extract]; omega
theorem digS_size (i : Nat) : (digS i).size ≤ 2 := by
  have h1 := dig1_size i
  have h2 := dig1_size (i / 10)
  have h3 := dig1_size (i % 10)
  unfold digS
  split
  · omega
  · rw [ByteArray.size_append]; omega
theorem digit_any (i : Nat) (hi : i < 10) (w : World) : Calls Tryz.prog 14 #[.int .i64 (i : Int)] w fun e w' => e = .returned (.string (dig1 i)) ∧ w = w' := by
  have hr : Int.tmod (i : Int) 10 = (i : Int) := Int.tmod_eq_of_lt (by omega) (by omega)
  have h9 : ¬ (9 : Int) < (i : Int) := by omega
  have e1 : (0 : Int) ≤ (i : Int) := by omega
  have e2 : (i : Int) ≤ (i : Int) + 1 := by omega
  have e3 : (i : Int) + 1 ≤ 10 := by omega
  go_enter Tryz.func14, Tryz.ntmps14
  go_wp2
  go_ret
  exact ⟨rfl, rfl⟩
theorem Digits_any (i : Nat) (hi : i < 100) (w : World) : Calls Tryz.prog 14 #[.int .i64 (i : Int)] w fun e w' => e = .returned (.string (digS i)) ∧ w = w' := by
  by_cases h10 : i < 10
  · rw [digS, if_pos h10]; exact digit_any i h10 w
  · obtain ⟨q, hq⟩ : ∃ q : Nat, i / 10 = q := ⟨_, rfl⟩
    obtain ⟨r, hr⟩ : ∃ r : Nat, i % 10 = r := ⟨_, rfl⟩
    have hS : digS i = dig1 q ++ dig1 r := by rw [digS, if_neg h10, hq, hr]
    have hrr : Int.tmod (i : Int) 10 = (r : Int) := by rw [Int.tmod_eq_emod_of_nonneg (by omega)]; omega
    have hqq : Int.tdiv (i : Int) 10 = (q : Int) := by rw [Int.tdiv_eq_ediv_of_nonneg (by omega)]; omega
    have hr10 : r < 10 := by omega
    have HD := Lib.hid (digit_any q (by omega) w)
    have h9 : (9 : Int) < (i : Int) := by omega
    have hw : wrap64 (q : Int) = q := IntWalk.wrap64_in _ (by omega)
    have e1 : (0 : Int) ≤ (r : Int) := by omega
    have e2 : (r : Int) ≤ (r : Int) + 1 := by omega
    have e3 : (r : Int) + 1 ≤ 10 := by omega
    have HS := Lib.hid hS
    clear hq hr hi h10 hS
    go_enter Tryz.func14, Tryz.ntmps14
    go_wp2_with (first
      | (go_at_call 14; refine HD.out.mono ?_; rintro e w1 ⟨rfl, rfl⟩; have hs := dig1_size q))
    go_ret
    exact ⟨by rw [HS.out]; rfl, rfl⟩
theorem and_1023 (z : Int) : ∃ v : Nat, v ≤ 1023 ∧ bits .and .i64 z 1023 = (v : Int) := by
  refine ⟨(BitVec.ofInt 64 z &&& BitVec.ofInt 64 1023).toNat, ?_, ?_⟩
  · rw [BitVec.toNat_and]
    exact Nat.le_trans Nat.and_le_right (by decide)
  · show IntKind.i64.wrap ((BitVec.ofInt 64 z &&& BitVec.ofInt 64 1023).toNat : Int) = _
    have h : (BitVec.ofInt 64 z &&& BitVec.ofInt 64 1023).toNat ≤ 1023 := by
      rw [BitVec.toNat_and]
      exact Nat.le_trans Nat.and_le_right (by decide)
    exact IntWalk.i64_in _ (by omega)
end Go.Proofs.YtiblamapjekdeaaGreat
