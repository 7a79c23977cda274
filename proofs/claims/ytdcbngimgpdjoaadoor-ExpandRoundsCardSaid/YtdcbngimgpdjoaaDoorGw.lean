/- Words and URI signs: what the functions return, in every world. No condition (a text's size at most the greatest int). -/
import Derived.Test.YtdcbngimgpdjoaaDoorHex
import Derived.Test.YtdcbngimgpdjoaaDoorOpen
namespace Go.Proofs.YtdcbngimgpdjoaaDoor
open Go.RowKit
set_option maxHeartbeats 400000 in
theorem Ramong_any (s : ByteArray) (c : Int) (w : World) (hs : s.size ≤ maxLen) :
    Calls Tryd.prog 86 #[.string s, .int .i64 c] w fun e w' => e = .returned (.bool (amongB s.data.toList c)) ∧ w = w' := by
  unfold maxLen at hs
  go_enter Tryd.func86, Tryd.ntmps86
  go_wp2
  go_loop [5] (fun i => ∃ k : Nat, k ≤ s.size ∧ i = .int .i64 k ∧ Hid (amongB (s.data.toList.take k) c = false)) (fun i => s.size - (intOf i).toNat)
  case atStart => exact ⟨0, Nat.zero_le _, rfl, rfl⟩
  case round =>
    obtain ⟨k, hk, rfl, hm⟩ := hrel
    by_cases hlt : k < s.size
    · go_wp2
      · have hh : (wrap64 (s[k].toNat : Int) == c) = true := by assumption
        rw [wrap64_u8] at hh
        go_ret
        exact ⟨ret_bool (among_hit hlt (by simpa using hh)).symm, rfl⟩
      · have hh : (wrap64 (s[k].toNat : Int) == c) = false := by assumption
        rw [wrap64_u8] at hh
        go_round
        case rel => exact ⟨k + 1, by omega, by go_num, among_miss hlt hm.out hh⟩
        case measure => simp [intOf]; omega
    · go_wp2
      go_ret
      have hm' := hm.out
      rw [List.take_of_length_le (by simp; omega)] at hm'
      exact ⟨ret_bool hm'.symm, rfl⟩
set_option maxHeartbeats 1000000 in
theorem Word_any (c : Int) (w : World) : Calls Tryd.prog 92 #[.int .i64 c] w fun e w' => e = .returned (.bool (wordB c)) ∧ w = w' := by
  go_enter Tryd.func92, Tryd.ntmps92
  go_wp2
  all_goals (go_ret; exact ⟨ret_bool (by rw [Bool.eq_iff_iff]; simp [wordB]; try omega), rfl⟩)
set_option maxHeartbeats 1000000 in
theorem RWord_any (c : Int) (w : World) : Calls Tryd.prog 85 #[.int .i64 c] w fun e w' => e = .returned (.bool (wordB c)) ∧ w = w' := by
  go_enter Tryd.func85, Tryd.ntmps85
  go_wp2
  all_goals (go_ret; exact ⟨ret_bool (by rw [Bool.eq_iff_iff]; simp [wordB]; try omega), rfl⟩)
/-- The URI signs that are no words. -/
def uriL : List UInt8 := [35, 59, 47, 63, 58, 64, 38, 61, 43, 36, 44, 95, 46, 33, 126, 42, 39, 40, 41, 91, 93]
/-- How many code points the URI sign at a list's beginning has. -/
def signN (l : List Int) : Nat :=
  if l.length = 0 then 0 else if nth l 0 = 37 then (if 2 < l.length ∧ 0 ≤ hexI (nth l 1) ∧ 0 ≤ hexI (nth l 2) then 3 else 0)
  else if wordB (nth l 0) = true ∨ amongB uriL (nth l 0) = true then 1 else 0
end Go.Proofs.YtdcbngimgpdjoaaDoor
