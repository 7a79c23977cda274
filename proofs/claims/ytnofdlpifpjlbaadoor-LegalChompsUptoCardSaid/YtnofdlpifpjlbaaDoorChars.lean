/- What each function of chars, and the reference's, returns: for every number, in every world. Condition: none (a text's size at most the greatest int). -/
import Derived.Test.YtnofdlpifpjlbaaDoorCharsP
namespace Go.Proofs.YtnofdlpifpjlbaaDoor
open Go.RowKit
set_option maxHeartbeats 1000000 in
theorem Print_any (c : Int) (w : World) : Calls Tryd.prog 38 #[.int .i64 c] w fun e w' => e = .returned (.bool (printB c)) ∧ w = w' := by
  go_enter Tryd.func38, Tryd.ntmps38
  go_wp2
  all_goals (go_ret; exact ⟨ret_bool (by rw [Bool.eq_iff_iff]; simp [printB]; try omega), rfl⟩)
set_option maxHeartbeats 1000000 in
theorem RPrint_any (c : Int) (w : World) : Calls Tryd.prog 30 #[.int .i64 c] w fun e w' => e = .returned (.bool (printB c)) ∧ w = w' := by
  go_enter Tryd.func30, Tryd.ntmps30
  go_wp2
  all_goals (go_ret; exact ⟨ret_bool (by rw [Bool.eq_iff_iff]; simp [printB]; try omega), rfl⟩)
theorem Blank_any (c : Int) (w : World) : Calls Tryd.prog 47 #[.int .i64 c] w fun e w' => e = .returned (.bool (blankB c)) ∧ w = w' := by
  go_enter Tryd.func47, Tryd.ntmps47
  go_wp2
  all_goals (go_ret; exact ⟨ret_bool (by rw [Bool.eq_iff_iff]; simp [blankB]; try omega), rfl⟩)
theorem RBlank_any (c : Int) (w : World) : Calls Tryd.prog 46 #[.int .i64 c] w fun e w' => e = .returned (.bool (blankB c)) ∧ w = w' := by
  go_enter Tryd.func46, Tryd.ntmps46
  go_wp2
  all_goals (go_ret; exact ⟨ret_bool (by rw [Bool.eq_iff_iff]; simp [blankB]; try omega), rfl⟩)
set_option maxHeartbeats 400000 in
theorem Ramong_any (s : ByteArray) (c : Int) (w : World) (hs : s.size ≤ maxLen) :
    Calls Tryd.prog 55 #[.string s, .int .i64 c] w fun e w' => e = .returned (.bool (amongB s.data.toList c)) ∧ w = w' := by
  unfold maxLen at hs
  go_enter Tryd.func55, Tryd.ntmps55
  go_wp2
  go_loop [5] (fun i => ∃ k : Nat, k ≤ s.size ∧ i = .int .i64 k ∧ Hid (amongB (s.data.toList.take k) c = false)) (fun i => s.size - (intOf i).toNat)
  case atStart => exact ⟨0, Nat.zero_le _, rfl, rfl⟩
  case round =>
    obtain ⟨k, hk, rfl, hm⟩ := hrel
    by_cases hlt : k < s.size
    · go_wp2
      · have hh : (wrap64 (s[k].toNat : Int) == c) = true := by assumption
        rw [wrap64_u8] at hh
        go_ret
        exact ⟨ret_bool (among_hit hlt (by simpa using hh)).symm, rfl⟩
      · have hh : (wrap64 (s[k].toNat : Int) == c) = false := by assumption
        rw [wrap64_u8] at hh
        go_round
        case rel => exact ⟨k + 1, by omega, by go_num, among_miss hlt hm.out hh⟩
        case measure => simp [intOf]; omega
    · go_wp2
      go_ret
      have hm' := hm.out
      rw [List.take_of_length_le (by simp; omega)] at hm'
      exact ⟨ret_bool hm'.symm, rfl⟩
set_option maxHeartbeats 400000 in
theorem among_any (s : ByteArray) (c : Int) (w : World) (hs : s.size ≤ maxLen) :
    Calls Tryd.prog 57 #[.string s, .int .i64 c] w fun e w' => e = .returned (.bool (amongB s.data.toList c)) ∧ Below w.heap.size w w' := by
  unfold maxLen at hs
  have hcv := fun w => run_bytes_of_string (P := Tryd.prog) w 9 29 5 s Tryd.underlying9 Tryd.underlying29 Tryd.underlying5
  go_enter Tryd.func57, Tryd.ntmps57
  go_wp2
  go_loop [10] (fun i => ∃ k : Nat, k ≤ s.size ∧ i = .int .i64 k ∧ Hid (amongB (s.data.toList.take k) c = false)) (fun i => s.size - (intOf i).toNat)
  case atStart => exact ⟨0, Nat.zero_le _, rfl, rfl⟩
  case round =>
    obtain ⟨k, hk, rfl, hm⟩ := hrel
    by_cases hlt : k < s.size
    · have hcell := bytesCell w s 5 hlt
      go_wp2
      · have hh : (wrap64 (s[k].toNat : Int) == c) = true := by assumption
        rw [wrap64_u8] at hh
        go_ret
        exact ⟨ret_bool (among_hit hlt (by simpa using hh)).symm, ((Below.refl _ _).alloc (Nat.le_refl _) _).drew⟩
      · have hh : (wrap64 (s[k].toNat : Int) == c) = false := by assumption
        rw [wrap64_u8] at hh
        go_round
        case rel => exact ⟨k + 1, by omega, by go_num, among_miss hlt hm.out hh⟩
        case measure => simp [intOf]; omega
    · go_wp2
      go_ret
      have hm' := hm.out
      rw [List.take_of_length_le (by simp; omega)] at hm'
      exact ⟨ret_bool hm'.symm, ((Below.refl _ _).alloc (Nat.le_refl _) _).drew⟩
theorem Sign_any (c : Int) (w : World) : Calls Tryd.prog 49 #[.int .i64 c] w fun e w' => e = .returned (.bool (signB c)) ∧ Below w.heap.size w w' := by
  have hc := among_any ⟨signsL.toArray⟩ c w (by decide)
  go_enter Tryd.func49, Tryd.ntmps49
  go_wp2_with (go_at_call 57; refine hc.mono ?_; rintro e w' ⟨rfl, hb⟩)
  go_ret
  exact ⟨rfl, hb⟩
theorem Flow_any (c : Int) (w : World) : Calls Tryd.prog 62 #[.int .i64 c] w fun e w' => e = .returned (.bool (flowB c)) ∧ Below w.heap.size w w' := by
  have hc := among_any ⟨flowL.toArray⟩ c w (by decide)
  go_enter Tryd.func62, Tryd.ntmps62
  go_wp2_with (go_at_call 57; refine hc.mono ?_; rintro e w' ⟨rfl, hb⟩)
  go_ret
  exact ⟨rfl, hb⟩
theorem RSign_any (c : Int) (w : World) : Calls Tryd.prog 44 #[.int .i64 c] w fun e w' => e = .returned (.bool (signB c)) ∧ w = w' := by
  have hc := Ramong_any ⟨signsL.toArray⟩ c w (by decide)
  go_enter Tryd.func44, Tryd.ntmps44
  go_wp2_with (go_at_call 55; refine hc.mono ?_; rintro e w' ⟨rfl, rfl⟩)
  go_ret
  exact ⟨rfl, rfl⟩
theorem RFlow_any (c : Int) (w : World) : Calls Tryd.prog 54 #[.int .i64 c] w fun e w' => e = .returned (.bool (flowB c)) ∧ w = w' := by
  have hc := Ramong_any ⟨flowL.toArray⟩ c w (by decide)
  go_enter Tryd.func54, Tryd.ntmps54
  go_wp2_with (go_at_call 55; refine hc.mono ?_; rintro e w' ⟨rfl, rfl⟩)
  go_ret
  exact ⟨rfl, rfl⟩
end Go.Proofs.YtnofdlpifpjlbaaDoor
