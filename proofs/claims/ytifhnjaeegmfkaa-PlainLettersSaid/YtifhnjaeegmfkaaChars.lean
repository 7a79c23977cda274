/- What each function of chars, and the reference's, returns: for every number, in every world. Condition: none (a text's size at most the greatest int). -/
import Derived.Test.YtifhnjaeegmfkaaCharsP
namespace Go.Proofs.Ytifhnjaeegmfkaa
open Go.RowKit
set_option maxHeartbeats 1000000 in
theorem Print_any (c : Int) (w : World) : Calls Try.prog 11 #[.int .i64 c] w fun e w' => e = .returned (.bool (printB c)) ∧ w = w' := by
  go_enter Try.func11, Try.ntmps11
  go_wp2
  all_goals (go_ret; exact ⟨ret_bool (by rw [Bool.eq_iff_iff]; simp [printB]; try omega), rfl⟩)
set_option maxHeartbeats 1000000 in
theorem RPrint_any (c : Int) (w : World) : Calls Try.prog 12 #[.int .i64 c] w fun e w' => e = .returned (.bool (printB c)) ∧ w = w' := by
  go_enter Try.func12, Try.ntmps12
  go_wp2
  all_goals (go_ret; exact ⟨ret_bool (by rw [Bool.eq_iff_iff]; simp [printB]; try omega), rfl⟩)
theorem Blank_any (c : Int) (w : World) : Calls Try.prog 13 #[.int .i64 c] w fun e w' => e = .returned (.bool (blankB c)) ∧ w = w' := by
  go_enter Try.func13, Try.ntmps13
  go_wp2
  all_goals (go_ret; exact ⟨ret_bool (by rw [Bool.eq_iff_iff]; simp [blankB]; try omega), rfl⟩)
theorem RBlank_any (c : Int) (w : World) : Calls Try.prog 37 #[.int .i64 c] w fun e w' => e = .returned (.bool (blankB c)) ∧ w = w' := by
  go_enter Try.func37, Try.ntmps37
  go_wp2
  all_goals (go_ret; exact ⟨ret_bool (by rw [Bool.eq_iff_iff]; simp [blankB]; try omega), rfl⟩)
set_option maxHeartbeats 400000 in
theorem Ramong_any (s : ByteArray) (c : Int) (w : World) (hs : s.size ≤ maxLen) :
    Calls Try.prog 36 #[.string s, .int .i64 c] w fun e w' => e = .returned (.bool (amongB s.data.toList c)) ∧ w = w' := by
  unfold maxLen at hs
  go_enter Try.func36, Try.ntmps36
  go_wp2
  go_loop [5] (fun i => ∃ k : Nat, k ≤ s.size ∧ i = .int .i64 k ∧ Hid (amongB (s.data.toList.take k) c = false)) (fun i => s.size - (intOf i).toNat)
  case atStart => exact ⟨0, Nat.zero_le _, rfl, rfl⟩
  case round =>
    obtain ⟨k, hk, rfl, hm⟩ := hrel
    by_cases hlt : k < s.size
    · go_wp2
      · have hh : (wrap64 (s[k].toNat : Int) == c) = true := by assumption
        rw [wrap64_u8] at hh
        go_ret
        exact ⟨ret_bool (among_hit hlt (by simpa using hh)).symm, rfl⟩
      · have hh : (wrap64 (s[k].toNat : Int) == c) = false := by assumption
        rw [wrap64_u8] at hh
        go_round
        case rel => exact ⟨k + 1, by omega, by go_num, among_miss hlt hm.out hh⟩
        case measure => simp [intOf]; omega
    · go_wp2
      go_ret
      have hm' := hm.out
      rw [List.take_of_length_le (by simp; omega)] at hm'
      exact ⟨ret_bool hm'.symm, rfl⟩
set_option maxHeartbeats 400000 in
theorem among_any (s : ByteArray) (c : Int) (w : World) (hs : s.size ≤ maxLen) :
    Calls Try.prog 35 #[.string s, .int .i64 c] w fun e w' => e = .returned (.bool (amongB s.data.toList c)) ∧ Below w.heap.size w w' := by
  unfold maxLen at hs
  have hcv := fun w => run_bytes_of_string (P := Try.prog) w 9 37 5 s Try.underlying9 Try.underlying37 Try.underlying5
  go_enter Try.func35, Try.ntmps35
  go_wp2
  go_loop [10] (fun i => ∃ k : Nat, k ≤ s.size ∧ i = .int .i64 k ∧ Hid (amongB (s.data.toList.take k) c = false)) (fun i => s.size - (intOf i).toNat)
  case atStart => exact ⟨0, Nat.zero_le _, rfl, rfl⟩
  case round =>
    obtain ⟨k, hk, rfl, hm⟩ := hrel
    by_cases hlt : k < s.size
    · have hcell := bytesCell w s 5 hlt
      go_wp2
      · have hh : (wrap64 (s[k].toNat : Int) == c) = true := by assumption
        rw [wrap64_u8] at hh
        go_ret
        exact ⟨ret_bool (among_hit hlt (by simpa using hh)).symm, ((Below.refl _ _).alloc (Nat.le_refl _) _).drew⟩
      · have hh : (wrap64 (s[k].toNat : Int) == c) = false := by assumption
        rw [wrap64_u8] at hh
        go_round
        case rel => exact ⟨k + 1, by omega, by go_num, among_miss hlt hm.out hh⟩
        case measure => simp [intOf]; omega
    · go_wp2
      go_ret
      have hm' := hm.out
      rw [List.take_of_length_le (by simp; omega)] at hm'
      exact ⟨ret_bool hm'.symm, ((Below.refl _ _).alloc (Nat.le_refl _) _).drew⟩
theorem Sign_any (c : Int) (w : World) : Calls Try.prog 14 #[.int .i64 c] w fun e w' => e = .returned (.bool (signB c)) ∧ Below w.heap.size w w' := by
  have hc := among_any ⟨signsL.toArray⟩ c w (by decide)
  go_enter Try.func14, Try.ntmps14
  go_wp2_with (go_at_call 35; refine hc.mono ?_; rintro e w' ⟨rfl, hb⟩)
  go_ret
  exact ⟨rfl, hb⟩
theorem Flow_any (c : Int) (w : World) : Calls Try.prog 16 #[.int .i64 c] w fun e w' => e = .returned (.bool (flowB c)) ∧ Below w.heap.size w w' := by
  have hc := among_any ⟨flowL.toArray⟩ c w (by decide)
  go_enter Try.func16, Try.ntmps16
  go_wp2_with (go_at_call 35; refine hc.mono ?_; rintro e w' ⟨rfl, hb⟩)
  go_ret
  exact ⟨rfl, hb⟩
theorem RSign_any (c : Int) (w : World) : Calls Try.prog 15 #[.int .i64 c] w fun e w' => e = .returned (.bool (signB c)) ∧ w = w' := by
  have hc := Ramong_any ⟨signsL.toArray⟩ c w (by decide)
  go_enter Try.func15, Try.ntmps15
  go_wp2_with (go_at_call 36; refine hc.mono ?_; rintro e w' ⟨rfl, rfl⟩)
  go_ret
  exact ⟨rfl, rfl⟩
theorem RFlow_any (c : Int) (w : World) : Calls Try.prog 17 #[.int .i64 c] w fun e w' => e = .returned (.bool (flowB c)) ∧ w = w' := by
  have hc := Ramong_any ⟨flowL.toArray⟩ c w (by decide)
  go_enter Try.func17, Try.ntmps17
  go_wp2_with (go_at_call 36; refine hc.mono ?_; rintro e w' ⟨rfl, rfl⟩)
  go_ret
  exact ⟨rfl, rfl⟩
set_option maxHeartbeats 1000000 in
theorem Name_any (c : Int) (w : World) : Calls Try.prog 18 #[.int .i64 c] w fun e w' => e = .returned (.bool (nameB c)) ∧ Below w.heap.size w w' := by
  have hc := Flow_any c w
  go_enter Try.func18, Try.ntmps18
  go_wp2_with (first | (go_at_call 11; refine (Print_any _ _).mono ?_; rintro e w' ⟨rfl, rfl⟩) | (go_at_call 13; refine (Blank_any _ _).mono ?_; rintro e w' ⟨rfl, rfl⟩) | (go_at_call 16; refine hc.mono ?_; rintro e w' ⟨rfl, hb⟩))
  all_goals (go_ret; exact ⟨ret_bool (by rw [Bool.eq_iff_iff]; simp_all [nameB]), by first | exact Below.refl _ _ | assumption⟩)
set_option maxHeartbeats 1000000 in
theorem RName_any (c : Int) (w : World) : Calls Try.prog 19 #[.int .i64 c] w fun e w' => e = .returned (.bool (nameB c)) ∧ w = w' := by
  go_enter Try.func19, Try.ntmps19
  go_wp2_with (first | (go_at_call 12; refine (RPrint_any _ _).mono ?_; rintro e w' ⟨rfl, rfl⟩) | (go_at_call 37; refine (RBlank_any _ _).mono ?_; rintro e w' ⟨rfl, rfl⟩) | (go_at_call 17; refine (RFlow_any _ _).mono ?_; rintro e w' ⟨rfl, rfl⟩))
  all_goals (go_ret; exact ⟨ret_bool (by rw [Bool.eq_iff_iff]; simp_all [nameB]), rfl⟩)
set_option maxHeartbeats 1000000 in
theorem Word_any (c : Int) (w : World) : Calls Try.prog 20 #[.int .i64 c] w fun e w' => e = .returned (.bool (wordB c)) ∧ w = w' := by
  go_enter Try.func20, Try.ntmps20
  go_wp2
  all_goals (go_ret; exact ⟨ret_bool (by rw [Bool.eq_iff_iff]; simp [wordB]; try omega), rfl⟩)
set_option maxHeartbeats 1000000 in
theorem RWord_any (c : Int) (w : World) : Calls Try.prog 21 #[.int .i64 c] w fun e w' => e = .returned (.bool (wordB c)) ∧ w = w' := by
  go_enter Try.func21, Try.ntmps21
  go_wp2
  all_goals (go_ret; exact ⟨ret_bool (by rw [Bool.eq_iff_iff]; simp [wordB]; try omega), rfl⟩)
set_option maxHeartbeats 1000000 in
theorem Hex_any (c : Int) (w : World) : Calls Try.prog 22 #[.int .i64 c] w fun e w' => e = .returned (.int .i64 (hexI c)) ∧ w = w' := by
  go_enter Try.func22, Try.ntmps22
  go_wp2
  all_goals (go_ret; exact ⟨ret_int (by simp [hexI]; try omega), rfl⟩)
set_option maxHeartbeats 1000000 in
theorem RHex_any (c : Int) (w : World) : Calls Try.prog 23 #[.int .i64 c] w fun e w' => e = .returned (.int .i64 (hexI c)) ∧ w = w' := by
  go_enter Try.func23, Try.ntmps23
  go_wp2
  all_goals (go_ret; exact ⟨ret_int (by simp [hexI]; try omega), rfl⟩)
end Go.Proofs.Ytifhnjaeegmfkaa
