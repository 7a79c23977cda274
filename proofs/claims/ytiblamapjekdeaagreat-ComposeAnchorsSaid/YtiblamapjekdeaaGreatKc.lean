/- What the reference's classes of code points return. Condition: a text's size is at most the greatest int. -/
import Derived.Test.YtiblamapjekdeaaGreatCharsP
import Derived.Test.YtiblamapjekdeaaGreatOpen
namespace Go.Proofs.YtiblamapjekdeaaGreat
open Go.RowKit
set_option maxHeartbeats 1000000 in
theorem RPrint_any (c : Int) (w : World) : Calls Tryz.prog 56 #[.int .i64 c] w fun e w' => e = .returned (.bool (printB c)) ∧ w = w' := by
  go_enter Tryz.func56, Tryz.ntmps56
  go_wp2
  all_goals (go_ret; exact ⟨ret_bool (by rw [Bool.eq_iff_iff]; simp [printB]; try omega), rfl⟩)
theorem RBlank_any (c : Int) (w : World) : Calls Tryz.prog 41 #[.int .i64 c] w fun e w' => e = .returned (.bool (blankB c)) ∧ w = w' := by
  go_enter Tryz.func41, Tryz.ntmps41
  go_wp2
  all_goals (go_ret; exact ⟨ret_bool (by rw [Bool.eq_iff_iff]; simp [blankB]; try omega), rfl⟩)
set_option maxHeartbeats 400000 in
theorem Ramong_any (s : ByteArray) (c : Int) (w : World) (hs : s.size ≤ maxLen) :
    Calls Tryz.prog 97 #[.string s, .int .i64 c] w fun e w' => e = .returned (.bool (amongB s.data.toList c)) ∧ w = w' := by
  unfold maxLen at hs
  go_enter Tryz.func97, Tryz.ntmps97
  go_wp2
  go_loop [5] (fun i => ∃ k : Nat, k ≤ s.size ∧ i = .int .i64 k ∧ Hid (amongB (s.data.toList.take k) c = false)) (fun i => s.size - (intOf i).toNat)
  case atStart => exact ⟨0, Nat.zero_le _, rfl, rfl⟩
  case round =>
    obtain ⟨k, hk, rfl, hm⟩ := hrel
    by_cases hlt : k < s.size
    · go_wp2
      · have hh : (wrap64 (s[k].toNat : Int) == c) = true := by assumption
        rw [wrap64_u8] at hh
        go_ret
        exact ⟨ret_bool (among_hit hlt (by simpa using hh)).symm, rfl⟩
      · have hh : (wrap64 (s[k].toNat : Int) == c) = false := by assumption
        rw [wrap64_u8] at hh
        go_round
        case rel => exact ⟨k + 1, by omega, by go_num, among_miss hlt hm.out hh⟩
        case measure => simp [intOf]; omega
    · go_wp2
      go_ret
      have hm' := hm.out
      rw [List.take_of_length_le (by simp; omega)] at hm'
      exact ⟨ret_bool hm'.symm, rfl⟩
theorem RFlow_any (c : Int) (w : World) : Calls Tryz.prog 81 #[.int .i64 c] w fun e w' => e = .returned (.bool (flowB c)) ∧ w = w' := by
  have hc := Ramong_any ⟨flowL.toArray⟩ c w (by decide)
  go_enter Tryz.func81, Tryz.ntmps81
  go_wp2_with (go_at_call 97; refine hc.mono ?_; rintro e w' ⟨rfl, rfl⟩)
  go_ret
  exact ⟨rfl, rfl⟩
set_option maxHeartbeats 1000000 in
theorem RName_any (c : Int) (w : World) : Calls Tryz.prog 62 #[.int .i64 c] w fun e w' => e = .returned (.bool (nameB c)) ∧ w = w' := by
  go_enter Tryz.func62, Tryz.ntmps62
  go_wp2_with (first | (go_at_call 56; refine (RPrint_any _ _).mono ?_; rintro e w' ⟨rfl, rfl⟩) | (go_at_call 41; refine (RBlank_any _ _).mono ?_; rintro e w' ⟨rfl, rfl⟩) | (go_at_call 81; refine (RFlow_any _ _).mono ?_; rintro e w' ⟨rfl, rfl⟩))
  all_goals (go_ret; exact ⟨ret_bool (by rw [Bool.eq_iff_iff]; simp_all [nameB]), rfl⟩)
/-- How many blanks stand at the beginning. -/
def pastN (l : List Int) : Nat := (l.takeWhile blankB).length
theorem pastN_zero {l : List Int} (h : l = [] ∨ blankB (nth l 0) = false) : pastN l = 0 := by
  cases l with
  | nil => rfl
  | cons a l =>
    have h1 : blankB a = false := by simpa [nth] using h
    simp [pastN, h1]
theorem pastN_one {a b : Int} {l : List Int} (h : blankB a = true) (h1 : blankB b = false) : pastN (a :: b :: l) = 1 := by simp [pastN, h, h1]
theorem pastN_eq {l : List Int} {k : Nat} (hk : k ≤ l.length) (h : ∀ j, j < k → blankB (nth l j) = true) (h1 : k = l.length ∨ blankB (nth l k) = false) : pastN l = k := by
  induction l generalizing k with
  | nil => simp at hk; subst hk; rfl
  | cons a l ih =>
    cases k with
    | zero => exact pastN_zero (.inr (h1.elim (fun h => by simp at h) id))
    | succ k =>
      have h0 : blankB a = true := by simpa [nth] using h 0 (by omega)
      have h2 := ih (k := k) (by simpa using hk) (fun j hj => by simpa [nth] using h (j + 1) (by omega)) (h1.imp (fun h => by simpa using h) (fun h => by simpa [nth] using h))
      unfold pastN at h2 ⊢
      rw [List.takeWhile_cons, h0]
      simpa using h2
set_option maxHeartbeats 1000000 in
theorem Past_any (A : Option Addr) (c : Nat) (l : List Int) (w : World) (hl : l.length ≤ 1000000000) (hI : IntsAt w w.heap.size A l) :
    Calls Tryz.prog 42 #[.slice A l.length c] w fun e w' => e = .returned (.int .i64 (pastN l : Nat)) ∧ w = w' := by
  have HI := Lib.hid hI
  have Hl := Lib.hid hl
  clear hI hl
  go_enter Tryz.func42, Tryz.ntmps42
  go_wp2
  go_loop [3] (fun i => ∃ k : Nat, k ≤ l.length ∧ i = .int .i64 (k : Int) ∧ Hid (∀ j, j < k → blankB (nth l j) = true)) (fun i => l.length - (intOf i).toNat)
  case atStart => exact ⟨0, Nat.zero_le _, rfl, fun j h => by omega⟩
  case round =>
    obtain ⟨k, hk, rfl, hm⟩ := hrel
    by_cases hlt : k < l.length
    · obtain ⟨b, o, hA, hbl, hc⟩ := HI.out (by omega)
      subst hA
      have hck := hc k hlt
      obtain ⟨z, hz⟩ : ∃ z, nth l k = z := ⟨_, rfl⟩
      rw [hz] at hck
      have hlt' : (k : Int) < (l.length : Int) := by omega
      have hlt2 : decide (k < l.length) = true := decide_eq_true hlt
      have Hlt := Lib.hid hlt
      have HW : Hid (wrap64 ((k : Int) + 1) = k + 1) := IntWalk.wrap64_in _ (by have := Hlt.out; have := Hl.out; omega)
      have hmz : ∀ y : Int, y = k + 1 → l.length - (intOf (.int .i64 y)).toNat < l.length - (intOf (.int .i64 (k : Int))).toNat := by intro y hy; subst hy; have := Hlt.out; simp only [intOf]; omega
      cases hb : blankB z with
      | true =>
        have HN : Hid (∀ j, j < k + 1 → blankB (nth l j) = true) := fun j hj => by
          by_cases e : j = k
          · subst e; rw [hz]; exact hb
          · exact hm.out j (by omega)
        have HB : Hid (∀ w, Calls Tryz.prog 41 #[.int .i64 z] w fun e w' => e = .returned (.bool true) ∧ w = w') := fun w => by rw [← hb]; exact RBlank_any z w
        clear hc hz hb hm hlt hk hbl
        go_wp2_with (go_at_call 41; refine (HB.out _).mono ?_; rintro e w' ⟨rfl, rfl⟩)
        first
          | exact ⟨⟨k + 1, Hlt.out, by simp, HN⟩, hmz _ rfl⟩
          | exact ⟨⟨k + 1, Hlt.out, congrArg (Value.int .i64) (HW.out.trans (by simp)), HN⟩, hmz _ HW.out⟩
      | false =>
        have HE : Hid (pastN l = k) := pastN_eq hk hm.out (.inr (by rw [hz]; exact hb))
        have HB : Hid (∀ w, Calls Tryz.prog 41 #[.int .i64 z] w fun e w' => e = .returned (.bool false) ∧ w = w') := fun w => by rw [← hb]; exact RBlank_any z w
        clear hc hz hb hm hlt hk hbl
        go_wp2_with (go_at_call 41; refine (HB.out _).mono ?_; rintro e w' ⟨rfl, rfl⟩)
        go_ret
        exact ⟨by rw [HE.out]; rfl, rfl⟩
    · obtain rfl : k = l.length := by omega
      have HE : Hid (pastN l = l.length) := pastN_eq hk hm.out (.inl rfl)
      have hlt' : ¬ (l.length : Int) < (l.length : Int) := by omega
      clear hm hlt hk
      go_wp2_with fail
      go_ret
      exact ⟨by rw [HE.out]; rfl, rfl⟩
end Go.Proofs.YtiblamapjekdeaaGreat
