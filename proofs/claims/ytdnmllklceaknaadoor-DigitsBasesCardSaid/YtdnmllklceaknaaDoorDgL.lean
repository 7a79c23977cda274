/- The walks of the laws on digits. No condition. -/
import Derived.Test.YtdnmllklceaknaaDoorDgA
namespace Go.Proofs.YtdnmllklceaknaaDoor
open Go.RowKit
open Dig
theorem alive4_any (w : World) : Calls Tryd.prog 8 #[] w fun e w' => e = .returned (.bool true) ∧ Below w.heap.size w w' := by
  have hP := Plain_any ⟨#[102, 102]⟩ 16 w (by decide)
  rw [show plainS ⟨#[102, 102]⟩ 16 = ⟨#[50, 53, 53]⟩ from by decide +kernel, show plainOk ⟨#[102, 102]⟩ 16 = true from by decide +kernel] at hP
  go_enter Tryd.func8, Tryd.ntmps8
  go_wp2_with fail
  refine hP.mono ?_
  rintro e w1 ⟨rfl, hb1⟩
  go_wp2_with fail
  go_ret
  exact ⟨rfl, hb1⟩
set_option maxHeartbeats 1000000 in
theorem digitsSums_walk (a : ByteArray) (ha : a.size ≤ maxLen) (b : ByteArray) (hb : b.size ≤ maxLen) (n : Int) (_wn : (Lit.int .i64 n).wf = true) (w : World) :
    Calls Tryd.prog 5 #[.string a, .string b, .int .i64 n] w fun e w' => e = .returned (.bool true) ∧ Below w.heap.size w w' := by
  have HA : Hid (a.size ≤ maxLen) := ha
  have HB : Hid (b.size ≤ maxLen) := hb
  unfold maxLen at ha hb
  go_enter Tryd.func5, Tryd.ntmps5
  go_wp2_with fail
  refine (alive4_any _).mono ?_
  rintro e w1 ⟨rfl, hb1⟩
  by_cases h1 : 200 < a.size
  · have h1' : (200 : Int) < (a.size : Int) := by omega
    go_wp2_with fail
    go_ret
    exact ⟨rfl, hb1⟩
  · have h1' : ¬ (200 : Int) < (a.size : Int) := by omega
    by_cases h2 : 200 < b.size
    · have h2' : (200 : Int) < (b.size : Int) := by omega
      go_wp2_with fail
      go_ret
      exact ⟨rfl, hb1⟩
    · have h2' : ¬ (200 : Int) < (b.size : Int) := by omega
      go_wp2_with fail
      refine (Add_any a b w1 HA.out HB.out).mono ?_
      rintro e w2 ⟨rfl, hb2⟩
      have hb2 := below_then hb1 hb2
      go_wp2_with fail
      refine (RAdd_any a b w2 HA.out HB.out).mono ?_
      rintro e w3 ⟨rfl, hb3⟩
      have hb3 := below_then hb2 hb3
      go_wp2_with fail
      refine (Less_any a b w3 HA.out HB.out).mono ?_
      rintro e w4 ⟨rfl, hb4⟩
      have hb4 := below_then hb3 hb4
      go_wp2_with fail
      refine (RLess_any a b w4 HA.out HB.out).mono ?_
      rintro e w5 ⟨rfl, hb5⟩
      have hb5 := below_then hb4 hb5
      go_wp2_with fail
      refine (Times_any a n w5 HA.out).mono ?_
      rintro e w6 ⟨rfl, hb6⟩
      have hb6 := below_then hb5 hb6
      go_wp2_with fail
      refine (RTimes_any a n w6 HA.out).mono ?_
      rintro e w7 ⟨rfl, hb7⟩
      have hb7 := below_then hb6 hb7
      go_wp2_with fail
      go_ret
      exact ⟨rfl, hb7⟩
set_option maxRecDepth 100000 in
set_option maxHeartbeats 1000000 in
theorem digitsPlain_walk (s : ByteArray) (hs : s.size ≤ maxLen) (base : Int) (_wn : (Lit.int .i64 base).wf = true) (w : World) :
    Calls Tryd.prog 3 #[.string s, .int .i64 base] w fun e w' => e = .returned (.bool true) ∧ Below w.heap.size w w' := by
  have HA : Hid (s.size ≤ maxLen) := hs
  unfold maxLen at hs
  go_enter Tryd.func3, Tryd.ntmps3
  go_wp2_with fail
  refine (alive4_any _).mono ?_
  rintro e w1 ⟨rfl, hb1⟩
  have hc : (300 < s.size ∧ s.size < 4990) ∨ 5010 < s.size ∨ (s.size ≤ 300) ∨ (4990 ≤ s.size ∧ s.size ≤ 5010) := by omega
  rcases hc with ⟨h1, h2⟩ | h3 | h1 | ⟨h1, h2⟩
  · have h1' : (300 : Int) < (s.size : Int) := by omega
    have h2' : (s.size : Int) < 4990 := by omega
    go_wp2_with fail
    go_ret
    exact ⟨rfl, hb1⟩
  · have h1' : (300 : Int) < (s.size : Int) := by omega
    have h2' : ¬ (s.size : Int) < 4990 := by omega
    have h3' : (5010 : Int) < (s.size : Int) := by omega
    go_wp2_with fail
    go_ret
    exact ⟨rfl, hb1⟩
  · have h1' : ¬ (300 : Int) < (s.size : Int) := by omega
    have h3' : ¬ (5010 : Int) < (s.size : Int) := by omega
    go_wp2_with fail
    refine (Plain_any s base w1 HA.out).mono ?_
    rintro e w2 ⟨rfl, hb2⟩
    have hb2 := below_then hb1 hb2
    go_wp2_with fail
    refine (RPlain_any s base w2 HA.out).mono ?_
    rintro e w3 ⟨rfl, hb3⟩
    have hb3 := below_then hb2 hb3
    go_wp2_with fail
    go_ret
    exact ⟨rfl, hb3⟩
  · have h1' : (300 : Int) < (s.size : Int) := by omega
    have h2' : ¬ (s.size : Int) < 4990 := by omega
    have h3' : ¬ (5010 : Int) < (s.size : Int) := by omega
    go_wp2_with fail
    refine (Plain_any s base w1 HA.out).mono ?_
    rintro e w2 ⟨rfl, hb2⟩
    have hb2 := below_then hb1 hb2
    go_wp2_with fail
    refine (RPlain_any s base w2 HA.out).mono ?_
    rintro e w3 ⟨rfl, hb3⟩
    have hb3 := below_then hb2 hb3
    go_wp2_with fail
    go_ret
    exact ⟨rfl, hb3⟩
end Go.Proofs.YtdnmllklceaknaaDoor
