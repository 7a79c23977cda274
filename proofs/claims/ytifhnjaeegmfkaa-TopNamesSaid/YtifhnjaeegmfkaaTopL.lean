/- The walk of TopNames: each number is what it is to be. No condition. -/
import Derived.Test.YtifhnjaeegmfkaaAux
import Derived.Deep.QuietTactic
import Derived.BigQuiet
import Derived.Deep.Draws
namespace Go.Proofs.Ytifhnjaeegmfkaa
open Go.RowKit
set_option maxHeartbeats 400000 in
theorem are_any (b n c : Nat) (f : Nat → Int) (hn : n ≤ 9223372036854775807) (w : World)
    (h0 : ∀ k, k < n → w.cell? ⟨b, k * 2, none⟩ = some (.int .i64 (f k))) (h1 : ∀ k, k < n → w.cell? ⟨b, k * 2 + 1, none⟩ = some (.int .i64 (f k))) :
    Calls Try.prog 43 #[.slice (some ⟨b, 0, none⟩) n c] w fun e w' => e = .returned (.bool true) ∧ ∃ m, w' = w.drewN m := by
  have H0 := Lib.hid h0
  have H1 := Lib.hid h1
  clear h0 h1
  go_enter Try.func43, Try.ntmps43
  go_wp2
  go_loopw [3] (fun i wr => ∃ k : Nat, k ≤ n ∧ i = .int .i64 k ∧ ∃ m, wr = w.drewN m) (fun i _ => n - (intOf i).toNat)
  case atStart => exact ⟨0, Nat.zero_le _, rfl, 0, rfl⟩
  case round =>
    obtain ⟨k, hk, rfl, m, rfl⟩ := hrel
    by_cases hlt : k < n
    · have c0 := H0.out k hlt
      have c1 := H1.out k hlt
      have hlt' : (k : Int) < (n : Int) := by omega
      go_wp2
      go_quiet (fail)
      go_wp2
      go_roundw
      case rel => exact ⟨k + 1, by omega, by go_num, _, rfl⟩
      case measure => simp [intOf]; omega
    · go_wp2
      go_ret
      exact ⟨rfl, _, rfl⟩
theorem first_any (w : World) : Calls Try.prog 31 #[] w fun e w' => e = .returned (.bool true) ∧ Below w.heap.size w w' := by
  go_enter Try.func31, Try.ntmps31
  go_wp2_with fail
  refine (are_any w.heap.size 16 16 (fun k => [0, 1, 2, 3, 4, 5, 7, 8, 9, 10, 11, 12, 13, 14, 15, 1048576].getD k 0) (by decide) _ ?_ ?_).mono ?_
  · intro k hk
    iterate 16 (rcases k with _ | k; · simp)
    omega
  · intro k hk
    iterate 16 (rcases k with _ | k; · simp)
    omega
  rintro e w' ⟨rfl, m, rfl⟩
  go_wp2_with fail
  go_ret
  exact ⟨rfl, below_drewN ((Below.refl _ w).alloc (Nat.le_refl _) _) m⟩
theorem second_any (w : World) : Calls Try.prog 32 #[] w fun e w' => e = .returned (.bool true) ∧ Below w.heap.size w w' := by
  go_enter Try.func32, Try.ntmps32
  go_wp2_with fail
  refine (are_any w.heap.size 16 16 (fun k => [200, 20000, 1024, 262144, 8000, 1, 2, 3, 4, 5, 6, 7, 8, 1, 2, 3].getD k 0) (by decide) _ ?_ ?_).mono ?_
  · intro k hk
    iterate 16 (rcases k with _ | k; · simp)
    omega
  · intro k hk
    iterate 16 (rcases k with _ | k; · simp)
    omega
  rintro e w' ⟨rfl, m, rfl⟩
  go_wp2_with fail
  go_ret
  exact ⟨rfl, below_drewN ((Below.refl _ w).alloc (Nat.le_refl _) _) m⟩
theorem third_any (w : World) : Calls Try.prog 33 #[] w fun e w' => e = .returned (.bool true) ∧ Below w.heap.size w w' := by
  go_enter Try.func33, Try.ntmps33
  go_wp2_with fail
  refine (are_any w.heap.size 14 14 (fun k => [4, 5, 1, 2, 3, 0, 1, 2, 0, 1, 2, 3, 4, 5].getD k 0) (by decide) _ ?_ ?_).mono ?_
  · intro k hk
    iterate 14 (rcases k with _ | k; · simp)
    omega
  · intro k hk
    iterate 14 (rcases k with _ | k; · simp)
    omega
  rintro e w' ⟨rfl, m, rfl⟩
  go_wp2_with fail
  go_ret
  exact ⟨rfl, below_drewN ((Below.refl _ w).alloc (Nat.le_refl _) _) m⟩
theorem topNames_walk (w : World) : Calls Try.prog 9 #[] w fun e w' => e = .returned (.bool true) ∧ Below w.heap.size w w' := by
  go_enter Try.func9, Try.ntmps9
  go_wp2_with fail
  refine (first_any _).mono ?_
  rintro e w1 ⟨rfl, hb1⟩
  go_wp2_with fail
  refine (second_any _).mono ?_
  rintro e w2 ⟨rfl, hb2⟩
  go_wp2_with fail
  refine (third_any _).mono ?_
  rintro e w3 ⟨rfl, hb3⟩
  go_wp2_with fail
  go_ret
  exact ⟨rfl, below_then (below_then hb1 hb2) hb3⟩
end Go.Proofs.Ytifhnjaeegmfkaa
