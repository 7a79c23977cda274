/- What the two functions Hex return: for every number, in every world. No condition. -/
import Derived.Test.YtdnmllklceaknaaDoorCharsP
namespace Go.Proofs.YtdnmllklceaknaaDoor
open Go.RowKit
set_option maxHeartbeats 1000000 in
theorem Hex_any (c : Int) (w : World) : Calls Tryd.prog 18 #[.int .i64 c] w fun e w' => e = .returned (.int .i64 (hexI c)) ∧ w = w' := by
  go_enter Tryd.func18, Tryd.ntmps18
  go_wp2
  all_goals (go_ret; exact ⟨ret_int (by simp [hexI]; try omega), rfl⟩)
set_option maxHeartbeats 1000000 in
theorem RHex_any (c : Int) (w : World) : Calls Tryd.prog 31 #[.int .i64 c] w fun e w' => e = .returned (.int .i64 (hexI c)) ∧ w = w' := by
  go_enter Tryd.func31, Tryd.ntmps31
  go_wp2
  all_goals (go_ret; exact ⟨ret_int (by simp [hexI]; try omega), rfl⟩)
end Go.Proofs.YtdnmllklceaknaaDoor
