/- What the two functions Hex return: for every number, in every world. No condition. -/
import Derived.Test.YtdcbngimgpdjoaaDoorCharsP
namespace Go.Proofs.YtdcbngimgpdjoaaDoor
open Go.RowKit
set_option maxHeartbeats 1000000 in
theorem Hex_any (c : Int) (w : World) : Calls Tryd.prog 91 #[.int .i64 c] w fun e w' => e = .returned (.int .i64 (hexI c)) ∧ w = w' := by
  go_enter Tryd.func91, Tryd.ntmps91
  go_wp2
  all_goals (go_ret; exact ⟨ret_int (by simp [hexI]; try omega), rfl⟩)
set_option maxHeartbeats 1000000 in
theorem RHex_any (c : Int) (w : World) : Calls Tryd.prog 87 #[.int .i64 c] w fun e w' => e = .returned (.int .i64 (hexI c)) ∧ w = w' := by
  go_enter Tryd.func87, Tryd.ntmps87
  go_wp2
  all_goals (go_ret; exact ⟨ret_int (by simp [hexI]; try omega), rfl⟩)
end Go.Proofs.YtdcbngimgpdjoaaDoor
