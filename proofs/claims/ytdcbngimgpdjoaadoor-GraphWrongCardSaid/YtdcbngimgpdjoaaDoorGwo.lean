/- The law GraphWrong, outside of its table. Condition: utf8's tables lie in the world. (Printed by gwrong.py.) -/
import Derived.Test.YtdcbngimgpdjoaaDoorGwr
namespace Go.Proofs.YtdcbngimgpdjoaaDoor
open Go.RowKit Go.Shelf Go.Deep
set_option maxRecDepth 100000 in
set_option maxHeartbeats 8000000 in
theorem graphWrong_out (w : World) (hT : Tabs w) (which : Int) (h : which < 0 ∨ (¬ which < 0 ∧ 15 ≤ which)) :
    Calls Tryd.prog 6 #[.int .i64 which] w fun e w' => e = .returned (.bool true) ∧ Below w.heap.size w w' := by
  have HA : Hid (Calls Tryd.prog 16 #[] w fun e w' => e = .returned (.bool true) ∧ Below w.heap.size w w') := alive_any w hT
  have HTb : Hid (∀ W, Below w.heap.size w W → Tabs W) := fun W h => hT.below h
  clear hT
  rcases h with h | ⟨h, h'⟩
  · go_enter Tryd.func6, Tryd.ntmps6
    go_wp2_with (go_at_call 16; refine HA.out.mono ?_; rintro e w1 ⟨rfl, hb1⟩; obtain ⟨V2, V3, V4, V5, V6, V7, V8, V9, V10, V11, V12, V13, V14, V15, V16, V17, V18, V19, V20, V21, V22, V23, h2, h3, h4, h5, h6, h7, h8, h9, h10, h11, h12, h13, h14, h15, h16, h17, h18, h19, h20, h21, h22, h23, ⟨_, _, _, _, _⟩, ⟨_, _, _, _, _⟩, HB, HO, HF⟩ := wrong_rows w1 (HTb.out w1 hb1))
    go_ret
    exact ⟨rfl, below_then hb1 HB.out⟩
  · have hd := decide_eq_false h
    go_enter Tryd.func6, Tryd.ntmps6
    go_wp2_with (go_at_call 16; refine HA.out.mono ?_; rintro e w1 ⟨rfl, hb1⟩; obtain ⟨V2, V3, V4, V5, V6, V7, V8, V9, V10, V11, V12, V13, V14, V15, V16, V17, V18, V19, V20, V21, V22, V23, h2, h3, h4, h5, h6, h7, h8, h9, h10, h11, h12, h13, h14, h15, h16, h17, h18, h19, h20, h21, h22, h23, ⟨_, _, _, _, _⟩, ⟨_, _, _, _, _⟩, HB, HO, HF⟩ := wrong_rows w1 (HTb.out w1 hb1))
    go_ret
    exact ⟨rfl, below_then hb1 HB.out⟩
end Go.Proofs.YtdcbngimgpdjoaaDoor
