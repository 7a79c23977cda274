/- The law ExpandSizes, walked. Conditions: utf8's tables lie in the world; a graph's texts and rows hold no more than a million million. -/
import Derived.Test.YtdcbngimgpdjoaaDoorXu
import Derived.Test.YtdcbngimgpdjoaaDoorXj
import Derived.Test.YtdcbngimgpdjoaaDoorGb
namespace Go.Proofs.YtdcbngimgpdjoaaDoor
open Go.RowKit Go.Shelf Go.Deep
attribute [local go_sem] Oper.semAt_some
set_option maxRecDepth 100000 in
set_option maxHeartbeats 4000000 in
theorem expandSizes_walk (w : World) (hT : Tabs w) (G : Gr) (v : Value) (hG : GrAt w w.heap.size G v) (hok : G.ok) (hokB : G.okB) (root : Int) :
    Calls Tryd.prog 11 #[v, .int .i64 root] w fun e w' => e = .returned (.bool true) ∧ Below w.heap.size w w' := by
  have HGw : Hid (∀ W, Below w.heap.size w W → GrAt W W.heap.size G v) := fun W hW => (hG.below hW (Nat.le_refl _)).more hW.size
  have HTw : Hid (∀ W, Below w.heap.size w W → Tabs W) := fun W hW => hT.below hW
  obtain ⟨NA, nc, RA, rc, rfl, hN, hR⟩ := hG.ex
  obtain ⟨V, hV, hbV, hrV, hsV⟩ := box2 w (.slice NA G.nodes.length nc) (.slice RA G.roots.length rc) 25
  have HG0 : Hid (∀ W, Below V.heap.size V W → W.cell? ⟨w.heap.size, 0, none⟩ = some (.slice NA G.nodes.length nc) ∧ W.cell? ⟨w.heap.size, 1, none⟩ = some (.slice RA G.roots.length rc) ∧ Below w.heap.size w W) := fun W h => by
    have hr := (h.block w.heap.size (by omega)).trans hrV
    exact ⟨Lib.cell_of_heap hr 0, Lib.cell_of_heap hr 1, below_then hbV h⟩
  have HA : Hid (Calls Tryd.prog 35 #[] V fun e w' => e = .returned (.bool true) ∧ Below V.heap.size V w') := alive23_any V (hT.below hbV)
  have HB : Hid (∀ W, Below w.heap.size w W → Calls Tryd.prog 17 #[.agg #[.slice NA G.nodes.length nc, .slice RA G.roots.length rc]] W fun r w' => r = .returned (.bool (bigB G)) ∧ Below W.heap.size W w') := fun W hW => Big_any G _ W (HGw.out W hW) hokB
  have HOk := Lib.hid hok
  have HOb := Lib.hid hokB
  cases hbg : bigB G with
  | true =>
    rw [hbg] at HB
    clear hbg hG hT hok hokB hN hR hbV hrV hsV
    go_enter Tryd.func11, Tryd.ntmps11
    go_wp2_with (first
      | (go_at_call 35; refine HA.out.mono ?_; rintro e w1 ⟨rfl, hb1⟩; obtain ⟨g0, g1, hw1⟩ := HG0.out w1 hb1; have Hb1 := Lib.hid hb1; have Hw1 := Lib.hid hw1; clear hb1 hw1)
      | (go_at_call 17; refine (HB.out w1 Hw1.out).mono ?_; rintro e w2 ⟨rfl, hb2⟩; have hb2' := below_then Hb1.out hb2; obtain ⟨g2, g3, hw2⟩ := HG0.out w2 hb2'; have Hb2 := Lib.hid hb2'; have Hw2 := Lib.hid hw2; clear hb2 hb2' hw2 g0 g1))
    go_ret
    exact ⟨rfl, Hw2.out⟩
  | false =>
    have hoR := hokB.okR hbg
    rw [hbg] at HB
    have HS : Hid (∀ W, Below w.heap.size w W → Calls Tryd.prog 36 #[.agg #[.slice NA G.nodes.length nc, .slice RA G.roots.length rc], .int .i64 root] W fun e w' => e = .returned (.tuple #[.int .i64 (sizeB G root : Nat), .int .i64 (errB G root)]) ∧ Below W.heap.size W w') := fun W hW => Size_any G _ root W (HGw.out W hW) HOk.out (HTw.out W hW)
    have HR : Hid (∀ W, Below w.heap.size w W → Calls Tryd.prog 37 #[.agg #[.slice NA G.nodes.length nc, .slice RA G.roots.length rc], .int .i64 root] W fun e w' => e = .returned (.tuple #[.int .i64 (sizeB G root : Nat), .int .i64 (errB G root)]) ∧ Below W.heap.size W w') := fun W hW => RSize_any G _ root W (HGw.out W hW) hoR
    obtain ⟨E, hE⟩ : ∃ x, errB G root = x := ⟨_, rfl⟩
    obtain ⟨S, hS⟩ : ∃ x, sizeB G root = x := ⟨_, rfl⟩
    rw [hE, hS] at HS HR
    clear hbg hG hT hok hokB hN hR hbV hrV hsV hoR hE hS
    go_enter Tryd.func11, Tryd.ntmps11
    go_wp2_with (first
      | (go_at_call 35; refine HA.out.mono ?_; rintro e w1 ⟨rfl, hb1⟩; obtain ⟨g0, g1, hw1⟩ := HG0.out w1 hb1; have Hb1 := Lib.hid hb1; have Hw1 := Lib.hid hw1; clear hb1 hw1)
      | (go_at_call 17; refine (HB.out w1 Hw1.out).mono ?_; rintro e w2 ⟨rfl, hb2⟩; have hb2' := below_then Hb1.out hb2; obtain ⟨g2, g3, hw2⟩ := HG0.out w2 hb2'; have Hb2 := Lib.hid hb2'; have Hw2 := Lib.hid hw2; clear hb2 hb2' hw2 g0 g1)
      | (go_at_call 36; refine (HS.out w2 Hw2.out).mono ?_; rintro e w3 ⟨rfl, hb3⟩; have hb3' := below_then Hb2.out hb3; obtain ⟨g4, g5, hw3⟩ := HG0.out w3 hb3'; have Hb3 := Lib.hid hb3'; have Hw3 := Lib.hid hw3; clear hb3 hb3' hw3 g2 g3)
      | (go_at_call 37; refine (HR.out w3 Hw3.out).mono ?_; rintro e w4 ⟨rfl, hb4⟩; have Hw4 := Lib.hid (below_then Hw3.out hb4); clear hb4)
      | (go_at_call 38; refine (num23_any _ _).mono ?_; rintro e w' ⟨rfl, rfl⟩))
    go_ret
    exact ⟨by first | rfl | simp, Hw4.out⟩
end Go.Proofs.YtdcbngimgpdjoaaDoor
