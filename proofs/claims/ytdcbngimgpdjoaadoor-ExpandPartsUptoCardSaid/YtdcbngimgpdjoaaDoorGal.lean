/- The example of the document (marginalialaw17). Condition: utf8's tables lie in the world. -/
import Derived.Test.YtdcbngimgpdjoaaDoorGl
namespace Go.Proofs.YtdcbngimgpdjoaaDoor
open Go.RowKit Go.Shelf Go.Deep
theorem boxN (w : World) (cs : Array Value) (t : TypeId) : ∃ V, w.alloc (.cells cs t) = V ∧ Below w.heap.size w V ∧ V.heap[w.heap.size]? = some (.cells cs t (0, 0)) ∧ V.heap.size = w.heap.size + 1 :=
  ⟨_, rfl, (Below.refl _ w).alloc (Nat.le_refl _) _, World.alloc_heap_new w _, by simp⟩
def aliveG : Gr := ⟨[⟨2, ⟨#[120]⟩, ⟨#[]⟩, [0], false⟩], [0]⟩
theorem alive_right : rightB aliveG = true := by kernel_rfl
theorem alive_met : metL aliveG 0 = [0] := by simp [metL, dfs, kidN, nd, aliveG]
theorem alive_is : isB aliveG 0 = true := by rw [isB, alive_right]; rfl
theorem alive_uses : usesL aliveG 0 = [2] := by
  rw [usesL, alive_is, if_pos rfl]
  simp only [Int.toNat_zero, alive_met]
  rfl
theorem alive_cyc : cyclicB aliveG 0 = true := by
  rw [cyclicB, alive_is]
  simp [cycL, cyc, kidN, nd, aliveG]
theorem alive_ok : aliveG.ok := by
  refine ⟨by decide, by decide, fun e he => ?_, fun e he => ?_⟩
  · simp [aliveG] at he
    subst he
    exact ⟨by decide, by decide, by decide, by decide, fun z hz => by simp at hz; subst hz; rfl⟩
  · simp [aliveG] at he
    subst he
    simp
/-- A row of one node, and one of ints. -/
theorem nds_one {W : World} {B b : Nat} {e : Nd} {K : Option Addr} {c : Nat} {t : TypeId} (hb : b < B) (h : W.heap[b]? = some (.cells (e.row K c) t (0, 0))) (hk : IntsAt W B K e.kids) (hc : e.kids.length ≤ c) (hn : K = none → c = 0) : NdsAt W B (some ⟨b, 0, none⟩) [e] := by
  intro _
  refine ⟨b, 0, rfl, hb, fun k hk' => ?_⟩
  obtain rfl : k = 0 := by simpa using hk'
  exact ⟨K, c, Lib.cell_of_heap h 0, Lib.cell_of_heap h 1, Lib.cell_of_heap h 2, Lib.cell_of_heap h 3, Lib.cell_of_heap h 4, hk, hc, hn⟩
theorem ints_one {W : World} {B b : Nat} {z : Int} {t : TypeId} (hb : b < B) (h : W.heap[b]? = some (.cells #[.int .i64 z] t (0, 0))) : IntsAt W B (some ⟨b, 0, none⟩) [z] := by
  intro _
  refine ⟨b, 0, rfl, hb, fun k hk => ?_⟩
  obtain rfl : k = 0 := by simpa using hk
  exact Lib.cell_of_heap h 0
set_option maxRecDepth 100000 in
set_option maxHeartbeats 2000000 in
theorem alive_any (w : World) (hT : Tabs w) :
    Calls Tryd.prog 16 #[] w fun e w' => e = .returned (.bool true) ∧ Below w.heap.size w w' := by
  obtain ⟨V1, h1, b1, r1, s1⟩ := boxN w #[.int .i64 0] 3
  obtain ⟨V2, h2, b2, r2, s2⟩ := boxN V1 #[.int .i64 2, .string ⟨#[120]⟩, .string ⟨#[]⟩, .slice (some ⟨w.heap.size, 0, none⟩) 1 1, .bool false] 33
  obtain ⟨V3, h3, b3, r3, s3⟩ := boxN V2 #[.int .i64 0] 3
  obtain ⟨V4, h4, b4, r4, s4⟩ := boxN V3 #[.slice (some ⟨w.heap.size + 1, 0, none⟩) 1 1, .slice (some ⟨w.heap.size + 1 + 1, 0, none⟩) 1 1] 25
  have HR1 := Lib.hid r1
  have HR2 := Lib.hid r2
  have HR3 := Lib.hid r3
  have HR4 := Lib.hid r4
  have hb12 := b1
  have HB4 : Hid (Below w.heap.size w V4) := below_then b1 (below_then b2 (below_then b3 b4))
  have HG : Hid (∀ W, Below V4.heap.size V4 W → GrAt W W.heap.size aliveG (.agg #[.slice (some ⟨w.heap.size + 1, 0, none⟩) 1 1, .slice (some ⟨w.heap.size + 1 + 1, 0, none⟩) 1 1]) ∧ Tabs W ∧
      W.cell? ⟨w.heap.size + 1 + 1 + 1, 0, none⟩ = some (.slice (some ⟨w.heap.size + 1, 0, none⟩) 1 1) ∧ W.cell? ⟨w.heap.size + 1 + 1 + 1, 1, none⟩ = some (.slice (some ⟨w.heap.size + 1 + 1, 0, none⟩) 1 1)) := fun W hW => by
    have hs := hW.size
    have q1 : W.heap[w.heap.size]? = some (.cells #[.int .i64 0] 3 (0, 0)) := (hW.block _ (by omega)).trans ((b4.block _ (by omega)).trans ((b3.block _ (by omega)).trans ((b2.block _ (by omega)).trans r1)))
    have q2 : W.heap[w.heap.size + 1]? = some (.cells #[.int .i64 2, .string ⟨#[120]⟩, .string ⟨#[]⟩, .slice (some ⟨w.heap.size, 0, none⟩) 1 1, .bool false] 33 (0, 0)) := (hW.block _ (by omega)).trans ((b4.block _ (by omega)).trans ((b3.block _ (by omega)).trans (s1 ▸ r2)))
    have q3 : W.heap[w.heap.size + 1 + 1]? = some (.cells #[.int .i64 0] 3 (0, 0)) := (hW.block _ (by omega)).trans ((b4.block _ (by omega)).trans (by rw [show w.heap.size + 1 + 1 = V2.heap.size by omega]; exact r3))
    have q4 : W.heap[w.heap.size + 1 + 1 + 1]? = some (.cells #[.slice (some ⟨w.heap.size + 1, 0, none⟩) 1 1, .slice (some ⟨w.heap.size + 1 + 1, 0, none⟩) 1 1] 25 (0, 0)) := (hW.block _ (by omega)).trans (by rw [show w.heap.size + 1 + 1 + 1 = V3.heap.size by omega]; exact r4)
    exact ⟨⟨_, 1, _, 1, rfl, nds_one (e := ⟨2, ⟨#[120]⟩, ⟨#[]⟩, [0], false⟩) (by omega) q2 (ints_one (by omega) q1) (by simp) (by simp), ints_one (by omega) q3⟩, hT.below (HB4.out.trans (hW.mono (by omega))), Lib.cell_of_heap q4 0, Lib.cell_of_heap q4 1⟩
  obtain ⟨G4, T4, y0, y1⟩ := HG.out V4 (Below.refl _ _)
  have HU : Hid (Calls Tryd.prog 25 #[.agg #[.slice (some ⟨w.heap.size + 1, 0, none⟩) 1 1, .slice (some ⟨w.heap.size + 1 + 1, 0, none⟩) 1 1], .int .i64 0] V4 fun e w' => ∃ u, e = .returned u ∧ (∃ A c, u = .slice A 1 c ∧ IntsAt w' w'.heap.size A [2]) ∧ Below V4.heap.size V4 w') := by
    refine (Uses_any aliveG _ 0 V4 G4 alive_ok T4).mono ?_
    rintro e w' ⟨u, rfl, ⟨A, c, rfl, hI, _, _⟩, hb⟩
    rw [alive_uses] at hI ⊢
    exact ⟨_, rfl, ⟨A, c, rfl, hI⟩, hb⟩
  have HRt : Hid (∀ W, Below V4.heap.size V4 W → Calls Tryd.prog 18 #[.agg #[.slice (some ⟨w.heap.size + 1, 0, none⟩) 1 1, .slice (some ⟨w.heap.size + 1 + 1, 0, none⟩) 1 1]] W fun e w' => e = .returned (.bool true) ∧ Below W.heap.size W w') := fun W hW => by
    have := Right_any aliveG _ W (HG.out W hW).1 alive_ok (HG.out W hW).2.1
    rwa [alive_right] at this
  have HCy : Hid (∀ W, Below V4.heap.size V4 W → Calls Tryd.prog 23 #[.agg #[.slice (some ⟨w.heap.size + 1, 0, none⟩) 1 1, .slice (some ⟨w.heap.size + 1 + 1, 0, none⟩) 1 1], .int .i64 0] W fun e w' => e = .returned (.bool true) ∧ Below W.heap.size W w') := fun W hW => by
    have := Cyclic_any aliveG _ 0 W (HG.out W hW).1 alive_ok (HG.out W hW).2.1
    rwa [alive_cyc] at this
  have HGc : Hid (∀ W, Below V4.heap.size V4 W → W.cell? ⟨w.heap.size + 1 + 1 + 1, 0, none⟩ = some (.slice (some ⟨w.heap.size + 1, 0, none⟩) 1 1) ∧ W.cell? ⟨w.heap.size + 1 + 1 + 1, 1, none⟩ = some (.slice (some ⟨w.heap.size + 1 + 1, 0, none⟩) 1 1)) := fun W hW => (HG.out W hW).2.2
  clear r1 r2 r3 r4 b1 b2 b3 b4 hb12 G4 T4 hT HG
  go_enter Tryd.func16, Tryd.ntmps16
  go_wp2_with (first
    | (go_at_call 25; refine HU.out.mono ?_; rintro e w5 ⟨u, rfl, ⟨A, c, rfl, hI⟩, hb5⟩; obtain ⟨x0, x1⟩ := HGc.out w5 hb5; have HI := Lib.hid hI; have Hb5 := Lib.hid hb5; clear hI hb5)
    | (go_at_call 18; refine (HRt.out w5 Hb5.out).mono ?_; rintro e w6 ⟨rfl, hb6⟩; have Hb6 := Lib.hid (Hb5.out.trans (hb6.mono Hb5.out.size)); have HI6 := Lib.hid ((HI.out.below hb6 (Nat.le_refl _)).more hb6.size); clear hb6; obtain ⟨z0, z1⟩ := HGc.out w6 Hb6.out)
    | (go_at_call 23; refine (HCy.out w6 Hb6.out).mono ?_; rintro e w7 ⟨rfl, hb7⟩; obtain ⟨ub, uo, rfl, _, hu⟩ := (HI6.out.below hb7 (Nat.le_refl _)) (by simp); have hu0 : w7.cell? ⟨ub, uo, none⟩ = some (.int .i64 2) := hu 0 (by simp); have Hb7 := Lib.hid (HB4.out.trans ((Hb6.out.trans (hb7.mono Hb6.out.size)).mono HB4.out.size)); clear hu hb7))
  go_ret
  exact ⟨by first | rfl | simp, Hb7.out⟩
end Go.Proofs.YtdcbngimgpdjoaaDoor
