/- The example of the document (marginalialaw23). Condition: utf8's tables lie in the world. -/
import Derived.Test.YtdcbngimgpdjoaaDoorXi
import Derived.Test.YtdcbngimgpdjoaaDoorGal
namespace Go.Proofs.YtdcbngimgpdjoaaDoor
open Go.RowKit Go.Shelf Go.Deep
attribute [local go_sem] Oper.semAt_some
theorem num23_any (z : Int) (w : World) : Calls Tryd.prog 38 #[.int .i64 z] w fun e w' => e = .returned (.int .i64 z) ∧ w' = w := by
  go_enter Tryd.func38, Tryd.ntmps38
  go_wp2_with fail
  go_ret
  exact ⟨rfl, rfl⟩
def oneG : Gr := ⟨[⟨1, ⟨#[120]⟩, ⟨#[]⟩, [], false⟩], []⟩
theorem oneG_right : rightB oneG = true := by kernel_rfl
theorem oneG_is : isB oneG 0 = true := by rw [isB, oneG_right]; rfl
theorem oneG_kids : kidN oneG 0 = [] := by simp [kidN, nd, oneG]
theorem oneG_acc : Acc (edge (kidN oneG)) 0 := ⟨_, fun y hy => by rw [edge, oneG_kids] at hy; cases hy⟩
theorem oneG_err : errB oneG 0 = 0 := by
  have h1 : cyclicB oneG 0 = false := by
    have h2 := (RightG.of oneG_right).cyc (root := 0) (by simp [oneG])
    rw [cyclicB, oneG_is]
    cases h : cycL oneG 0 with
    | false => simp [h]
    | true => exact absurd oneG_acc (h2.1 h)
  simp [errB, oneG_is, h1]
theorem oneG_size : sizeB oneG 0 = 1 ∧ deepB oneG 0 = 1 := by
  constructor
  · rw [sizeB, if_pos oneG_err]; show sizeA _ 0 = 1; rw [sizeA_eq oneG_acc, oneG_kids]; rfl
  · rw [deepB, if_pos oneG_err]; show deepA _ 0 = 1; rw [deepA_eq oneG_acc, oneG_kids]; rfl
theorem oneG_terr : terrB oneG 0 1 = 0 := by
  rw [terrB, if_neg (by rw [oneG_err]; simp), oneG_size.1, oneG_size.2]; simp; decide
theorem oneG_tree : treeB oneG 0 1 = .mk 1 ⟨#[120]⟩ ⟨#[]⟩ [] := by
  rw [treeB, if_pos oneG_terr]; show treeA _ 0 = _; rw [treeA_eq oneG_acc, oneG_kids]; rfl
theorem oneG_ok : oneG.ok := by
  refine ⟨by decide, by decide, fun e he => ?_, fun e he => ?_⟩
  · simp [oneG] at he
    subst he
    exact ⟨by decide, by decide, by decide, by decide, fun z hz => by simp at hz⟩
  · simp [oneG] at he
    subst he
    simp
set_option maxRecDepth 100000 in
set_option maxHeartbeats 4000000 in
theorem alive23_any (w : World) (hT : Tabs w) :
    Calls Tryd.prog 35 #[] w fun e w' => e = .returned (.bool true) ∧ Below w.heap.size w w' := by
  obtain ⟨V1, h1, b1, r1, s1⟩ := boxN w #[.int .i64 1, .string ⟨#[120]⟩, .string ⟨#[]⟩, .slice none 0 0, .bool false] 33
  obtain ⟨V2, h2, b2, r2, s2⟩ := boxN V1 #[.slice (some ⟨w.heap.size, 0, none⟩) 1 1, .slice none 0 0] 25
  have HB2 : Hid (Below w.heap.size w V2) := below_then b1 b2
  have H2 := Lib.hid h2
  have HC : Hid (∀ W, Below V2.heap.size V2 W → W.cell? ⟨w.heap.size + 1, 0, none⟩ = some (.slice (some ⟨w.heap.size, 0, none⟩) 1 1) ∧ W.cell? ⟨w.heap.size + 1, 1, none⟩ = some (.slice none 0 0) ∧ GrAt W W.heap.size oneG (.agg #[.slice (some ⟨w.heap.size, 0, none⟩) 1 1, .slice none 0 0]) ∧ Tabs W) := fun W hW => by
    have hs := hW.size
    have q1 := (hW.block w.heap.size (by omega)).trans ((b2.block _ (by omega)).trans r1)
    have q2 := (hW.block V1.heap.size (by omega)).trans r2
    rw [s1] at q2
    exact ⟨Lib.cell_of_heap q2 0, Lib.cell_of_heap q2 1, ⟨_, 1, none, 0, rfl, nds_one (e := ⟨1, ⟨#[120]⟩, ⟨#[]⟩, [], false⟩) (by omega) q1 IntsAt.nil (by simp) (by simp), IntsAt.nil⟩, hT.below (below_then HB2.out hW)⟩
  have HS : Hid (∀ W, Below V2.heap.size V2 W → Calls Tryd.prog 36 #[.agg #[.slice (some ⟨w.heap.size, 0, none⟩) 1 1, .slice none 0 0], .int .i64 0] W fun e w' => e = .returned (.tuple #[.int .i64 1, .int .i64 0]) ∧ Below W.heap.size W w') := fun W hW => by
    obtain ⟨_, _, h3, h4⟩ := HC.out W hW
    have := Size_any oneG _ 0 W h3 oneG_ok h4
    rw [oneG_size.1, oneG_err] at this
    exact this
  have HTr : Hid (∀ W, Below V2.heap.size V2 W → Calls Tryd.prog 39 #[.agg #[.slice (some ⟨w.heap.size, 0, none⟩) 1 1, .slice none 0 0], .int .i64 0, .int .i64 1] W fun e w' => ∃ x, e = .returned (.tuple #[x, .int .i64 0]) ∧ TrV w' (hi W.heap.size w') (.mk 1 ⟨#[120]⟩ ⟨#[]⟩ []) x ∧ Below W.heap.size W w') := fun W hW => by
    obtain ⟨_, _, h3, h4⟩ := HC.out W hW
    have := Tree_any oneG _ 0 1 W h3 oneG_ok h4
    rw [oneG_terr, oneG_tree] at this
    exact this
  obtain ⟨v0, v1, _, _⟩ := HC.out V2 (Below.refl _ _)
  clear b1 r1 b2 r2 s2 h2 hT
  go_enter Tryd.func35, Tryd.ntmps35
  go_wp2_with (first
    | (go_at_call 36; rw [H2.out]; refine (HS.out V2 (Below.refl _ _)).mono ?_; rintro e w1 ⟨rfl, hb1⟩; obtain ⟨x0, x1, _, _⟩ := HC.out w1 hb1; have Hb1 := Lib.hid hb1; clear hb1)
    | (go_at_call 39; refine (HTr.out w1 Hb1.out).mono ?_; rintro e w2 ⟨x, rfl, ⟨A', c', rfl, hlc, hkd⟩, hb2⟩; simp only [Tr.kind, Tr.tag, Tr.text, Tr.kids, List.length_nil] at hlc hkd ⊢
       obtain ⟨U, hU, hbU, hrU, hsU⟩ := boxN w2 #[.int .i64 1, .string ⟨#[120]⟩, .string ⟨#[]⟩, .slice A' 0 c'] 52
       have hb3 := below_then Hb1.out (below_then hb2 hbU)
       have HB3 := Lib.hid (below_then HB2.out hb3)
       have t0 := Lib.cell_of_heap hrU 0
       have t1 := Lib.cell_of_heap hrU 1
       have t2 := Lib.cell_of_heap hrU 2
       have t3 := Lib.cell_of_heap hrU 3
       have HCo : Hid (Calls Tryd.prog 42 #[.agg #[.int .i64 1, .string ⟨#[120]⟩, .string ⟨#[]⟩, .slice A' 0 c']] U fun e w' => e = .returned (.int .i64 1) ∧ Below U.heap.size U w') := (Count_any 1 (.mk 1 ⟨#[120]⟩ ⟨#[]⟩ []) _ U (by simp [Tr.count, Tr.counts]) (by simp [Tr.count, Tr.counts]) ⟨A', c', rfl, hlc, .inl rfl⟩).mono (fun e w' h => by simpa [Tr.count, Tr.counts] using h)
       clear hlc hkd hb2 hbU hrU hsU hb3)
    | (go_at_call 38; refine (num23_any _ _).mono ?_; rintro e w' ⟨rfl, rfl⟩)
    | (go_at_call 42; refine HCo.out.mono ?_; rintro e w5 ⟨rfl, hb5⟩; have Hb5 := Lib.hid (below_then HB3.out hb5); clear hb5))
  go_ret
  exact ⟨by first | rfl | simp, Hb5.out⟩
end Go.Proofs.YtdcbngimgpdjoaaDoor
