/- The second form of the card of the law IsoTells: for every input whose arguments, with the package variables that the row reads, hold together at most 1048576 values and letters, it returns true and each argument reads as before; the variables that the row lists are tied to the program's text. That bound is the given statement's own; no condition of ours. -/
import Derived.Test.YtdcbngimgpdjoaaDoorRows
import Derived.Test.YtdcbngimgpdjoaaDoorCards
import Derived.Test.YtdcbngimgpdjoaaDoorTie
import Derived.Test.YtdcbngimgpdjoaaDoorOpen
import Derived.Test.YtdcbngimgpdjoaaDoorLaid
import Derived.Deep.DeepHandedRow
import Derived.Lib.LaidIn
import Derived.Lib.LaidU8T
import Derived.Test.YtdcbngimgpdjoaaDoorJt
import Derived.Test.YtdcbngimgpdjoaaDoorGoG
import Derived.Test.YtdcbngimgpdjoaaDoorGoB
namespace Go.Proofs.YtdcbngimgpdjoaaDoor
open Go.ChangeShapes Go.WideShapes Go.ChangeAt Go.RowKit
theorem isoTells_met (os : Os) : laidMet Tryd.prog Rows.isoTellsUptoRow.laid ((laidWorld os).forCall (fun _ _ => 0) ⟨#[], #[.agg #[.slice none 0 0, .slice none 0 0], .agg #[.slice none 0 0, .slice none 0 0]], []⟩).memory := laidMet_of_run' 8 (by kernel_rfl) (by kernel_rfl)
theorem isoTells_reads (os : Os) {H : Type} (enc : TypeId × Value → H) : ∃ places, DataW.whole enc Tryd.prog ((laidWorld os).forCall (fun _ _ => 0) ⟨#[], #[.agg #[.slice none 0 0, .slice none 0 0], .agg #[.slice none 0 0, .slice none 0 0]], []⟩).memory Tryd.f7.params.toList Rows.isoTellsSpec.vars false (#[.agg #[.slice none 0 0, .slice none 0 0], .agg #[.slice none 0 0, .slice none 0 0]] : Array Value).toList 8 = some ([.agg [.nil, .nil], .agg [.nil, .nil]], [], places) := ⟨[], by kernel_rfl⟩
set_option maxRecDepth 100000 in
theorem isoTells_lifted (os : Os) (started : os.Started) (H : Type) (enc : TypeId × Value → H) (F : Stop.Interp) :
    ReturnsInHanded {} Tryd.checked os 7 .any ((Rows.OpenSpec.upto Rows.isoTellsSpec).preRow enc Tryd.prog Tryd.f7 Rows.isoTellsUptoRow.domain false Rows.isoTellsUptoRow.laid) (((Rows.OpenSpec.upto Rows.isoTellsSpec).at F).post enc Tryd.prog Tryd.f7 false true false false) := by
  obtain ⟨places, hx⟩ := isoTells_reads os enc
  refine returnsInHanded_of_row (C := Tryd.checked) (s := Rows.OpenSpec.upto Rows.isoTellsSpec) own started (by kernel_rfl) Tryd.func7
    (witness_row_at (enc := enc) (C := Tryd.checked) false (laidWorld os) #[.agg #[.slice none 0 0, .slice none 0 0], .agg #[.slice none 0 0, .slice none 0 0]] rfl (by kernel_rfl) (by kernel_rfl) (by kernel_rfl)
      (OpenSpec.preRow_of_cond 8 hx (by kernel_rfl) (fun k hk => by cases hk; kernel_rfl) (by kernel_rfl) (isoTells_met os))) ?_
  intro W base args ds gs before hval0 hW u1 u2 u3 hL u4 u5
  have hval : ∀ (j : Nat) t v, Tryd.f7.params[j]? = some t → args[j]? = some v → Value.okWide Tryd.prog W .any base t v := hval0
  have hW' := hW
  obtain ⟨p, q, hA0, hV, rfl, _, _⟩ := hW
  have hA : DataW.TrodAll enc Tryd.prog W 0 (fun _ => true) true Tryd.f7.params.toList args.toList ds p := hA0
  rw [Tryd.params7] at hA hval
  obtain ⟨v0, vs0, d0, ds0, p0, q0, hargs, rfl, rfl, h0, r0⟩ := trodAll_cons hA
  obtain ⟨v1, vs1, d1, ds1, p1, q1, rfl, rfl, rfl, h1, r1⟩ := trodAll_cons r0
  obtain ⟨rfl, rfl, rfl⟩ := trodAll_nil r1
  obtain rfl : args = #[v0, v1] := by cases args; simp_all
  obtain ⟨G0, hGr0, _, _, hok0, dn0, dr0, hd0, hdn0, hdr0⟩ := open_graph Tryd.underlying25 (by kernel_rfl) (by kernel_rfl) Tryd.underlying22 Tryd.underlying23 Tryd.underlying33 Tryd.underlying3 Tryd.underlying9 Tryd.underlying9 Tryd.underlying23 Tryd.underlying3 (by kernel_rfl) Tryd.underlying4 (by kernel_rfl) (by kernel_rfl) (hval 0 25 v0 rfl rfl) h0
  have hbulk := of_decide_eq_true (show decide (Rows.uptoBulkAll _ ≤ 1048576) = true by first | exact u1 _ rfl | exact u2 _ rfl | exact u3 _ rfl | exact u4 _ rfl | exact u5 _ rfl)
  obtain ⟨hko0, hkb0⟩ := graph_small hd0 hdn0 hdr0 hok0 (Nat.le_trans (bulk_part (by simp)) hbulk)
  obtain ⟨G1, hGr1, _, _, hok1, dn1, dr1, hd1, hdn1, hdr1⟩ := open_graph Tryd.underlying25 (by kernel_rfl) (by kernel_rfl) Tryd.underlying22 Tryd.underlying23 Tryd.underlying33 Tryd.underlying3 Tryd.underlying9 Tryd.underlying9 Tryd.underlying23 Tryd.underlying3 (by kernel_rfl) Tryd.underlying4 (by kernel_rfl) (by kernel_rfl) (hval 1 25 v1 rfl rfl) h1
  have hbulk := of_decide_eq_true (show decide (Rows.uptoBulkAll _ ≤ 1048576) = true by first | exact u1 _ rfl | exact u2 _ rfl | exact u3 _ rfl | exact u4 _ rfl | exact u5 _ rfl)
  obtain ⟨hko1, hkb1⟩ := graph_small hd1 hdn1 hdr1 hok1 (Nat.le_trans (bulk_part (by simp)) hbulk)
  have htab : Tabs W := utf8Tabs_of_readsT (U8Types.of196 laysValid) ⟨by kernel_rfl, by kernel_rfl, by kernel_rfl, by kernel_rfl, by kernel_rfl, by kernel_rfl, by kernel_rfl⟩ (Lib.laidMet.reads hL (.tail _ (.head _))) (Lib.laidMet.reads hL (.head _))
  refine (isoTells_walk (w := W) htab G0 v0 hGr0 hko0 hkb0 G1 v1 hGr1 hko1 hkb1).mono fun e W' ⟨he, hb⟩ => ?_
  subst he
  exact ⟨_, rfl, law_post (bt := 4) laidOut (by rw [Tryd.params7]; exact (List.forall_mem_cons.2 ⟨⟨by kernel_rfl, of_decide_eq_true (by kernel_rfl)⟩, (List.forall_mem_cons.2 ⟨⟨by kernel_rfl, of_decide_eq_true (by kernel_rfl)⟩, (fun _ h => by cases h)⟩)⟩)) rfl Tryd.underlying4 rfl rfl hW' hb⟩
theorem isoTells_said : Rows.IsoTellsUptoSaid :=
  OpenClaim.holds_of_cond 7 Tryd.f7 rfl rfl rfl rfl rfl rfl rfl ⟨rfl, rfl, rfl, rfl, rfl⟩ rfl rfl rfl rfl rfl (by kernel_rfl) Tryd.func7 (by kernel_rfl)
    (of_decide_eq_true (by kernel_rfl)) (by unfold Func.isWrapper; first | (rw [if_pos (by decide +kernel)]; kernel_rfl) | (rw [if_neg (by decide +kernel)]; exact ⟨rfl, rfl⟩))
    (fun os started H enc _ F => by rw [OpenClaim.pre_eq_preRow]; exact isoTells_lifted os started H enc F)
theorem isoTells_plain (f : FuncId) (fn : Func) (hf : Tryd.pinned.checked.prog.funcNamed "marginalia/marginalialaw22.IsoTells" = some f) (hfn : Tryd.pinned.checked.prog.funcs[f]? = some fn) :
    false = Tryd.pinned.checked.prog.looks [] ∧ ∀ (j : Nat) t, fn.params[j]? = some t → Tryd.pinned.checked.prog.wantsStandIn t = false := by
  obtain rfl : f = 7 := Option.some.inj ((show Tryd.prog.funcNamed "marginalia/marginalialaw22.IsoTells" = some 7 by kernel_rfl).symm.trans hf) |>.symm
  obtain rfl : fn = Tryd.f7 := (Option.some.inj (Tryd.func7.symm.trans hfn)).symm
  refine ⟨by kernel_rfl, fun j t ht => ?_⟩
  rw [Tryd.params7] at ht
  have hm := Array.mem_of_getElem? ht
  simp only [List.mem_toArray, List.mem_cons, List.not_mem_nil, or_false] at hm
  rcases hm with rfl | rfl
  · exact (show Tryd.prog.wantsStandIn 25 = false by kernel_rfl)
  · exact (show Tryd.prog.wantsStandIn 25 = false by kernel_rfl)
theorem isoTells_card : Rows.IsoTellsUptoCardSaid :=
  Claim7.holds_tied_plain_at .later [] _ _ _ _ isoTells_said (fun _ h => by cases h) (by kernel_rfl) (fun _ h => by cases h) isoTellsUpto_row_tie rfl ⟨rfl, rfl⟩ (by kernel_rfl) rfl isoTells_plain (by kernel_rfl)
end Go.Proofs.YtdcbngimgpdjoaaDoor
