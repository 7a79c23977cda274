/- The second form of the card of the law IsoTurns: for every input whose arguments, with the package variables that the row reads, hold together at most 1048576 values and letters, it returns true and each argument reads as before; the variables that the row lists are tied to the program's text. That bound is the given statement's own; no condition of ours. -/
import Derived.Test.YtdcbngimgpdjoaaDoorRows
import Derived.Test.YtdcbngimgpdjoaaDoorCards
import Derived.Test.YtdcbngimgpdjoaaDoorTie
import Derived.Test.YtdcbngimgpdjoaaDoorOpen
import Derived.Test.YtdcbngimgpdjoaaDoorLaid
import Derived.Deep.DeepHandedRow
import Derived.Lib.LaidIn
import Derived.Lib.LaidU8T
import Derived.Test.YtdcbngimgpdjoaaDoorJi
import Derived.Test.YtdcbngimgpdjoaaDoorGoG
import Derived.Test.YtdcbngimgpdjoaaDoorGoB
namespace Go.Proofs.YtdcbngimgpdjoaaDoor
open Go.ChangeShapes Go.WideShapes Go.ChangeAt Go.RowKit
theorem string_small {H : Type} {s : ByteArray} {d : DataW H} (hd : d = .lit (.string s.data.toList)) (hb : Rows.uptoBulk d ≤ 1048576) : s.size ≤ 1048576 := by
  rw [hd, bulk_string, Array.length_toList] at hb
  have : s.data.size = s.size := rfl
  omega
theorem isoTurns_met (os : Os) : laidMet Tryd.prog Rows.isoTurnsUptoRow.laid ((laidWorld os).forCall (fun _ _ => 0) ⟨#[], #[.agg #[.slice none 0 0, .slice none 0 0], .int .i64 0, .string ⟨#[]⟩], []⟩).memory := laidMet_of_run' 8 (by kernel_rfl) (by kernel_rfl)
theorem isoTurns_reads (os : Os) {H : Type} (enc : TypeId × Value → H) : ∃ places, DataW.whole enc Tryd.prog ((laidWorld os).forCall (fun _ _ => 0) ⟨#[], #[.agg #[.slice none 0 0, .slice none 0 0], .int .i64 0, .string ⟨#[]⟩], []⟩).memory Tryd.f9.params.toList Rows.isoTurnsSpec.vars false (#[.agg #[.slice none 0 0, .slice none 0 0], .int .i64 0, .string ⟨#[]⟩] : Array Value).toList 8 = some ([.agg [.nil, .nil], .lit (.int .i64 0), .lit (.string [])], [], places) := ⟨[], by kernel_rfl⟩
set_option maxRecDepth 100000 in
theorem isoTurns_lifted (os : Os) (started : os.Started) (H : Type) (enc : TypeId × Value → H) (F : Stop.Interp) :
    ReturnsInHanded {} Tryd.checked os 9 .any ((Rows.OpenSpec.upto Rows.isoTurnsSpec).preRow enc Tryd.prog Tryd.f9 Rows.isoTurnsUptoRow.domain false Rows.isoTurnsUptoRow.laid) (((Rows.OpenSpec.upto Rows.isoTurnsSpec).at F).post enc Tryd.prog Tryd.f9 false true false false) := by
  obtain ⟨places, hx⟩ := isoTurns_reads os enc
  refine returnsInHanded_of_row (C := Tryd.checked) (s := Rows.OpenSpec.upto Rows.isoTurnsSpec) own started (by kernel_rfl) Tryd.func9
    (witness_row_at (enc := enc) (C := Tryd.checked) false (laidWorld os) #[.agg #[.slice none 0 0, .slice none 0 0], .int .i64 0, .string ⟨#[]⟩] rfl (by kernel_rfl) (by kernel_rfl) (by kernel_rfl)
      (OpenSpec.preRow_of_cond 8 hx (by kernel_rfl) (fun k hk => by cases hk; kernel_rfl) (by kernel_rfl) (isoTurns_met os))) ?_
  intro W base args ds gs before hval0 hW u1 u2 u3 hL u4 u5
  have hval : ∀ (j : Nat) t v, Tryd.f9.params[j]? = some t → args[j]? = some v → Value.okWide Tryd.prog W .any base t v := hval0
  have hW' := hW
  obtain ⟨p, q, hA0, hV, rfl, _, _⟩ := hW
  have hA : DataW.TrodAll enc Tryd.prog W 0 (fun _ => true) true Tryd.f9.params.toList args.toList ds p := hA0
  rw [Tryd.params9] at hA hval
  obtain ⟨v0, vs0, d0, ds0, p0, q0, hargs, rfl, rfl, h0, r0⟩ := trodAll_cons hA
  obtain ⟨v1, vs1, d1, ds1, p1, q1, rfl, rfl, rfl, h1, r1⟩ := trodAll_cons r0
  obtain ⟨v2, vs2, d2, ds2, p2, q2, rfl, rfl, rfl, h2, r2⟩ := trodAll_cons r1
  obtain ⟨rfl, rfl, rfl⟩ := trodAll_nil r2
  obtain rfl : args = #[v0, v1, v2] := by cases args; simp_all
  obtain ⟨G0, hGr0, _, _, hok0, dn0, dr0, hd0, hdn0, hdr0⟩ := open_graph Tryd.underlying25 (by kernel_rfl) (by kernel_rfl) Tryd.underlying22 Tryd.underlying23 Tryd.underlying33 Tryd.underlying3 Tryd.underlying9 Tryd.underlying9 Tryd.underlying23 Tryd.underlying3 (by kernel_rfl) Tryd.underlying4 (by kernel_rfl) (by kernel_rfl) (hval 0 25 v0 rfl rfl) h0
  have hbulk := of_decide_eq_true (show decide (Rows.uptoBulkAll _ ≤ 1048576) = true by first | exact u1 _ rfl | exact u2 _ rfl | exact u3 _ rfl | exact u4 _ rfl | exact u5 _ rfl)
  obtain ⟨hko0, hkb0⟩ := graph_small hd0 hdn0 hdr0 hok0 (Nat.le_trans (bulk_part (by simp)) hbulk)
  obtain ⟨a1, rfl, hd1, hp1, w1⟩ := open_int Tryd.underlying3 (hval 1 3 v1 rfl rfl) h1
  obtain ⟨a2, rfl, hd2, hp2, w2⟩ := Go.ChangeMaps.open_string Tryd.underlying9 (hval 2 9 v2 rfl rfl) h2
  have hbulk2 := of_decide_eq_true (show decide (Rows.uptoBulkAll _ ≤ 1048576) = true by first | exact u1 _ rfl | exact u2 _ rfl | exact u3 _ rfl | exact u4 _ rfl | exact u5 _ rfl)
  have hsz2 := string_small hd2 (Nat.le_trans (bulk_part (by simp)) hbulk2)
  have htab : Tabs W := utf8Tabs_of_readsT (U8Types.of196 laysValid) ⟨by kernel_rfl, by kernel_rfl, by kernel_rfl, by kernel_rfl, by kernel_rfl, by kernel_rfl, by kernel_rfl⟩ (Lib.laidMet.reads hL (.tail _ (.head _))) (Lib.laidMet.reads hL (.head _))
  refine (isoTurns_walk (w := W) htab G0 v0 hGr0 hko0 hkb0 a1 w1 a2 hsz2).mono fun e W' ⟨he, hb⟩ => ?_
  subst he
  exact ⟨_, rfl, law_post (bt := 4) laidOut (by rw [Tryd.params9]; exact (List.forall_mem_cons.2 ⟨⟨by kernel_rfl, of_decide_eq_true (by kernel_rfl)⟩, (List.forall_mem_cons.2 ⟨⟨by kernel_rfl, of_decide_eq_true (by kernel_rfl)⟩, (List.forall_mem_cons.2 ⟨⟨by kernel_rfl, of_decide_eq_true (by kernel_rfl)⟩, (fun _ h => by cases h)⟩)⟩)⟩)) rfl Tryd.underlying4 rfl rfl hW' hb⟩
theorem isoTurns_said : Rows.IsoTurnsUptoSaid :=
  OpenClaim.holds_of_cond 9 Tryd.f9 rfl rfl rfl rfl rfl rfl rfl ⟨rfl, rfl, rfl, rfl, rfl⟩ rfl rfl rfl rfl rfl (by kernel_rfl) Tryd.func9 (by kernel_rfl)
    (of_decide_eq_true (by kernel_rfl)) (by unfold Func.isWrapper; first | (rw [if_pos (by decide +kernel)]; kernel_rfl) | (rw [if_neg (by decide +kernel)]; exact ⟨rfl, rfl⟩))
    (fun os started H enc _ F => by rw [OpenClaim.pre_eq_preRow]; exact isoTurns_lifted os started H enc F)
theorem isoTurns_plain (f : FuncId) (fn : Func) (hf : Tryd.pinned.checked.prog.funcNamed "marginalia/marginalialaw22.IsoTurns" = some f) (hfn : Tryd.pinned.checked.prog.funcs[f]? = some fn) :
    false = Tryd.pinned.checked.prog.looks [] ∧ ∀ (j : Nat) t, fn.params[j]? = some t → Tryd.pinned.checked.prog.wantsStandIn t = false := by
  obtain rfl : f = 9 := Option.some.inj ((show Tryd.prog.funcNamed "marginalia/marginalialaw22.IsoTurns" = some 9 by kernel_rfl).symm.trans hf) |>.symm
  obtain rfl : fn = Tryd.f9 := (Option.some.inj (Tryd.func9.symm.trans hfn)).symm
  refine ⟨by kernel_rfl, fun j t ht => ?_⟩
  rw [Tryd.params9] at ht
  have hm := Array.mem_of_getElem? ht
  simp only [List.mem_toArray, List.mem_cons, List.not_mem_nil, or_false] at hm
  rcases hm with rfl | rfl | rfl
  · exact (show Tryd.prog.wantsStandIn 25 = false by kernel_rfl)
  · exact (show Tryd.prog.wantsStandIn 3 = false by kernel_rfl)
  · exact (show Tryd.prog.wantsStandIn 9 = false by kernel_rfl)
theorem isoTurns_card : Rows.IsoTurnsUptoCardSaid :=
  Claim7.holds_tied_plain_at .later [] _ _ _ _ isoTurns_said (fun _ h => by cases h) (by kernel_rfl) (fun _ h => by cases h) isoTurnsUpto_row_tie rfl ⟨rfl, rfl⟩ (by kernel_rfl) rfl isoTurns_plain (by kernel_rfl)
end Go.Proofs.YtdcbngimgpdjoaaDoor
