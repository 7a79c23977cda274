/- The example of the document, alive. No condition. -/
import Derived.Test.YtiblamapjekdeaaGreatSc
import Derived.Test.YtiblamapjekdeaaGreatFj
import Derived.Test.YtiblamapjekdeaaGreatSg
namespace Go.Proofs.YtiblamapjekdeaaGreat
open Go.RowKit
attribute [local go_sem] Oper.semAt_some
theorem num18_any (z : Int) (w : World) : Calls Tryz.prog 10 #[.int .i64 z] w fun e w' => e = .returned (.int .i64 z) ∧ w = w' := by
  go_enter Tryz.func10, Tryz.ntmps10
  go_wp2
  go_ret
  exact ⟨rfl, rfl⟩
theorem exE_ok : ∀ x ∈ exE, Ev.ok x := by
  intro x hx
  simp only [exE, lrE, List.cons_append, List.nil_append, List.mem_cons, List.not_mem_nil, or_false] at hx
  rcases hx with rfl | rfl | rfl | rfl | rfl <;> exact ⟨by decide, by decide, by decide, by decide, by decide⟩
theorem exE_mk : mkG exE (min (9 : Int) 200).toNat (min (9 : Int) 20000).toNat = (⟨[⟨2, ⟨#[]⟩, ⟨#[]⟩, [0], false⟩], [0]⟩, 0) := by
  have h1 : exE.all rightB = true := by simp [exE, lrE, rightB, emp]
  have h2 : Ev.docs (kinds exE) = true := by rfl
  have h3 : rightsB exE = true := by rw [rightsB, h1, h2]; rfl
  rw [mkG, h3]
  rfl
set_option maxRecDepth 100000 in
set_option maxHeartbeats 2000000 in
theorem alive18_any (w : World) : Calls Tryz.prog 6 #[] w fun e w' => e = .returned (.bool true) ∧ Below w.heap.size w w' := by
  have HL := Lib.hid (LnsS_T w)
  have HSt : Hid (∀ lb lc xb xc W, LnT W lb 0 xb xc → 1 ≤ lc → Calls Tryz.prog 16 #[.slice (some ⟨lb, 0, none⟩) 1 lc] W (StrR W)) := fun lb lc xb xc W h1 h2 => Stream_ex lb lc xb xc W h1 h2
  have HG : Hid (∀ A c W, EvsAt W W.heap.size A exE → Calls Tryz.prog 8 #[.slice A 5 c, .int .i64 9, .int .i64 9] W (DidM W (⟨[⟨2, ⟨#[]⟩, ⟨#[]⟩, [0], false⟩], [0]⟩, 0))) := fun A c W h => by
    have := Graph_any A c exE 9 9 W (by decide) h exE_ok
    rw [exE_mk] at this
    exact this
  go_enter Tryz.func6, Tryz.ntmps6
  go_wp2_with (first
    | (go_at_call 17; refine HL.out.mono ?_; rintro e w1 ⟨lb, lc, xb, xc, rfl, hlc, hln, hb1⟩; have H1 := Lib.hid (And.intro hln (And.intro hlc hb1)); clear hln hb1)
    | (go_at_call 16; refine (HSt.out lb lc xb xc w1 H1.out.1 H1.out.2.1).mono ?_; rintro e w2 ⟨A2, c2, rfl, hc2, hE2, hb2⟩; have H2 := Lib.hid (And.intro hE2 (below_then H1.out.2.2 hb2)); clear hE2 hb2)
    | (go_at_call 8; refine (HG.out A2 c2 w2 H2.out.1).mono ?_; rintro e w3 ⟨v, rfl, ⟨NA, nc, RA, rc, rfl, hN, hR⟩, hb3⟩; obtain ⟨nb, no, rfl, hnb, hcl⟩ := hN (by decide); obtain ⟨KA, kc, hnd⟩ := hcl 0 (by decide); obtain ⟨V, hV, hbV, hrV, _⟩ := box2 w3 (.slice (some ⟨nb, no, none⟩) 1 nc) (.slice RA 1 rc) 28; have hnd := hnd.below hbV (Nat.le_refl _) hnb; have n3 := hnd.c3; obtain ⟨kb, ko, rfl, hkb, hkc⟩ := hnd.kids (by decide); have n5 : V.cell? ⟨kb, ko, none⟩ = some (.int .i64 0) := hkc 0 (by decide); have v0 := Lib.cell_of_heap hrV 0; have v1 := Lib.cell_of_heap hrV 1; have H3 := Lib.hid (below_then (below_then H2.out.2 hb3) hbV); clear hN hR hcl hnd hkc hb3 hbV hrV)
    | (go_at_call 10; refine (num18_any _ _).mono ?_; rintro e w4 ⟨rfl, rfl⟩))
  go_ret
  exact ⟨rfl, H3.out⟩
end Go.Proofs.YtiblamapjekdeaaGreat
