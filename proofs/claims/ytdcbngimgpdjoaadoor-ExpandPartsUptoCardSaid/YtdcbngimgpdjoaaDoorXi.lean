/- expand.Size and expand.Tree. Conditions: as Reach's. -/
import Derived.Test.YtdcbngimgpdjoaaDoorXd
import Derived.Test.YtdcbngimgpdjoaaDoorXh
namespace Go.Proofs.YtdcbngimgpdjoaaDoor
open Go.RowKit Go.Shelf Go.Deep
attribute [local go_sem] Oper.semAt_some
set_option maxRecDepth 100000 in
set_option maxHeartbeats 4000000 in
theorem Size_any (G : Gr) (v : Value) (root : Int) (w : World) (hG : GrAt w w.heap.size G v) (hok : G.ok) (hT : Tabs w) :
    Calls Tryd.prog 36 #[v, .int .i64 root] w fun e w' => e = .returned (.tuple #[.int .i64 (sizeB G root : Nat), .int .i64 (errB G root)]) ∧ Below w.heap.size w w' := by
  have hM : ∀ W, Below w.heap.size w W → Calls Tryd.prog 58 #[v, .int .i64 root] W fun e w' => e = .returned (.tuple #[.agg #[.int .i64 (sizeB G root : Nat), .int .i64 (deepB G root : Nat)], .int .i64 (errB G root)]) ∧ Below W.heap.size W w' := fun W hW => measured_any G v root W ((hG.below hW (Nat.le_refl _)).more hW.size) hok (hT.below hW)
  obtain ⟨NA, nc, RA, rc, rfl, hN, hR⟩ := hG.ex
  obtain ⟨V, hV, hbV, hrV, hsV⟩ := box2 w (.slice NA G.nodes.length nc) (.slice RA G.roots.length rc) 25
  have v0 := Lib.cell_of_heap hrV 0
  have v1 := Lib.cell_of_heap hrV 1
  have HM := Lib.hid (hM V hbV)
  have HbV := Lib.hid hbV
  clear hG hok hT hN hR hM hbV hrV hsV
  go_enter Tryd.func36, Tryd.ntmps36
  go_wp2_with (go_at_call 58; refine HM.out.mono ?_; rintro e w1 ⟨rfl, hb1⟩; have Hb1 := Lib.hid (below_then HbV.out hb1); clear hb1)
  go_ret2
  exact ⟨rfl, Hb1.out.alloc Hb1.out.size _⟩
/-- What Tree tells of a node, but the tree. -/
noncomputable def terrB (G : Gr) (root many : Int) : Int := if errB G root ≠ 0 then errB G root else if 10000 < deepB G root then 8 else if (sizeB G root : Int) > min many 1000000 then 14 else 0
noncomputable def treeB (G : Gr) (root many : Int) : Tr := if terrB G root many = 0 then treeA G root.toNat else default
set_option maxRecDepth 100000 in
set_option maxHeartbeats 4000000 in
theorem Tree_any (G : Gr) (v : Value) (root many : Int) (w : World) (hG : GrAt w w.heap.size G v) (hok : G.ok) (hT : Tabs w) :
    Calls Tryd.prog 39 #[v, .int .i64 root, .int .i64 many] w fun e w' => ∃ x, e = .returned (.tuple #[x, .int .i64 (terrB G root many)]) ∧ TrV w' (hi w.heap.size w') (treeB G root many) x ∧ Below w.heap.size w w' := by
  have hM : ∀ W, Below w.heap.size w W → Calls Tryd.prog 58 #[v, .int .i64 root] W fun e w' => e = .returned (.tuple #[.agg #[.int .i64 (sizeB G root : Nat), .int .i64 (deepB G root : Nat)], .int .i64 (errB G root)]) ∧ Below W.heap.size W w' := fun W hW => measured_any G v root W ((hG.below hW (Nat.le_refl _)).more hW.size) hok (hT.below hW)
  obtain ⟨NA, nc, RA, rc, rfl, hN, hR⟩ := hG.ex
  obtain ⟨V, hV, hbV, hrV, hsV⟩ := box2 w (.slice NA G.nodes.length nc) (.slice RA G.roots.length rc) 25
  obtain ⟨R, hRe, hbR, hrR, hsR⟩ : ∃ R, V.alloc (.cells #[.int .i64 0, .string ⟨#[]⟩, .string ⟨#[]⟩, .slice none 0 0] 52) = R ∧ Below V.heap.size V R ∧ R.heap[V.heap.size]? = some (.cells #[.int .i64 0, .string ⟨#[]⟩, .string ⟨#[]⟩, .slice none 0 0] 52 (0, 0)) ∧ R.heap.size = V.heap.size + 1 :=
    ⟨_, rfl, (Below.refl _ V).alloc (Nat.le_refl _) _, heap_alloc_new V _, by simp⟩
  have hrV2 := (hbR.block w.heap.size (by omega)).trans hrV
  have hwV : w.heap.size ≤ V.heap.size := by omega
  have HRf : Hid (∀ W, Below R.heap.size R W → W.cell? ⟨w.heap.size, 0, none⟩ = some (.slice NA G.nodes.length nc) ∧ W.cell? ⟨w.heap.size, 1, none⟩ = some (.slice RA G.roots.length rc) ∧ W.heap[V.heap.size]? = some (.cells #[.int .i64 0, .string ⟨#[]⟩, .string ⟨#[]⟩, .slice none 0 0] 52 (0, 0)) ∧ Below w.heap.size w W) := fun W hW => by
    have h1 := (hW.block _ (by omega)).trans hrV2
    exact ⟨Lib.cell_of_heap h1 0, Lib.cell_of_heap h1 1, (hW.block _ (by omega)).trans hrR, below_then hbV (below_then hbR hW)⟩
  obtain ⟨v0, v1, _, hwR⟩ := HRf.out R (Below.refl _ _)
  have HM := Lib.hid (hM R hwR)
  -- what is stored in the result's box
  have HSt : Hid (∀ (W : World) (k : Int) (a b : ByteArray) (s : Value), Below R.heap.size R W → ∃ W9, (((W.setCell ⟨V.heap.size, 0, none⟩ (.int .i64 k)).setCell ⟨V.heap.size, 1, none⟩ (.string a)).setCell ⟨V.heap.size, 2, none⟩ (.string b)).setCell ⟨V.heap.size, 3, none⟩ s = W9 ∧
      W9.heap[V.heap.size]? = some (.cells #[.int .i64 k, .string a, .string b, s] 52 (0, 0)) ∧ Below w.heap.size w W9 ∧ W9.heap.size = W.heap.size ∧ ∀ b, b ≠ V.heap.size → W9.heap[b]? = W.heap[b]?) := fun W k a b s hW => by
    obtain ⟨_, _, hrr, hwr⟩ := HRf.out W hW
    refine ⟨_, rfl, Go.Joins.block_setCell (i := 3) (Go.Joins.block_setCell (i := 2) (Go.Joins.block_setCell (i := 1) (Go.Joins.block_setCell (i := 0) hrr _) _) _) _, (((hwr.setCell (p := ⟨V.heap.size, 0, none⟩) hwV _).setCell (p := ⟨V.heap.size, 1, none⟩) hwV _).setCell (p := ⟨V.heap.size, 2, none⟩) hwV _).setCell (p := ⟨V.heap.size, 3, none⟩) hwV _, by simp, fun c hc => ?_⟩
    exact (Below.heap_setCell _ ⟨V.heap.size, 3, none⟩ _ c hc).trans ((Below.heap_setCell _ ⟨V.heap.size, 2, none⟩ _ c hc).trans ((Below.heap_setCell _ ⟨V.heap.size, 1, none⟩ _ c hc).trans (Below.heap_setCell W ⟨V.heap.size, 0, none⟩ _ c hc)))
  have HZ : Hid (∀ (W : World) (ok : Nat → Prop), TrV W ok default (.agg #[.int .i64 0, .string ⟨#[]⟩, .string ⟨#[]⟩, .slice none 0 0])) := fun W ok => ⟨none, 0, rfl, Nat.le_refl _, .inl rfl⟩
  obtain ⟨E, hE⟩ : ∃ x, errB G root = x := ⟨_, rfl⟩
  obtain ⟨S, hS⟩ : ∃ x, sizeB G root = x := ⟨_, rfl⟩
  obtain ⟨D, hD⟩ : ∃ x, deepB G root = x := ⟨_, rfl⟩
  rw [hE, hS, hD] at HM
  by_cases h1 : E = 0
  · by_cases h2 : 10000 < D
    · have HE : Hid (terrB G root many = 8 ∧ treeB G root many = default) := by
        have : terrB G root many = 8 := by simp [terrB, hE, h1, hD, h2]
        exact ⟨this, by simp [treeB, this]⟩
      have q1 : (E != 0) = false := by simp [h1]
      have q2 : (10000 : Int) < (D : Int) := by omega
      clear hG hok hT hN hR hM hbV hrV hsV hbR hrR hsR hrV2 hwR h1 h2 hE hS hD
      go_enter Tryd.func39, Tryd.ntmps39
      go_wp2_with (go_at_call 58; refine HM.out.mono ?_; rintro e w1 ⟨rfl, hb1⟩; obtain ⟨U, hU, hbU, hrU, hsU⟩ := box2 w1 (.int .i64 (S : Int)) (.int .i64 (D : Int)) 77; have hbRU := below_then hb1 hbU; obtain ⟨x0, x1, hrr, _⟩ := HRf.out U hbRU; have c0 := Lib.cell_of_heap hrr 0; have c1 := Lib.cell_of_heap hrr 1; have c2 := Lib.cell_of_heap hrr 2; have c3 := Lib.cell_of_heap hrr 3; have f0 := Go.Joins.unfrozen_of_block hrr 0; have f1 := Go.Joins.unfrozen_of_block hrr 1; have f2 := Go.Joins.unfrozen_of_block hrr 2; have f3 := Go.Joins.unfrozen_of_block hrr 3; have m0 := Lib.cell_of_heap hrU 0; have m1 := Lib.cell_of_heap hrU 1; obtain ⟨W9, hW9, hrow9, hb9, hs9, hk9⟩ := HSt.out U 0 ⟨#[]⟩ ⟨#[]⟩ (.slice none 0 0) hbRU; have HbU := Lib.hid hbRU; have Hr9 := Lib.hid hrow9; have Hb9 := Lib.hid hb9; clear hb1 hbU hrU hsU hbRU hrr hrow9 hb9 hs9 hk9)
      refine bodyPost_ret (results_row2 rfl _ _ V.heap.size _ _ (0, 0) _ rfl Hr9.out Tryd.underlying52 rfl (by kernel_rfl)) rfl ?_; obtain ⟨z1, z2⟩ := HE.out; rw [z1, z2]; exact ⟨_, rfl, HZ.out _ _, Hb9.out⟩
    · by_cases h3 : (S : Int) > min many 1000000
      · have HE : Hid (terrB G root many = 14 ∧ treeB G root many = default) := by
          have : terrB G root many = 14 := by simp only [terrB, hE, h1, hD, hS]; rw [if_neg (by simp), if_neg h2, if_pos h3]
          exact ⟨this, by simp [treeB, this]⟩
        have q1 : (E != 0) = false := by simp [h1]
        have q2 : decide ((10000 : Int) < (D : Int)) = false := decide_eq_false (by omega)
        have q3 : min many 1000000 < (S : Int) := h3
        clear hG hok hT hN hR hM hbV hrV hsV hbR hrR hsR hrV2 hwR hwV h1 h2 h3 hE hS hD
        go_enter Tryd.func39, Tryd.ntmps39
        go_wp2_with (go_at_call 58; refine HM.out.mono ?_; rintro e w1 ⟨rfl, hb1⟩; obtain ⟨U, hU, hbU, hrU, hsU⟩ := box2 w1 (.int .i64 (S : Int)) (.int .i64 (D : Int)) 77; have hbRU := below_then hb1 hbU; obtain ⟨x0, x1, hrr, _⟩ := HRf.out U hbRU; have c0 := Lib.cell_of_heap hrr 0; have c1 := Lib.cell_of_heap hrr 1; have c2 := Lib.cell_of_heap hrr 2; have c3 := Lib.cell_of_heap hrr 3; have f0 := Go.Joins.unfrozen_of_block hrr 0; have f1 := Go.Joins.unfrozen_of_block hrr 1; have f2 := Go.Joins.unfrozen_of_block hrr 2; have f3 := Go.Joins.unfrozen_of_block hrr 3; have m0 := Lib.cell_of_heap hrU 0; have m1 := Lib.cell_of_heap hrU 1; obtain ⟨W9, hW9, hrow9, hb9, hs9, hk9⟩ := HSt.out U 0 ⟨#[]⟩ ⟨#[]⟩ (.slice none 0 0) hbRU; have HbU := Lib.hid hbRU; have Hr9 := Lib.hid hrow9; have Hb9 := Lib.hid hb9; clear hb1 hbU hrU hsU hbRU hrr hrow9 hb9 hs9 hk9)
        refine bodyPost_ret (results_row2 rfl _ _ V.heap.size _ _ (0, 0) _ rfl Hr9.out Tryd.underlying52 rfl (by kernel_rfl)) rfl ?_; obtain ⟨z1, z2⟩ := HE.out; rw [z1, z2]; exact ⟨_, rfl, HZ.out _ _, Hb9.out⟩
      · have HE : Hid (terrB G root many = 0 ∧ treeB G root many = treeA G root.toNat) := by
          have : terrB G root many = 0 := by simp only [terrB, hE, h1, hD, hS]; rw [if_neg (by simp), if_neg h2, if_neg h3]
          exact ⟨this, by rw [treeB, if_pos this]⟩
        have q1 : (E != 0) = false := by simp [h1]
        have q2 : decide ((10000 : Int) < (D : Int)) = false := decide_eq_false (by omega)
        have q3 : decide (min many 1000000 < (S : Int)) = false := decide_eq_false h3
        have hE0 : errB G root = 0 := hE.trans h1
        have his : isB G root = true := by
          cases h : isB G root with
          | true => rfl
          | false => simp [errB, h] at hE0
        have hcy : cyclicB G root = false := by
          cases h : cyclicB G root with
          | false => rfl
          | true => simp [errB, his, h] at hE0
        have hb3 : 0 ≤ root ∧ root < G.nodes.length ∧ rightB G = true := by
          simp only [isB, Bool.and_eq_true, decide_eq_true_eq] at his
          exact ⟨his.1.1, his.1.2, his.2⟩
        have hRG : RightG G := .of hb3.2.2
        obtain ⟨r, rfl⟩ : ∃ r : Nat, root = r := ⟨root.toNat, by omega⟩
        have hrn : r < G.nodes.length := by omega
        have hacc : Acc (edge (kidN G)) r := by
          have h5 := hRG.cyc hrn
          have h4 : cycL G r = false := by
            have := hcy
            unfold cyclicB at this
            rw [his] at this
            simpa using this
          rw [h4] at h5
          exact Classical.byContradiction fun h => by simpa using h5.2 h
        have hcnt : (treeA G r).count ≤ 1000000 := by
          have h5 := size_count hacc
          have h6 : sizeA (kidN G) r = S := by rw [← hS, sizeB, if_pos hE0, Int.toNat_natCast]
          unfold great at h5
          omega
        have HTr : Hid (∀ W, Below w.heap.size w W → Calls Tryd.prog 61 #[.agg #[.slice NA G.nodes.length nc, .slice RA G.roots.length rc], .int .i64 (r : Int)] W fun e w' => ∃ v, e = .returned v ∧ TrV w' (hi W.heap.size w') (treeA G r) v ∧ Below W.heap.size W w') := tree_any G hRG NA RA nc rc w.heap.size w (Nat.le_refl _) hN r hacc hrn hcnt
        have HVR : Hid (V.heap.size < R.heap.size ∧ w.heap.size ≤ V.heap.size) := ⟨by omega, hwV⟩
        clear hG hok hT hN hR hM hbV hrV hsV hbR hrR hsR hrV2 hwR hwV h1 h2 h3 hE hS hD hE0 his hcy hb3 hRG hacc hcnt hrn
        go_enter Tryd.func39, Tryd.ntmps39
        go_wp2_with (first
          | (go_at_call 61; refine (HTr.out U (HRf.out U HbU.out).2.2.2).mono ?_; rintro e w2 ⟨v, rfl, ⟨A', c', rfl, hlc, hkd⟩, hb2⟩; have hb2R := below_then HbU.out hb2; obtain ⟨_, _, hrr, _⟩ := HRf.out w2 hb2R; have c0' := Lib.cell_of_heap hrr 0; have c1' := Lib.cell_of_heap hrr 1; have c2' := Lib.cell_of_heap hrr 2; have c3' := Lib.cell_of_heap hrr 3; have f0' := Go.Joins.unfrozen_of_block hrr 0; have f1' := Go.Joins.unfrozen_of_block hrr 1; have f2' := Go.Joins.unfrozen_of_block hrr 2; have f3' := Go.Joins.unfrozen_of_block hrr 3
             obtain ⟨X9, hX9, hrx9, hbx9, hsx9, hkx9⟩ := HSt.out w2 (treeA G r).kind (treeA G r).tag (treeA G r).text (.slice A' (treeA G r).kids.length c') hb2R
             have Hrx := Lib.hid hrx9
             have Hbx := Lib.hid hbx9
             have HVx : Hid (TrV X9 (hi w.heap.size X9) (treeA G r) (.agg #[.int .i64 (treeA G r).kind, .string (treeA G r).tag, .string (treeA G r).text, .slice A' (treeA G r).kids.length c'])) := ⟨A', c', rfl, hlc, hkd.keep (fun b hb => hkx9 b (by have := hb.1; have := HVR.out; have := HbU.out.size; omega)) fun b hb => ⟨by have := hb.1; have := HVR.out; have := HbU.out.size; omega, by rw [hsx9]; exact hb.2⟩⟩
             clear hlc hkd hb2 hb2R hrr hrx9 hbx9 hsx9 hkx9)
          | (go_at_call 58; refine HM.out.mono ?_; rintro e w1 ⟨rfl, hb1⟩; obtain ⟨U, hU, hbU, hrU, hsU⟩ := box2 w1 (.int .i64 (S : Int)) (.int .i64 (D : Int)) 77; have hbRU := below_then hb1 hbU; obtain ⟨x0, x1, hrr, _⟩ := HRf.out U hbRU; have c0 := Lib.cell_of_heap hrr 0; have c1 := Lib.cell_of_heap hrr 1; have c2 := Lib.cell_of_heap hrr 2; have c3 := Lib.cell_of_heap hrr 3; have f0 := Go.Joins.unfrozen_of_block hrr 0; have f1 := Go.Joins.unfrozen_of_block hrr 1; have f2 := Go.Joins.unfrozen_of_block hrr 2; have f3 := Go.Joins.unfrozen_of_block hrr 3; have m0 := Lib.cell_of_heap hrU 0; have m1 := Lib.cell_of_heap hrU 1; obtain ⟨W9, hW9, hrow9, hb9, hs9, hk9⟩ := HSt.out U 0 ⟨#[]⟩ ⟨#[]⟩ (.slice none 0 0) hbRU; have HbU := Lib.hid hbRU; have Hr9 := Lib.hid hrow9; have Hb9 := Lib.hid hb9; clear hb1 hbU hrU hsU hbRU hrr hrow9 hb9 hs9 hk9))
        refine bodyPost_ret (results_row2 rfl _ _ V.heap.size _ _ (0, 0) _ rfl Hrx.out Tryd.underlying52 rfl (by kernel_rfl)) rfl ?_
        obtain ⟨z1, z2⟩ := HE.out
        rw [z1, z2, Int.toNat_natCast]
        exact ⟨_, rfl, HVx.out, Hbx.out⟩
  · have HE : Hid (terrB G root many = E ∧ treeB G root many = default) := by
      have : terrB G root many = E := by simp [terrB, hE, h1]
      exact ⟨this, by rw [treeB, this, if_neg h1]⟩
    have q1 : (E != 0) = true := by simp [h1]
    clear hG hok hT hN hR hM hbV hrV hsV hbR hrR hsR hrV2 hwR h1 hE hS hD
    go_enter Tryd.func39, Tryd.ntmps39
    go_wp2_with (go_at_call 58; refine HM.out.mono ?_; rintro e w1 ⟨rfl, hb1⟩; obtain ⟨U, hU, hbU, hrU, hsU⟩ := box2 w1 (.int .i64 (S : Int)) (.int .i64 (D : Int)) 77; have hbRU := below_then hb1 hbU; obtain ⟨x0, x1, hrr, _⟩ := HRf.out U hbRU; have c0 := Lib.cell_of_heap hrr 0; have c1 := Lib.cell_of_heap hrr 1; have c2 := Lib.cell_of_heap hrr 2; have c3 := Lib.cell_of_heap hrr 3; have f0 := Go.Joins.unfrozen_of_block hrr 0; have f1 := Go.Joins.unfrozen_of_block hrr 1; have f2 := Go.Joins.unfrozen_of_block hrr 2; have f3 := Go.Joins.unfrozen_of_block hrr 3; have m0 := Lib.cell_of_heap hrU 0; have m1 := Lib.cell_of_heap hrU 1; obtain ⟨W9, hW9, hrow9, hb9, hs9, hk9⟩ := HSt.out U 0 ⟨#[]⟩ ⟨#[]⟩ (.slice none 0 0) hbRU; have HbU := Lib.hid hbRU; have Hr9 := Lib.hid hrow9; have Hb9 := Lib.hid hb9; clear hb1 hbU hrU hsU hbRU hrr hrow9 hb9 hs9 hk9)
    refine bodyPost_ret (results_row2 rfl _ _ V.heap.size _ _ (0, 0) _ rfl Hr9.out Tryd.underlying52 rfl (by kernel_rfl)) rfl ?_; obtain ⟨z1, z2⟩ := HE.out; rw [z1, z2]; exact ⟨_, rfl, HZ.out _ _, Hb9.out⟩
end Go.Proofs.YtdcbngimgpdjoaaDoor
