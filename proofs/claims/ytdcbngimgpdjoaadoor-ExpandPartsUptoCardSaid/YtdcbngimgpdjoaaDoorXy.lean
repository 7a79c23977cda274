/- The reference's Tree (marginaliaref17). Conditions: as May's. -/
import Derived.Test.YtdcbngimgpdjoaaDoorXv
import Derived.Test.YtdcbngimgpdjoaaDoorXw
import Derived.Test.YtdcbngimgpdjoaaDoorXi
namespace Go.Proofs.YtdcbngimgpdjoaaDoor
open Go.RowKit Go.Shelf Go.Deep
attribute [local go_sem] Oper.semAt_some
def cutN (n most : Int) : Int := if n < 0 then 0 else if n > most then most else n
set_option maxRecDepth 100000 in
theorem cut_any (n : Int) (w : World) : Calls Tryd.prog 63 #[.int .i64 n, .int .i64 1000000] w fun e w' => e = .returned (.int .i64 (cutN n 1000000)) ∧ w' = w := by
  by_cases h1 : n < 0
  · have HE : Hid (cutN n 1000000 = 0) := by show _ = _; rw [cutN, if_pos h1]
    rw [HE.out]
    go_enter Tryd.func63, Tryd.ntmps63
    go_wp2_with fail
    go_ret
    exact ⟨rfl, rfl⟩
  · have hd1 : decide (n < 0) = false := decide_eq_false h1
    by_cases h2 : 1000000 < n
    · have HE : Hid (cutN n 1000000 = 1000000) := by show _ = _; rw [cutN, if_neg h1, if_pos h2]
      rw [HE.out]
      clear h1
      go_enter Tryd.func63, Tryd.ntmps63
      go_wp2_with fail
      go_ret
      exact ⟨rfl, rfl⟩
    · have HE : Hid (cutN n 1000000 = n) := by show _ = _; rw [cutN, if_neg h1, if_neg (by omega)]
      rw [HE.out]
      have hd2 : decide (1000000 < n) = false := decide_eq_false h2
      clear h1 h2
      go_enter Tryd.func63, Tryd.ntmps63
      go_wp2_with fail
      go_ret
      exact ⟨rfl, rfl⟩
theorem cut_min {s : Nat} {many : Int} (h : 1 ≤ s) : ((s : Int) > cutN many 1000000 ↔ (s : Int) > min many 1000000) := by
  unfold cutN
  by_cases h1 : many < 0
  · rw [if_pos h1]; omega
  · rw [if_neg h1]; by_cases h2 : many > 1000000
    · rw [if_pos h2]; omega
    · rw [if_neg h2]; omega
theorem err_zero {G : Gr} {root : Int} (h : errB G root = 0) : ∃ r : Nat, root = r ∧ r < G.nodes.length ∧ RightG G ∧ Acc (edge (kidN G)) r := by
  have his : isB G root = true := by
    cases h1 : isB G root with
    | true => rfl
    | false => simp [errB, h1] at h
  have hcy : cyclicB G root = false := by
    cases h1 : cyclicB G root with
    | false => rfl
    | true => simp [errB, his, h1] at h
  rcases isB_cases G root with h1 | ⟨_, r, rfl, hlt, hR⟩
  · rw [his] at h1; cases h1
  · exact ⟨r, rfl, hlt, hR, cyc_acc hR hlt his hcy⟩
theorem size_pos {G : Gr} {x : Nat} (h : Acc (edge (kidN G)) x) : 1 ≤ sizeA (kidN G) x := by
  have h1 := size_count h
  have h2 := (treeA G x).count_pos
  unfold great at h1
  omega
set_option maxRecDepth 100000 in
set_option maxHeartbeats 4000000 in
theorem RTree_any (G : Gr) (v : Value) (root many : Int) (w : World) (hG : GrAt w w.heap.size G v) (hok : G.okR) :
    Calls Tryd.prog 40 #[v, .int .i64 root, .int .i64 many] w fun e w' => ∃ x, e = .returned (.tuple #[x, .int .i64 (terrB G root many)]) ∧ TrV w' (hi w.heap.size w') (treeB G root many) x ∧ Below w.heap.size w w' := by
  have hM : ∀ W, Below w.heap.size w W → Calls Tryd.prog 37 #[v, .int .i64 root] W fun e w' => e = .returned (.tuple #[.int .i64 (sizeB G root : Nat), .int .i64 (errB G root)]) ∧ Below W.heap.size W w' := fun W hW => RSize_any G v root W ((hG.below hW (Nat.le_refl _)).more hW.size) hok
  have HGw : Hid (∀ W, Below w.heap.size w W → GrAt W W.heap.size G v) := fun W hW => (hG.below hW (Nat.le_refl _)).more hW.size
  obtain ⟨NA, nc, RA, rc, rfl, hN, hR⟩ := hG.ex
  obtain ⟨V, hV, hbV, hrV, hsV⟩ := box2 w (.slice NA G.nodes.length nc) (.slice RA G.roots.length rc) 25
  obtain ⟨R, hRe, hbR, hrR, hsR⟩ : ∃ R, V.alloc (.cells #[.int .i64 0, .string ⟨#[]⟩, .string ⟨#[]⟩, .slice none 0 0] 52) = R ∧ Below V.heap.size V R ∧ R.heap[V.heap.size]? = some (.cells #[.int .i64 0, .string ⟨#[]⟩, .string ⟨#[]⟩, .slice none 0 0] 52 (0, 0)) ∧ R.heap.size = V.heap.size + 1 :=
    ⟨_, rfl, (Below.refl _ V).alloc (Nat.le_refl _) _, heap_alloc_new V _, by simp⟩
  have hrV2 := (hbR.block w.heap.size (by omega)).trans hrV
  have hwV : w.heap.size ≤ V.heap.size := by omega
  have HRf : Hid (∀ W, Below R.heap.size R W → W.cell? ⟨w.heap.size, 0, none⟩ = some (.slice NA G.nodes.length nc) ∧ W.cell? ⟨w.heap.size, 1, none⟩ = some (.slice RA G.roots.length rc) ∧ W.heap[V.heap.size]? = some (.cells #[.int .i64 0, .string ⟨#[]⟩, .string ⟨#[]⟩, .slice none 0 0] 52 (0, 0)) ∧ Below w.heap.size w W) := fun W hW => by
    have h1 := (hW.block _ (by omega)).trans hrV2
    exact ⟨Lib.cell_of_heap h1 0, Lib.cell_of_heap h1 1, (hW.block _ (by omega)).trans hrR, below_then hbV (below_then hbR hW)⟩
  obtain ⟨v0, v1, hrr0, hwR⟩ := HRf.out R (Below.refl _ _)
  have HM := Lib.hid (hM R hwR)
  have HSt : Hid (∀ (W : World) (k : Int) (a b : ByteArray) (s : Value), Below R.heap.size R W → ∃ W9, (((W.setCell ⟨V.heap.size, 0, none⟩ (.int .i64 k)).setCell ⟨V.heap.size, 1, none⟩ (.string a)).setCell ⟨V.heap.size, 2, none⟩ (.string b)).setCell ⟨V.heap.size, 3, none⟩ s = W9 ∧
      W9.heap[V.heap.size]? = some (.cells #[.int .i64 k, .string a, .string b, s] 52 (0, 0)) ∧ Below w.heap.size w W9 ∧ W9.heap.size = W.heap.size ∧ ∀ b, b ≠ V.heap.size → W9.heap[b]? = W.heap[b]?) := fun W k a b s hW => by
    obtain ⟨_, _, hrr, hwr⟩ := HRf.out W hW
    refine ⟨_, rfl, Go.Joins.block_setCell (i := 3) (Go.Joins.block_setCell (i := 2) (Go.Joins.block_setCell (i := 1) (Go.Joins.block_setCell (i := 0) hrr _) _) _) _, (((hwr.setCell (p := ⟨V.heap.size, 0, none⟩) hwV _).setCell (p := ⟨V.heap.size, 1, none⟩) hwV _).setCell (p := ⟨V.heap.size, 2, none⟩) hwV _).setCell (p := ⟨V.heap.size, 3, none⟩) hwV _, by simp, fun c hc => ?_⟩
    exact (Below.heap_setCell _ ⟨V.heap.size, 3, none⟩ _ c hc).trans ((Below.heap_setCell _ ⟨V.heap.size, 2, none⟩ _ c hc).trans ((Below.heap_setCell _ ⟨V.heap.size, 1, none⟩ _ c hc).trans (Below.heap_setCell W ⟨V.heap.size, 0, none⟩ _ c hc)))
  have HZ : Hid (∀ (W : World) (ok : Nat → Prop), TrV W ok default (.agg #[.int .i64 0, .string ⟨#[]⟩, .string ⟨#[]⟩, .slice none 0 0])) := fun W ok => ⟨none, 0, rfl, Nat.le_refl _, .inl rfl⟩
  obtain ⟨E, hE⟩ : ∃ x, errB G root = x := ⟨_, rfl⟩
  obtain ⟨S, hS⟩ : ∃ x, sizeB G root = x := ⟨_, rfl⟩
  obtain ⟨D, hD⟩ : ∃ x, deepB G root = x := ⟨_, rfl⟩
  rw [hE, hS] at HM
  by_cases h1 : E = 0
  · have hE0 : errB G root = 0 := hE.trans h1
    obtain ⟨r, rfl, hrn, hRG, hacc⟩ := err_zero hE0
    have hDe : deepA (kidN G) r = D := by rw [← hD, deepB, if_pos hE0]; rfl
    have hSe : sizeA (kidN G) r = S := by rw [← hS, sizeB, if_pos hE0]; rfl
    have hS1 : 1 ≤ S := by rw [← hSe]; exact size_pos hacc
    have HHe : Hid (∀ W, Below w.heap.size w W → Calls Tryd.prog 62 #[.agg #[.slice NA G.nodes.length nc, .slice RA G.roots.length rc], .int .i64 (r : Int)] W fun e w' => e = .returned (.int .i64 (D : Int)) ∧ Below W.heap.size W w') := fun W hW => by
      rw [← hDe]; exact height_any G _ r W (HGw.out W hW) hRG hrn hacc
    obtain ⟨c, hc⟩ : ∃ c, cutN many 1000000 = c := ⟨_, rfl⟩
    have HCut : Hid (∀ W, Calls Tryd.prog 63 #[.int .i64 many, .int .i64 1000000] W fun e w' => e = .returned (.int .i64 c) ∧ w' = W) := fun W => by rw [← hc]; exact cut_any many W
    have hcm := cut_min (many := many) hS1
    rw [hc] at hcm
    by_cases h2 : 10000 < D
    · have HE : Hid (terrB G r many = 8 ∧ treeB G r many = default) := by
        have : terrB G r many = 8 := by simp [terrB, hE, h1, hD, h2]
        exact ⟨this, by simp [treeB, this]⟩
      have q1 : (E != 0) = false := by simp [h1]
      have q2 : (10000 : Int) < (D : Int) := by omega
      clear hG hok hN hR hM hbV hrV hsV hbR hrR hsR hrV2 hwR h1 h2 hE hS hD hE0 hrn hRG hacc hDe hSe hS1 hc hcm hrr0 hwV
      go_enter Tryd.func40, Tryd.ntmps40
      go_wp2_with (first | (go_at_call 37; refine HM.out.mono ?_; rintro e w1 ⟨rfl, hb1⟩; obtain ⟨s0, s1, _, hw1⟩ := HRf.out w1 hb1; have Hb1 := Lib.hid hb1; have Hw1 := Lib.hid hw1; clear hb1 hw1) | (go_at_call 62; refine (HHe.out w1 Hw1.out).mono ?_; rintro e w2 ⟨rfl, hb2⟩; have hb2R := below_then Hb1.out hb2; have Hb2 := Lib.hid hb2R; clear s0 s1 hb2; obtain ⟨x0, x1, hrr, _⟩ := HRf.out w2 hb2R; have c0 := Lib.cell_of_heap hrr 0; have c1 := Lib.cell_of_heap hrr 1; have c2 := Lib.cell_of_heap hrr 2; have c3 := Lib.cell_of_heap hrr 3; have f0 := Go.Joins.unfrozen_of_block hrr 0; have f1 := Go.Joins.unfrozen_of_block hrr 1; have f2 := Go.Joins.unfrozen_of_block hrr 2; have f3 := Go.Joins.unfrozen_of_block hrr 3; obtain ⟨W9, hW9, hrow9, hb9, hs9, hk9⟩ := HSt.out w2 0 ⟨#[]⟩ ⟨#[]⟩ (.slice none 0 0) hb2R; have Hr9 := Lib.hid hrow9; have Hb9 := Lib.hid hb9; clear hrr hrow9 hb9 hs9 hk9; clear hb2R))
      refine bodyPost_ret (results_row2 rfl _ _ V.heap.size _ _ (0, 0) _ rfl Hr9.out Tryd.underlying52 rfl (by kernel_rfl)) rfl ?_; obtain ⟨z1, z2⟩ := HE.out; rw [z1, z2]; exact ⟨_, rfl, HZ.out _ _, Hb9.out⟩
    · by_cases h3 : (S : Int) > c
      · have HE : Hid (terrB G r many = 14 ∧ treeB G r many = default) := by
          have : terrB G r many = 14 := by simp only [terrB, hE, h1, hD, hS]; rw [if_neg (by simp), if_neg h2, if_pos (hcm.1 h3)]
          exact ⟨this, by simp [treeB, this]⟩
        have q1 : (E != 0) = false := by simp [h1]
        have q2 : decide ((10000 : Int) < (D : Int)) = false := decide_eq_false (by omega)
        have q3 : c < (S : Int) := h3
        clear hG hok hN hR hM hbV hrV hsV hbR hrR hsR hrV2 hwR h1 h2 h3 hE hS hD hE0 hrn hRG hacc hDe hSe hS1 hc hcm hrr0 hwV
        go_enter Tryd.func40, Tryd.ntmps40
        go_wp2_with (first | (go_at_call 37; refine HM.out.mono ?_; rintro e w1 ⟨rfl, hb1⟩; obtain ⟨s0, s1, _, hw1⟩ := HRf.out w1 hb1; have Hb1 := Lib.hid hb1; have Hw1 := Lib.hid hw1; clear hb1 hw1) | (go_at_call 62; refine (HHe.out w1 Hw1.out).mono ?_; rintro e w2 ⟨rfl, hb2⟩; have hb2R := below_then Hb1.out hb2; have Hb2 := Lib.hid hb2R; clear s0 s1 hb2; obtain ⟨x0, x1, hrr, _⟩ := HRf.out w2 hb2R; have c0 := Lib.cell_of_heap hrr 0; have c1 := Lib.cell_of_heap hrr 1; have c2 := Lib.cell_of_heap hrr 2; have c3 := Lib.cell_of_heap hrr 3; have f0 := Go.Joins.unfrozen_of_block hrr 0; have f1 := Go.Joins.unfrozen_of_block hrr 1; have f2 := Go.Joins.unfrozen_of_block hrr 2; have f3 := Go.Joins.unfrozen_of_block hrr 3; obtain ⟨W9, hW9, hrow9, hb9, hs9, hk9⟩ := HSt.out w2 0 ⟨#[]⟩ ⟨#[]⟩ (.slice none 0 0) hb2R; have Hr9 := Lib.hid hrow9; have Hb9 := Lib.hid hb9; clear hrr hrow9 hb9 hs9 hk9; clear hb2R) | (go_at_call 63; refine (HCut.out _).mono ?_; rintro e w9 ⟨rfl, rfl⟩))
        refine bodyPost_ret (results_row2 rfl _ _ V.heap.size _ _ (0, 0) _ rfl Hr9.out Tryd.underlying52 rfl (by kernel_rfl)) rfl ?_; obtain ⟨z1, z2⟩ := HE.out; rw [z1, z2]; exact ⟨_, rfl, HZ.out _ _, Hb9.out⟩
      · have HE : Hid (terrB G r many = 0 ∧ treeB G r many = treeA G r) := by
          have : terrB G r many = 0 := by simp only [terrB, hE, h1, hD, hS]; rw [if_neg (by simp), if_neg h2, if_neg (fun h => h3 (hcm.2 h))]
          exact ⟨this, by rw [treeB, if_pos this]; rfl⟩
        have q1 : (E != 0) = false := by simp [h1]
        have q2 : decide ((10000 : Int) < (D : Int)) = false := decide_eq_false (by omega)
        have q3 : decide (c < (S : Int)) = false := decide_eq_false h3
        have hcnt : (treeA G r).count ≤ 1000000 := by
          have h5 := size_count hacc
          have h6 : ¬ (S : Int) > min many 1000000 := fun h => h3 (hcm.2 h)
          unfold great at h5
          omega
        have HTr : Hid (∀ W, Below w.heap.size w W → Calls Tryd.prog 64 #[.agg #[.slice NA G.nodes.length nc, .slice RA G.roots.length rc], .int .i64 (r : Int)] W fun e w' => ∃ v, e = .returned v ∧ TrV w' (hi W.heap.size w') (treeA G r) v ∧ Below W.heap.size W w') := Rtree_any G hRG NA RA nc rc w.heap.size w (Nat.le_refl _) hN r hacc hrn hcnt
        have HVR : Hid (V.heap.size < R.heap.size ∧ w.heap.size ≤ V.heap.size) := ⟨by omega, hwV⟩
        clear hG hok hN hR hM hbV hrV hsV hbR hrR hsR hrV2 hwR h1 h2 h3 hE hS hD hE0 hrn hRG hacc hDe hSe hS1 hc hcm hrr0 hwV hcnt
        go_enter Tryd.func40, Tryd.ntmps40
        go_wp2_with (first
          | (go_at_call 37; refine HM.out.mono ?_; rintro e w1 ⟨rfl, hb1⟩; obtain ⟨s0, s1, _, hw1⟩ := HRf.out w1 hb1; have Hb1 := Lib.hid hb1; have Hw1 := Lib.hid hw1; clear hb1 hw1)
          | (go_at_call 62; refine (HHe.out w1 Hw1.out).mono ?_; rintro e w2 ⟨rfl, hb2⟩; have hb2R := below_then Hb1.out hb2; have Hb2 := Lib.hid hb2R; clear s0 s1 hb2; obtain ⟨x0, x1, _, _⟩ := HRf.out w2 hb2R; clear hb2R)
          | (go_at_call 63; refine (HCut.out _).mono ?_; rintro e w9 ⟨rfl, rfl⟩)
          | (go_at_call 64; refine (HTr.out w9 (HRf.out w9 Hb2.out).2.2.2).mono ?_; rintro e w3 ⟨v, rfl, ⟨A', c', rfl, hlc, hkd⟩, hb3⟩; have hb3R := below_then Hb2.out hb3; obtain ⟨_, _, hrr, _⟩ := HRf.out w3 hb3R; have c0' := Lib.cell_of_heap hrr 0; have c1' := Lib.cell_of_heap hrr 1; have c2' := Lib.cell_of_heap hrr 2; have c3' := Lib.cell_of_heap hrr 3; have f0' := Go.Joins.unfrozen_of_block hrr 0; have f1' := Go.Joins.unfrozen_of_block hrr 1; have f2' := Go.Joins.unfrozen_of_block hrr 2; have f3' := Go.Joins.unfrozen_of_block hrr 3
             obtain ⟨X9, hX9, hrx9, hbx9, hsx9, hkx9⟩ := HSt.out w3 (treeA G r).kind (treeA G r).tag (treeA G r).text (.slice A' (treeA G r).kids.length c') hb3R
             have Hrx := Lib.hid hrx9
             have Hbx := Lib.hid hbx9
             have HVx : Hid (TrV X9 (hi w.heap.size X9) (treeA G r) (.agg #[.int .i64 (treeA G r).kind, .string (treeA G r).tag, .string (treeA G r).text, .slice A' (treeA G r).kids.length c'])) := ⟨A', c', rfl, hlc, hkd.keep (fun b hb => hkx9 b (by have := hb.1; have := HVR.out; have := Hb2.out.size; omega)) fun b hb => ⟨by have := hb.1; have := HVR.out; have := Hb2.out.size; omega, by rw [hsx9]; exact hb.2⟩⟩
             clear hlc hkd hb3 hb3R hrr hrx9 hbx9 hsx9 hkx9))
        refine bodyPost_ret (results_row2 rfl _ _ V.heap.size _ _ (0, 0) _ rfl Hrx.out Tryd.underlying52 rfl (by kernel_rfl)) rfl ?_
        obtain ⟨z1, z2⟩ := HE.out
        rw [z1, z2]
        exact ⟨_, rfl, HVx.out, Hbx.out⟩
  · have HE : Hid (terrB G root many = E ∧ treeB G root many = default) := by
      have : terrB G root many = E := by simp [terrB, hE, h1]
      exact ⟨this, by rw [treeB, this, if_neg h1]⟩
    have q1 : (E != 0) = true := by simp [h1]
    clear hG hok hN hR hM hbV hrV hsV hbR hrR hsR hrV2 hwR h1 hE hS hD hwV hrr0
    go_enter Tryd.func40, Tryd.ntmps40
    go_wp2_with (go_at_call 37; refine HM.out.mono ?_; rintro e w1 ⟨rfl, hb1⟩; obtain ⟨x0, x1, hrr, _⟩ := HRf.out w1 hb1; have c0 := Lib.cell_of_heap hrr 0; have c1 := Lib.cell_of_heap hrr 1; have c2 := Lib.cell_of_heap hrr 2; have c3 := Lib.cell_of_heap hrr 3; have f0 := Go.Joins.unfrozen_of_block hrr 0; have f1 := Go.Joins.unfrozen_of_block hrr 1; have f2 := Go.Joins.unfrozen_of_block hrr 2; have f3 := Go.Joins.unfrozen_of_block hrr 3; obtain ⟨W9, hW9, hrow9, hb9, hs9, hk9⟩ := HSt.out w1 0 ⟨#[]⟩ ⟨#[]⟩ (.slice none 0 0) hb1; have Hr9 := Lib.hid hrow9; have Hb9 := Lib.hid hb9; clear hrr hrow9 hb9 hs9 hk9; clear hb1)
    refine bodyPost_ret (results_row2 rfl _ _ V.heap.size _ _ (0, 0) _ rfl Hr9.out Tryd.underlying52 rfl (by kernel_rfl)) rfl ?_; obtain ⟨z1, z2⟩ := HE.out; rw [z1, z2]; exact ⟨_, rfl, HZ.out _ _, Hb9.out⟩
end Go.Proofs.YtdcbngimgpdjoaaDoor
