/- The law ExpandTrees, walked. Conditions: utf8's tables lie in the world; a graph's texts and rows hold no more than a million million. -/
import Derived.Test.YtdcbngimgpdjoaaDoorXy
import Derived.Test.YtdcbngimgpdjoaaDoorXf
import Derived.Test.YtdcbngimgpdjoaaDoorXz
namespace Go.Proofs.YtdcbngimgpdjoaaDoor
open Go.RowKit Go.Shelf Go.Deep
attribute [local go_sem] Oper.semAt_some
theorem terr_zero {G : Gr} {root many : Int} (h : terrB G root many = 0) : ((treeB G root many).count : Int) ≤ many ∧ (treeB G root many).count ≤ 1000000 := by
  have h0 := h
  unfold terrB at h
  by_cases h1 : errB G root ≠ 0
  · rw [if_pos h1] at h; exact absurd h h1
  · rw [if_neg h1] at h
    by_cases h2 : 10000 < deepB G root
    · rw [if_pos h2] at h; cases h
    · rw [if_neg h2] at h
      by_cases h3 : (sizeB G root : Int) > min many 1000000
      · rw [if_pos h3] at h; cases h
      · have h4 : errB G root = 0 := by simpa using h1
        obtain ⟨r, rfl, hr, hR, ha⟩ := err_zero h4
        rw [treeB, if_pos h0]
        have h5 := size_count ha
        rw [sizeB, if_pos h4] at h3
        simp only [Int.toNat_natCast] at h3 ⊢
        unfold great at h5
        omega
theorem tree_small (G : Gr) (root many : Int) : (treeB G root many).count ≤ 1000000 := by
  by_cases h : terrB G root many = 0
  · exact (terr_zero h).2
  · rw [treeB, if_neg h]; show Tr.count (.mk 0 ⟨#[]⟩ ⟨#[]⟩ []) ≤ _; simp [Tr.count, Tr.counts]
theorem TrV.lower {W W' : World} {n : Nat} {t : Tr} {v : Value} (h : TrV W (hi n W) t v) (hb : Below W.heap.size W W') : TrV W' (lo W'.heap.size) t v :=
  h.keep (fun b hb' => hb.block b hb'.2) fun _ hb' => Nat.lt_of_lt_of_le hb'.2 hb.size
set_option maxRecDepth 100000 in
set_option maxHeartbeats 4000000 in
theorem expandTrees_walk (w : World) (hT : Tabs w) (G : Gr) (v : Value) (hG : GrAt w w.heap.size G v) (hok : G.ok) (hokB : G.okB) (root most : Int) :
    Calls Tryd.prog 12 #[v, .int .i64 root, .int .i64 most] w fun e w' => e = .returned (.bool true) ∧ Below w.heap.size w w' := by
  have HGw : Hid (∀ W, Below w.heap.size w W → GrAt W W.heap.size G v) := fun W hW => (hG.below hW (Nat.le_refl _)).more hW.size
  have HTw : Hid (∀ W, Below w.heap.size w W → Tabs W) := fun W hW => hT.below hW
  obtain ⟨NA, nc, RA, rc, rfl, hN, hR⟩ := hG.ex
  obtain ⟨V, hV, hbV, hrV, hsV⟩ := box2 w (.slice NA G.nodes.length nc) (.slice RA G.roots.length rc) 25
  have HG0 : Hid (∀ W, Below V.heap.size V W → W.cell? ⟨w.heap.size, 0, none⟩ = some (.slice NA G.nodes.length nc) ∧ W.cell? ⟨w.heap.size, 1, none⟩ = some (.slice RA G.roots.length rc) ∧ Below w.heap.size w W) := fun W h => by
    have hr := (h.block w.heap.size (by omega)).trans hrV
    exact ⟨Lib.cell_of_heap hr 0, Lib.cell_of_heap hr 1, below_then hbV h⟩
  have HA : Hid (Calls Tryd.prog 35 #[] V fun e w' => e = .returned (.bool true) ∧ Below V.heap.size V w') := alive23_any V (hT.below hbV)
  have HB : Hid (∀ W, Below w.heap.size w W → Calls Tryd.prog 17 #[.agg #[.slice NA G.nodes.length nc, .slice RA G.roots.length rc]] W fun r w' => r = .returned (.bool (bigB G)) ∧ Below W.heap.size W w') := fun W hW => Big_any G _ W (HGw.out W hW) hokB
  have HOk := Lib.hid hok
  cases hbg : bigB G with
  | true =>
    rw [hbg] at HB
    clear hbg hG hT hok hokB hN hR hbV hrV hsV
    go_enter Tryd.func12, Tryd.ntmps12
    go_wp2_with (first
      | (go_at_call 35; refine HA.out.mono ?_; rintro e w1 ⟨rfl, hb1⟩; obtain ⟨g0, g1, hw1⟩ := HG0.out w1 hb1; have Hb1 := Lib.hid hb1; have Hw1 := Lib.hid hw1; clear hb1 hw1)
      | (go_at_call 17; refine (HB.out w1 Hw1.out).mono ?_; rintro e w2 ⟨rfl, hb2⟩; have hb2' := below_then Hb1.out hb2; obtain ⟨g2, g3, hw2⟩ := HG0.out w2 hb2'; have Hb2 := Lib.hid hb2'; have Hw2 := Lib.hid hw2; clear hb2 hb2' hw2 g0 g1))
    go_ret
    exact ⟨rfl, Hw2.out⟩
  | false =>
    have hoR := hokB.okR hbg
    rw [hbg] at HB
    by_cases hm : 3000 < most
    · clear hbg hG hT hok hokB hN hR hbV hrV hsV hoR
      go_enter Tryd.func12, Tryd.ntmps12
      go_wp2_with (first
        | (go_at_call 35; refine HA.out.mono ?_; rintro e w1 ⟨rfl, hb1⟩; obtain ⟨g0, g1, hw1⟩ := HG0.out w1 hb1; have Hb1 := Lib.hid hb1; have Hw1 := Lib.hid hw1; clear hb1 hw1)
        | (go_at_call 17; refine (HB.out w1 Hw1.out).mono ?_; rintro e w2 ⟨rfl, hb2⟩; have hb2' := below_then Hb1.out hb2; obtain ⟨g2, g3, hw2⟩ := HG0.out w2 hb2'; have Hb2 := Lib.hid hb2'; have Hw2 := Lib.hid hw2; clear hb2 hb2' hw2 g0 g1))
      go_ret
      exact ⟨rfl, Hw2.out⟩
    · have hmd : decide (3000 < most) = false := decide_eq_false hm
      have HS : Hid (∀ W, Below w.heap.size w W → Calls Tryd.prog 39 #[.agg #[.slice NA G.nodes.length nc, .slice RA G.roots.length rc], .int .i64 root, .int .i64 most] W fun e w' => ∃ x, e = .returned (.tuple #[x, .int .i64 (terrB G root most)]) ∧ TrV w' (hi W.heap.size w') (treeB G root most) x ∧ Below W.heap.size W w') := fun W hW => Tree_any G _ root most W (HGw.out W hW) HOk.out (HTw.out W hW)
      have HR : Hid (∀ W, Below w.heap.size w W → Calls Tryd.prog 40 #[.agg #[.slice NA G.nodes.length nc, .slice RA G.roots.length rc], .int .i64 root, .int .i64 most] W fun e w' => ∃ x, e = .returned (.tuple #[x, .int .i64 (terrB G root most)]) ∧ TrV w' (hi W.heap.size w') (treeB G root most) x ∧ Below W.heap.size W w') := fun W hW => RTree_any G _ root most W (HGw.out W hW) hoR
      have hts := tree_small G root most
      have hz := terr_zero (G := G) (root := root) (many := most)
      obtain ⟨te, hte⟩ : ∃ x, terrB G root most = x := ⟨_, rfl⟩
      obtain ⟨tr, htr⟩ : ∃ x, treeB G root most = x := ⟨_, rfl⟩
      rw [hte, htr] at HS HR
      rw [htr] at hts
      rw [hte, htr] at hz
      have Hts := Lib.hid hts
      have Hz := Lib.hid hz
      clear hbg hG hT hok hokB hN hR hbV hrV hsV hoR hm hts hz hte htr
      by_cases h0 : te = 0
      · subst h0
        have hmo := (Hz.out rfl).1
        have hmo2 : decide ((tr.count : Int) ≤ most) = true := decide_eq_true hmo
        go_enter Tryd.func12, Tryd.ntmps12
        go_wp2_with (first
          | (go_at_call 35; refine HA.out.mono ?_; rintro e w1 ⟨rfl, hb1⟩; obtain ⟨g0, g1, hw1⟩ := HG0.out w1 hb1; have Hb1 := Lib.hid hb1; have Hw1 := Lib.hid hw1; clear hb1 hw1)
          | (go_at_call 17; refine (HB.out w1 Hw1.out).mono ?_; rintro e w2 ⟨rfl, hb2⟩; have hb2' := below_then Hb1.out hb2; obtain ⟨g2, g3, hw2⟩ := HG0.out w2 hb2'; have Hb2 := Lib.hid hb2'; have Hw2 := Lib.hid hw2; clear hb2 hb2' hw2 g0 g1)
          | (go_at_call 39; refine (HS.out w2 Hw2.out).mono ?_; rintro e w3 ⟨y, rfl, ⟨A', c', rfl, hlc, hkd⟩, hb3⟩; obtain ⟨U, hU, hbU, hrU, hsU⟩ := boxN w3 #[.int .i64 tr.kind, .string tr.tag, .string tr.text, .slice A' tr.kids.length c'] 52; have hb3' := below_then Hb2.out (below_then hb3 hbU); obtain ⟨g4, g5, hw3⟩ := HG0.out U hb3'; have Hb3 := Lib.hid hb3'; have Hw3 := Lib.hid hw3; have HT1 : Hid (TrV U (lo U.heap.size) tr (.agg #[.int .i64 tr.kind, .string tr.tag, .string tr.text, .slice A' tr.kids.length c'])) := TrV.lower ⟨A', c', rfl, hlc, hkd⟩ hbU; have HrU := Lib.hid hrU; have HsU := Lib.hid hsU; clear hb3 hb3' hw3 g2 g3 hlc hkd hbU hrU hsU)
          | (go_at_call 40; refine (HR.out U Hw3.out).mono ?_; rintro e w4 ⟨y2, rfl, ⟨A2, c2, rfl, hlc, hkd⟩, hb4⟩; obtain ⟨X, hX, hbX, hrX, hsX⟩ := boxN w4 #[.int .i64 tr.kind, .string tr.tag, .string tr.text, .slice A2 tr.kids.length c2] 52; have HX1 : Hid (TrV X (lo X.heap.size) tr (.agg #[.int .i64 tr.kind, .string tr.tag, .string tr.text, .slice A' tr.kids.length c'])) := HT1.out.below (below_then hb4 hbX) (below_then hb4 hbX).size; have HX2 : Hid (TrV X (lo X.heap.size) tr (.agg #[.int .i64 tr.kind, .string tr.tag, .string tr.text, .slice A2 tr.kids.length c2])) := TrV.lower ⟨A2, c2, rfl, hlc, hkd⟩ hbX; have HwX := Lib.hid (below_then Hw3.out (below_then hb4 hbX)); have hrt := ((below_then hb4 hbX).block w3.heap.size (by have := HsU.out; omega)).trans HrU.out; have HC : Hid (∀ W, Below X.heap.size X W → W.cell? ⟨w3.heap.size, 0, none⟩ = some (.int .i64 tr.kind) ∧ W.cell? ⟨w3.heap.size, 1, none⟩ = some (.string tr.tag) ∧ W.cell? ⟨w3.heap.size, 2, none⟩ = some (.string tr.text) ∧ W.cell? ⟨w3.heap.size, 3, none⟩ = some (.slice A' tr.kids.length c') ∧ W.cell? ⟨w4.heap.size, 0, none⟩ = some (.int .i64 tr.kind) ∧ W.cell? ⟨w4.heap.size, 1, none⟩ = some (.string tr.tag) ∧ W.cell? ⟨w4.heap.size, 2, none⟩ = some (.string tr.text) ∧ W.cell? ⟨w4.heap.size, 3, none⟩ = some (.slice A2 tr.kids.length c2)) := fun W hW => (by have q1 := (hW.block w3.heap.size (by have := HsU.out; have := (below_then hb4 hbX).size; omega)).trans hrt; have q2 := (hW.block w4.heap.size (by omega)).trans hrX; exact ⟨Lib.cell_of_heap q1 0, Lib.cell_of_heap q1 1, Lib.cell_of_heap q1 2, Lib.cell_of_heap q1 3, Lib.cell_of_heap q2 0, Lib.cell_of_heap q2 1, Lib.cell_of_heap q2 2, Lib.cell_of_heap q2 3⟩); obtain ⟨d0, d1, d2, d3, d4, d5, d6, d7⟩ := HC.out X (Below.refl _ _); clear hb4 hlc hkd hbX hrX hsX hrt g4 g5)
          | (go_at_call 38; refine (num23_any _ _).mono ?_; rintro e w' ⟨rfl, hw'⟩; have hw' := hw'.symm; subst hw')
          | (go_at_call 41; refine (SameTree_any _ tr _ _ _ (Nat.le_refl _) (by have := Hts.out; omega) HX1.out HX2.out).mono ?_; rintro e w5 ⟨rfl, hb5⟩; have Hb5 := Lib.hid hb5; obtain ⟨e0, e1, e2, e3, e4, e5, e6, e7⟩ := HC.out w5 hb5; clear hb5 d0 d1 d2 d3 d4 d5 d6 d7))
        have HC1 : Hid (∀ W, Below X.heap.size X W → Calls Tryd.prog 42 #[.agg #[.int .i64 tr.kind, .string tr.tag, .string tr.text, .slice A' tr.kids.length c']] W fun e w' => e = .returned (.int .i64 (tr.count : Nat)) ∧ Below X.heap.size X w') := fun W hW => (Count_any _ tr _ W (Nat.le_refl _) (by have := Hts.out; omega) (HX1.out.below hW hW.size)).mono fun e w' h => ⟨h.1, below_then hW h.2⟩
        have HC2 : Hid (∀ W, Below X.heap.size X W → Calls Tryd.prog 43 #[.agg #[.int .i64 tr.kind, .string tr.tag, .string tr.text, .slice A2 tr.kids.length c2]] W fun e w' => e = .returned (.int .i64 (tr.count : Nat)) ∧ Below X.heap.size X w') := fun W hW => (RCount_any _ tr _ W (Nat.le_refl _) (by have := Hts.out; omega) (HX2.out.below hW hW.size)).mono fun e w' h => ⟨h.1, below_then hW h.2⟩
        have Hb6 : Hid (Below X.heap.size X w5.drew) := Hb5.out.drew
        have hcc : (((tr.count : Nat) : Int) == ((tr.count : Nat) : Int)) = true := by simp
        go_region_held3 (fun W => W.cell? ⟨w3.heap.size, 0, none⟩ = some (.int .i64 tr.kind) ∧ W.cell? ⟨w3.heap.size, 1, none⟩ = some (.string tr.tag) ∧ W.cell? ⟨w3.heap.size, 2, none⟩ = some (.string tr.text) ∧ W.cell? ⟨w3.heap.size, 3, none⟩ = some (.slice A' tr.kids.length c') ∧ W.cell? ⟨w4.heap.size, 0, none⟩ = some (.int .i64 tr.kind) ∧ W.cell? ⟨w4.heap.size, 1, none⟩ = some (.string tr.tag) ∧ W.cell? ⟨w4.heap.size, 2, none⟩ = some (.string tr.text) ∧ W.cell? ⟨w4.heap.size, 3, none⟩ = some (.slice A2 tr.kids.length c2))
          (first | exact HC.out _ HbZ.out | exact HC.out _ Hb6.out)
          (first
            | (go_at_call 42; refine (HC1.out _ (by first | exact HbZ.out | exact Hb6.out)).mono ?_; rintro e wZ ⟨rfl, hbZ⟩; have HbZ := Lib.hid hbZ; clear hbZ)
            | (go_at_call 43; refine (HC2.out _ (by first | exact HbZ.out | exact Hb6.out)).mono ?_; rintro e wZ ⟨rfl, hbZ⟩; have HbZ := Lib.hid hbZ; clear hbZ))
        all_goals go_wp2_with fail
        all_goals go_ret
        all_goals exact ⟨by first | rfl | simp, below_then HwX.out HbZ.out⟩
      · have q0 : (te != 0) = true := by simpa using h0
        have q1 : (te == te) = true := by simp
        clear h0
        go_enter Tryd.func12, Tryd.ntmps12
        go_wp2_with (first
          | (go_at_call 35; refine HA.out.mono ?_; rintro e w1 ⟨rfl, hb1⟩; obtain ⟨g0, g1, hw1⟩ := HG0.out w1 hb1; have Hb1 := Lib.hid hb1; have Hw1 := Lib.hid hw1; clear hb1 hw1)
          | (go_at_call 17; refine (HB.out w1 Hw1.out).mono ?_; rintro e w2 ⟨rfl, hb2⟩; have hb2' := below_then Hb1.out hb2; obtain ⟨g2, g3, hw2⟩ := HG0.out w2 hb2'; have Hb2 := Lib.hid hb2'; have Hw2 := Lib.hid hw2; clear hb2 hb2' hw2 g0 g1)
          | (go_at_call 39; refine (HS.out w2 Hw2.out).mono ?_; rintro e w3 ⟨y, rfl, ⟨A', c', rfl, hlc, hkd⟩, hb3⟩; obtain ⟨U, hU, hbU, hrU, hsU⟩ := boxN w3 #[.int .i64 tr.kind, .string tr.tag, .string tr.text, .slice A' tr.kids.length c'] 52; have hb3' := below_then Hb2.out (below_then hb3 hbU); obtain ⟨g4, g5, hw3⟩ := HG0.out U hb3'; have Hb3 := Lib.hid hb3'; have Hw3 := Lib.hid hw3; have HT1 : Hid (TrV U (lo U.heap.size) tr (.agg #[.int .i64 tr.kind, .string tr.tag, .string tr.text, .slice A' tr.kids.length c'])) := TrV.lower ⟨A', c', rfl, hlc, hkd⟩ hbU; have HrU := Lib.hid hrU; have HsU := Lib.hid hsU; clear hb3 hb3' hw3 g2 g3 hlc hkd hbU hrU hsU)
          | (go_at_call 40; refine (HR.out U Hw3.out).mono ?_; rintro e w4 ⟨y2, rfl, ⟨A2, c2, rfl, hlc, hkd⟩, hb4⟩; obtain ⟨X, hX, hbX, hrX, hsX⟩ := boxN w4 #[.int .i64 tr.kind, .string tr.tag, .string tr.text, .slice A2 tr.kids.length c2] 52; have HX1 : Hid (TrV X (lo X.heap.size) tr (.agg #[.int .i64 tr.kind, .string tr.tag, .string tr.text, .slice A' tr.kids.length c'])) := HT1.out.below (below_then hb4 hbX) (below_then hb4 hbX).size; have HX2 : Hid (TrV X (lo X.heap.size) tr (.agg #[.int .i64 tr.kind, .string tr.tag, .string tr.text, .slice A2 tr.kids.length c2])) := TrV.lower ⟨A2, c2, rfl, hlc, hkd⟩ hbX; have HwX := Lib.hid (below_then Hw3.out (below_then hb4 hbX)); have hrt := ((below_then hb4 hbX).block w3.heap.size (by have := HsU.out; omega)).trans HrU.out; have HC : Hid (∀ W, Below X.heap.size X W → W.cell? ⟨w3.heap.size, 0, none⟩ = some (.int .i64 tr.kind) ∧ W.cell? ⟨w3.heap.size, 1, none⟩ = some (.string tr.tag) ∧ W.cell? ⟨w3.heap.size, 2, none⟩ = some (.string tr.text) ∧ W.cell? ⟨w3.heap.size, 3, none⟩ = some (.slice A' tr.kids.length c') ∧ W.cell? ⟨w4.heap.size, 0, none⟩ = some (.int .i64 tr.kind) ∧ W.cell? ⟨w4.heap.size, 1, none⟩ = some (.string tr.tag) ∧ W.cell? ⟨w4.heap.size, 2, none⟩ = some (.string tr.text) ∧ W.cell? ⟨w4.heap.size, 3, none⟩ = some (.slice A2 tr.kids.length c2)) := fun W hW => (by have q1 := (hW.block w3.heap.size (by have := HsU.out; have := (below_then hb4 hbX).size; omega)).trans hrt; have q2 := (hW.block w4.heap.size (by omega)).trans hrX; exact ⟨Lib.cell_of_heap q1 0, Lib.cell_of_heap q1 1, Lib.cell_of_heap q1 2, Lib.cell_of_heap q1 3, Lib.cell_of_heap q2 0, Lib.cell_of_heap q2 1, Lib.cell_of_heap q2 2, Lib.cell_of_heap q2 3⟩); obtain ⟨d0, d1, d2, d3, d4, d5, d6, d7⟩ := HC.out X (Below.refl _ _); clear hb4 hlc hkd hbX hrX hsX hrt g4 g5)
          | (go_at_call 38; refine (num23_any _ _).mono ?_; rintro e w' ⟨rfl, hw'⟩; have hw' := hw'.symm; subst hw')
          | (go_at_call 41; refine (SameTree_any _ tr _ _ _ (Nat.le_refl _) (by have := Hts.out; omega) HX1.out HX2.out).mono ?_; rintro e w5 ⟨rfl, hb5⟩; have Hb5 := Lib.hid hb5; obtain ⟨e0, e1, e2, e3, e4, e5, e6, e7⟩ := HC.out w5 hb5; clear hb5 d0 d1 d2 d3 d4 d5 d6 d7))
        have Hb6 : Hid (Below X.heap.size X w5.drew) := Hb5.out.drew
        go_region
        all_goals go_wp2_with fail
        all_goals go_ret
        all_goals exact ⟨by first | rfl | simp, below_then HwX.out Hb6.out⟩
end Go.Proofs.YtdcbngimgpdjoaaDoor
