/- The law IsoTells. Conditions: utf8's tables lie in the world; the graphs' texts and rows hold no more than a million million. -/
import Derived.Test.YtdcbngimgpdjoaaDoorJa
import Derived.Test.YtdcbngimgpdjoaaDoorGb
import Derived.Deep.RegionHeld3
namespace Go.Proofs.YtdcbngimgpdjoaaDoor
open Go.RowKit Go.Shelf Go.Deep
theorem formB_okS (G : Gr) : (formB G).okS := by
  unfold formB
  split
  · next h =>
    have h1 := formG_right (RightR.of h)
    exact ⟨by have := h1.nodes; omega, by have := h1.many; omega, h1.toRightG.kidsLen⟩
  · exact ⟨by simp, by simp, fun e he => by simp at he⟩
set_option maxRecDepth 100000 in
set_option maxHeartbeats 8000000 in
theorem isoTells_walk (w : World) (hT : Tabs w) (G : Gr) (u : Value) (hG : GrAt w w.heap.size G u) (okG : G.ok) (okGB : G.okB) (H : Gr) (v : Value) (hH : GrAt w w.heap.size H v) (okH : H.ok) (okHB : H.okB) :
    Calls Tryd.prog 7 #[u, v] w fun e w' => e = .returned (.bool true) ∧ Below w.heap.size w w' := by
  have hGW : ∀ W, Below w.heap.size w W → GrAt W W.heap.size G u := fun W hW => (hG.below hW (Nat.le_refl _)).more hW.size
  have hHW : ∀ W, Below w.heap.size w W → GrAt W W.heap.size H v := fun W hW => (hH.below hW (Nat.le_refl _)).more hW.size
  have HB1 : Hid (∀ W, Below w.heap.size w W → Calls Tryd.prog 17 #[u] W fun e w' => e = .returned (.bool (bigB G)) ∧ Below W.heap.size W w') := fun W hW => Big_any G u W (hGW W hW) okGB
  have HB2 : Hid (∀ W, Below w.heap.size w W → Calls Tryd.prog 17 #[v] W fun e w' => e = .returned (.bool (bigB H)) ∧ Below W.heap.size W w') := fun W hW => Big_any H v W (hHW W hW) okHB
  have HS : Hid (∀ W, Below w.heap.size w W → Calls Tryd.prog 30 #[u, v] W fun e w' => e = .returned (.bool (sameB G H)) ∧ Below W.heap.size W w') := fun W hW => Same_any G H u v W (hGW W hW) (hHW W hW) okG okH (hT.below hW)
  have HR : Hid (bigB G = false → bigB H = false → ∀ W, Below w.heap.size w W → Calls Tryd.prog 31 #[u, v] W fun e w' => e = .returned (.bool (sameB G H)) ∧ Below W.heap.size W w') := fun h1 h2 W hW => RSame_any G H u v W (hGW W hW) (hHW W hW) (okGB.okR h1) (okHB.okR h2)
  have HF : Hid (∀ W, Below w.heap.size w W → Calls Tryd.prog 33 #[u] W fun e w' => ∃ x, e = .returned x ∧ GrAt w' w'.heap.size (formB G) x ∧ Below W.heap.size W w') := fun W hW => Form_any G u W (hGW W hW) okG (hT.below hW)
  have HK : Hid (bigB G = false → ∀ W, Below w.heap.size w W → Calls Tryd.prog 34 #[u] W fun e w' => ∃ x, e = .returned x ∧ GrAt w' w'.heap.size (formB G) x ∧ Below W.heap.size W w') := fun h1 W hW => (RForm_any G u W (hGW W hW) (okGB.okR h1)).mono (by
    rintro e w' ⟨nv, rv, L, l, rfl, hm⟩; exact ⟨_, rfl, hm.gr, hm.below⟩)
  have HG : Hid (∀ W x y, GrAt W W.heap.size (formB G) x → GrAt W W.heap.size (formB G) y → Calls Tryd.prog 32 #[x, y] W fun e w' => e = .returned (.bool true) ∧ Below W.heap.size W w') := fun W x y h1 h2 => by
    have := SameGraph_any (formB G) (formB G) x y W h1 h2 (formB_okS G)
    rwa [decide_eq_true rfl] at this
  obtain ⟨NA, nc, RA, rc, rfl, _, _⟩ := hG.ex
  obtain ⟨NB, mc, RB, sc, rfl, _, _⟩ := hH.ex
  obtain ⟨U, hU, hbU, hrU, hsU⟩ := boxCs w #[.slice NA G.nodes.length nc, .slice RA G.roots.length rc] 25
  obtain ⟨V, hV, hbV, hrV, hsV⟩ := boxCs U #[.slice NB H.nodes.length mc, .slice RB H.roots.length sc] 25
  have hrU2 := (hbV.block w.heap.size (by omega)).trans hrU
  rw [hsU] at hrV
  have hbV2 := below_then hbU hbV
  have HA : Hid (Calls Tryd.prog 29 #[] V fun e w' => e = .returned (.bool true) ∧ Below V.heap.size V w') := alive22_any V (hT.below hbV2)
  have HC : Hid (∀ W, Below V.heap.size V W → W.cell? ⟨w.heap.size, 0, none⟩ = some (.slice NA G.nodes.length nc) ∧ W.cell? ⟨w.heap.size, 1, none⟩ = some (.slice RA G.roots.length rc) ∧ W.cell? ⟨w.heap.size + 1, 0, none⟩ = some (.slice NB H.nodes.length mc) ∧ W.cell? ⟨w.heap.size + 1, 1, none⟩ = some (.slice RB H.roots.length sc) ∧ Below w.heap.size w W) := fun W hW => by
    have a := (hW.block w.heap.size (by omega)).trans hrU2
    have b := (hW.block (w.heap.size + 1) (by omega)).trans hrV
    exact ⟨Lib.cell_of_heap a 0, Lib.cell_of_heap a 1, Lib.cell_of_heap b 0, Lib.cell_of_heap b 1, below_then hbV2 hW⟩
  obtain ⟨v0, v1, v2, v3, _⟩ := HC.out V (Below.refl _ _)
  obtain ⟨g1, hg1⟩ : ∃ x, bigB G = x := ⟨_, rfl⟩
  obtain ⟨g2, hg2⟩ : ∃ x, bigB H = x := ⟨_, rfl⟩
  obtain ⟨sb, hsb⟩ : ∃ x, sameB G H = x := ⟨_, rfl⟩
  rw [hg1] at HB1 HR HK
  rw [hg2] at HB2 HR
  rw [hsb] at HS HR
  clear hT hG okG okGB hH okH okHB hGW hHW hbU hrU hbV hrV hsV hrU2 hbV2 hg1 hg2 hsb
  cases g1 with
  | true =>
    clear HS HR HF HK HG HB2
    go_enter Tryd.func7, Tryd.ntmps7
    go_wp2_with (first
      | (go_at_call 29; refine HA.out.mono ?_; rintro e w1 ⟨rfl, hb1⟩; obtain ⟨x0, x1, x2, x3, x4⟩ := HC.out w1 hb1; have X4 := Lib.hid x4; clear hb1 x4)
      | (go_at_call 17; refine (HB1.out w1 X4.out).mono ?_; rintro e w2 ⟨rfl, hb2⟩; have X5 := Lib.hid (below_then X4.out hb2); clear hb2))
    go_ret
    exact ⟨by first | rfl | simp, X5.out⟩
  | false =>
    cases g2 with
    | true =>
      clear HS HR HF HK HG
      go_enter Tryd.func7, Tryd.ntmps7
      go_wp2_with (first
        | (go_at_call 29; refine HA.out.mono ?_; rintro e w1 ⟨rfl, hb1⟩; obtain ⟨x0, x1, x2, x3, x4⟩ := HC.out w1 hb1; have Hb1 := Lib.hid hb1; have X4 := Lib.hid x4; clear hb1 x4)
        | (go_at_call 17; with_reducible refine (HB1.out w1 X4.out).mono ?_; rintro e w2 ⟨rfl, hb2⟩; have Hb2 := Lib.hid (below_then Hb1.out hb2); obtain ⟨y0, y1, y2, y3, _⟩ := HC.out w2 Hb2.out; clear hb2)
        | (go_at_call 17; with_reducible refine (HB2.out w2 (HC.out w2 Hb2.out).2.2.2.2).mono ?_; rintro e w3 ⟨rfl, hb3⟩; have X5 := Lib.hid (below_then (HC.out w2 Hb2.out).2.2.2.2 hb3); clear hb3))
      go_ret
      exact ⟨by first | rfl | simp, X5.out⟩
    | false =>
      have h1 := Lib.hid (HR.out rfl rfl)
      have h2 := Lib.hid (HK.out rfl)
      clear HR HK
      go_enter Tryd.func7, Tryd.ntmps7
      go_wp2_with (first
        | (go_at_call 29; refine HA.out.mono ?_; rintro e w1 ⟨rfl, hb1⟩; obtain ⟨x0, x1, x2, x3, x4⟩ := HC.out w1 hb1; have Hb1 := Lib.hid hb1; have X4 := Lib.hid x4; clear hb1 x4)
        | (go_at_call 17; with_reducible refine (HB1.out w1 X4.out).mono ?_; rintro e w2 ⟨rfl, hb2⟩; have Hb2 := Lib.hid (below_then Hb1.out hb2); obtain ⟨y0, y1, y2, y3, _⟩ := HC.out w2 Hb2.out; clear hb2)
        | (go_at_call 17; with_reducible refine (HB2.out w2 (HC.out w2 Hb2.out).2.2.2.2).mono ?_; rintro e w3 ⟨rfl, hb3⟩; have Hb3 := Lib.hid (below_then Hb2.out hb3); obtain ⟨z0, z1, z2, z3, _⟩ := HC.out w3 Hb3.out; clear hb3))
      have Hbc : Hid (Below V.heap.size V w3.drew) := Hb3.out.drew
      clear x0 x1 x2 x3 y0 y1 y2 y3 v0 v1 v2 v3
      go_region_held3 (fun W' => W'.cell? ⟨w.heap.size, 0, none⟩ = some (.slice NA G.nodes.length nc) ∧ W'.cell? ⟨w.heap.size, 1, none⟩ = some (.slice RA G.roots.length rc) ∧ W'.cell? ⟨w.heap.size + 1, 0, none⟩ = some (.slice NB H.nodes.length mc) ∧ W'.cell? ⟨w.heap.size + 1, 1, none⟩ = some (.slice RB H.roots.length sc)) (go_keep) (first
        | (go_at_call 32; refine (HG.out _ _ _ HX.out HY.out).mono ?_; rintro e wn ⟨rfl, hbn⟩; have Hbn := Lib.hid (below_then Hbc.out hbn); obtain ⟨x0, x1, x2, x3, _⟩ := HC.out _ Hbn.out; clear Hbc hbn; have Hbc := Hbn; clear Hbn)
        | (go_at_call 30; refine (HS.out _ (HC.out _ Hbc.out).2.2.2.2).mono ?_; rintro e wn ⟨rfl, hbn⟩; have Hbn := Lib.hid (below_then Hbc.out hbn); obtain ⟨x0, x1, x2, x3, _⟩ := HC.out _ Hbn.out; clear Hbc hbn; have Hbc := Hbn; clear Hbn)
        | (go_at_call 31; refine (h1.out _ (HC.out _ Hbc.out).2.2.2.2).mono ?_; rintro e wn ⟨rfl, hbn⟩; have Hbn := Lib.hid (below_then Hbc.out hbn); obtain ⟨x0, x1, x2, x3, _⟩ := HC.out _ Hbn.out; clear Hbc hbn; have Hbc := Hbn; clear Hbn)
        | (go_at_call 33; refine (HF.out _ (HC.out _ Hbc.out).2.2.2.2).mono ?_; rintro e wn ⟨fx, rfl, hx, hbn⟩; have HX0 := Lib.hid hx; have Hbn := Lib.hid (below_then Hbc.out hbn); obtain ⟨x0, x1, x2, x3, _⟩ := HC.out _ Hbn.out; clear Hbc hbn hx; have Hbc := Hbn; clear Hbn)
        | (go_at_call 34; refine (h2.out _ (HC.out _ Hbc.out).2.2.2.2).mono ?_; rintro e wn ⟨fy, rfl, hx, hbn⟩; have HY := Lib.hid hx; have HX := Lib.hid ((HX0.out.below hbn (Nat.le_refl _)).more hbn.size); have Hbn := Lib.hid (below_then Hbc.out hbn); obtain ⟨x0, x1, x2, x3, _⟩ := HC.out _ Hbn.out; clear Hbc hbn hx; have Hbc := Hbn; clear Hbn))
      all_goals go_wp2_with fail
      all_goals go_ret
      all_goals exact ⟨ret_bool (by first | rfl | simp), (HC.out _ Hbc.out).2.2.2.2⟩
end Go.Proofs.YtdcbngimgpdjoaaDoor
