/- The law IsoForms. Conditions: utf8's tables lie in the world; the graph's texts and rows hold no more than a million million. -/
import Derived.Test.YtdcbngimgpdjoaaDoorJa
import Derived.Test.YtdcbngimgpdjoaaDoorGb
import Derived.Deep.RegionHeld3
namespace Go.Proofs.YtdcbngimgpdjoaaDoor
open Go.RowKit Go.Shelf Go.Deep
theorem wf_small {z : Int} (h0 : 0 ≤ z) (h1 : z ≤ 1000000000000) : (Lit.int .i64 z).wf = true := by
  simp only [Lit.wf, Bool.and_eq_true, decide_eq_true_eq]
  have h2 : (IntKind.i64).min ≤ 0 := by decide
  have h3 : (1000000000000 : Int) ≤ (IntKind.i64).max := by decide
  omega
theorem formG_ok {G : Gr} (h : RightR G) (hok : G.ok) : (formG G).ok := by
  have hr := formG_right h
  have h1 := hr.nodes
  have h2 := hr.many
  refine ⟨by unfold maxLen; omega, by unfold maxLen; omega, fun e he => ?_, fun e he => hr.toRightG.kidsLen e he⟩
  obtain ⟨x, hx, rfl⟩ := nd_of_mem he
  have ho := hok.each _ (nd_mem (h.ord.lt x hx))
  refine ⟨ho.kind, ho.tag, ho.text, by have := hr.toRightG.kidsLen _ he; unfold maxLen; omega, fun z hz => ?_⟩
  obtain ⟨i, hi, hie⟩ := List.mem_iff_getElem.1 he
  have h3 := hr.kids i hi z (by rw [nd_eq hi, hie]; exact hz)
  exact wf_small (by omega) (by omega)
set_option maxRecDepth 100000 in
set_option maxHeartbeats 8000000 in
theorem isoForms_walk (w : World) (hT : Tabs w) (G : Gr) (u : Value) (hG : GrAt w w.heap.size G u) (okG : G.ok) (okGB : G.okB) :
    Calls Tryd.prog 8 #[u] w fun e w' => e = .returned (.bool true) ∧ Below w.heap.size w w' := by
  have hGW : ∀ W, Below w.heap.size w W → GrAt W W.heap.size G u := fun W hW => (hG.below hW (Nat.le_refl _)).more hW.size
  have HB1 : Hid (∀ W, Below w.heap.size w W → Calls Tryd.prog 17 #[u] W fun e w' => e = .returned (.bool (bigB G)) ∧ Below W.heap.size W w') := fun W hW => Big_any G u W (hGW W hW) okGB
  have HR : Hid (bigB G = false → ∀ W, Below w.heap.size w W → Calls Tryd.prog 19 #[u] W fun e w' => e = .returned (.bool (rightB G)) ∧ Below W.heap.size W w') := fun h1 W hW => RRight_any G u W (hGW W hW) (okGB.okR h1)
  have HF : Hid (∀ W, Below w.heap.size w W → Calls Tryd.prog 33 #[u] W fun e w' => ∃ x, e = .returned x ∧ GrAt w' w'.heap.size (formB G) x ∧ Below W.heap.size W w') := fun W hW => Form_any G u W (hGW W hW) okG (hT.below hW)
  have HTb : Hid (∀ W, Below w.heap.size w W → Tabs W) := fun W hW => hT.below hW
  have HGW := Lib.hid hGW
  have HokG := Lib.hid okG
  obtain ⟨NA, nc, RA, rc, rfl, _, _⟩ := hG.ex
  obtain ⟨V, hV, hbV, hrV, hsV⟩ := boxCs w #[.slice NA G.nodes.length nc, .slice RA G.roots.length rc] 25
  have HA : Hid (Calls Tryd.prog 29 #[] V fun e w' => e = .returned (.bool true) ∧ Below V.heap.size V w') := alive22_any V (hT.below hbV)
  have HC : Hid (∀ W, Below V.heap.size V W → W.cell? ⟨w.heap.size, 0, none⟩ = some (.slice NA G.nodes.length nc) ∧ W.cell? ⟨w.heap.size, 1, none⟩ = some (.slice RA G.roots.length rc) ∧ Below w.heap.size w W) := fun W hW => by
    have a := (hW.block w.heap.size (by omega)).trans hrV
    exact ⟨Lib.cell_of_heap a 0, Lib.cell_of_heap a 1, below_then hbV hW⟩
  obtain ⟨v0, v1, _⟩ := HC.out V (Below.refl _ _)
  obtain ⟨g1, hg1⟩ : ∃ x, bigB G = x := ⟨_, rfl⟩
  obtain ⟨r1, hr1⟩ : ∃ x, rightB G = x := ⟨_, rfl⟩
  rw [hg1] at HB1 HR
  rw [hr1] at HR
  clear hT hG okG okGB hGW hbV hrV hsV hg1
  cases g1 with
  | true =>
    clear HR HF hr1
    go_enter Tryd.func8, Tryd.ntmps8
    go_wp2_with (first
      | (go_at_call 29; refine HA.out.mono ?_; rintro e w1 ⟨rfl, hb1⟩; obtain ⟨x0, x1, x4⟩ := HC.out w1 hb1; have X4 := Lib.hid x4; clear hb1 x4)
      | (go_at_call 17; refine (HB1.out w1 X4.out).mono ?_; rintro e w2 ⟨rfl, hb2⟩; have X5 := Lib.hid (below_then X4.out hb2); clear hb2))
    go_ret
    exact ⟨by first | rfl | simp, X5.out⟩
  | false =>
    have h1 := Lib.hid (HR.out rfl)
    clear HR
    cases r1 with
    | false =>
      clear HF hr1
      go_enter Tryd.func8, Tryd.ntmps8
      go_wp2_with (first
        | (go_at_call 29; refine HA.out.mono ?_; rintro e w1 ⟨rfl, hb1⟩; obtain ⟨x0, x1, x4⟩ := HC.out w1 hb1; have Hb1 := Lib.hid hb1; clear hb1 x4)
        | (go_at_call 17; refine (HB1.out w1 (HC.out w1 Hb1.out).2.2).mono ?_; rintro e w2 ⟨rfl, hb2⟩; have Hb2 := Lib.hid (below_then Hb1.out hb2); obtain ⟨y0, y1, _⟩ := HC.out w2 Hb2.out; clear hb2)
        | (go_at_call 19; refine (h1.out w2 (HC.out w2 Hb2.out).2.2).mono ?_; rintro e w3 ⟨rfl, hb3⟩; have Hb3 := Lib.hid (below_then (HC.out w2 Hb2.out).2.2 hb3); clear hb3))
      go_ret
      exact ⟨by first | rfl | simp, Hb3.out⟩
    | true =>
      have hRR := RightR.of hr1
      have hff : formB G = formG G := by rw [formB, hr1]; rfl
      rw [hff] at HF
      have hFR := formG_right hRR
      have hfr := hFR.to
      have hFF := formG_form hRR
      have HokF := Lib.hid (formG_ok hRR HokG.out)
      obtain ⟨P, hP⟩ : ∃ P, formG G = P := ⟨_, rfl⟩
      rw [hP] at HF hFR hfr hFF HokF
      have hs1 : sameB G P = true := by simp [sameB, hr1, hfr, hFF, hP]
      have hs2 : sameB P G = true := by simp [sameB, hr1, hfr, hFF, hP]
      have hs3 : sameB G G = true := by simp [sameB, hr1]
      have hfp : formB P = P := by rw [formB, hfr, if_pos rfl, hFF]
      have HS1 : Hid (∀ W x, Below w.heap.size w W → GrAt W W.heap.size P x → Calls Tryd.prog 30 #[.agg #[.slice NA G.nodes.length nc, .slice RA G.roots.length rc], x] W fun e w' => e = .returned (.bool true) ∧ Below W.heap.size W w') := fun W x hW hx => by
        have := Same_any G P _ x W (HGW.out W hW) hx HokG.out HokF.out (HTb.out W hW)
        rwa [hs1] at this
      have HS2 : Hid (∀ W x, Below w.heap.size w W → GrAt W W.heap.size P x → Calls Tryd.prog 30 #[x, .agg #[.slice NA G.nodes.length nc, .slice RA G.roots.length rc]] W fun e w' => e = .returned (.bool true) ∧ Below W.heap.size W w') := fun W x hW hx => by
        have := Same_any P G x _ W hx (HGW.out W hW) HokF.out HokG.out (HTb.out W hW)
        rwa [hs2] at this
      have HS3 : Hid (∀ W, Below w.heap.size w W → Calls Tryd.prog 30 #[.agg #[.slice NA G.nodes.length nc, .slice RA G.roots.length rc], .agg #[.slice NA G.nodes.length nc, .slice RA G.roots.length rc]] W fun e w' => e = .returned (.bool true) ∧ Below W.heap.size W w') := fun W hW => by
        have := Same_any G G _ _ W (HGW.out W hW) (HGW.out W hW) HokG.out HokG.out (HTb.out W hW)
        rwa [hs3] at this
      have HF2 : Hid (∀ W x, Below w.heap.size w W → GrAt W W.heap.size P x → Calls Tryd.prog 33 #[x] W fun e w' => ∃ y, e = .returned y ∧ GrAt w' w'.heap.size P y ∧ Below W.heap.size W w') := fun W x hW hx => by
        have := Form_any P x W hx HokF.out (HTb.out W hW)
        rwa [hfp] at this
      have HSG : Hid (∀ W x y, GrAt W W.heap.size P x → GrAt W W.heap.size P y → Calls Tryd.prog 32 #[x, y] W fun e w' => e = .returned (.bool true) ∧ Below W.heap.size W w') := fun W x y g1 g2 => by
        have := SameGraph_any P P x y W g1 g2 ⟨by have := hFR.nodes; omega, by have := hFR.many; omega, hFR.toRightG.kidsLen⟩
        rwa [decide_eq_true rfl] at this
      clear hr1 hRR hff hFR hfr hFF hP hs1 hs2 hs3 hfp HokF HokG HGW HTb
      go_enter Tryd.func8, Tryd.ntmps8
      go_wp2_with (first
        | (go_at_call 29; refine HA.out.mono ?_; rintro e w1 ⟨rfl, hb1⟩; obtain ⟨x0, x1, x4⟩ := HC.out w1 hb1; have Hb1 := Lib.hid hb1; clear hb1 x4)
        | (go_at_call 17; refine (HB1.out w1 (HC.out w1 Hb1.out).2.2).mono ?_; rintro e w2 ⟨rfl, hb2⟩; have Hb2 := Lib.hid (below_then Hb1.out hb2); obtain ⟨y0, y1, _⟩ := HC.out w2 Hb2.out; clear hb2)
        | (go_at_call 19; refine (h1.out w2 (HC.out w2 Hb2.out).2.2).mono ?_; rintro e w3 ⟨rfl, hb3⟩; have Hb3 := Lib.hid (below_then Hb2.out hb3); obtain ⟨z0, z1, _⟩ := HC.out w3 Hb3.out; clear hb3))
      go_wp2_with (go_at_call 33; refine (HF.out w3 (HC.out w3 Hb3.out).2.2).mono ?_; rintro e w4 ⟨x, rfl, hx, hb4⟩
                   obtain ⟨NF, nf, RF, rf, rfl, hx1, hx2⟩ := hx.ex
                   obtain ⟨X, hX, hbX, hrX, hsX⟩ := boxCs w4 #[.slice NF P.nodes.length nf, .slice RF P.roots.length rf] 25
                   have HD : Hid (∀ W, Below X.heap.size X W → W.cell? ⟨w.heap.size, 0, none⟩ = some (.slice NA G.nodes.length nc) ∧ W.cell? ⟨w.heap.size, 1, none⟩ = some (.slice RA G.roots.length rc) ∧ W.cell? ⟨w4.heap.size, 0, none⟩ = some (.slice NF P.nodes.length nf) ∧ W.cell? ⟨w4.heap.size, 1, none⟩ = some (.slice RF P.roots.length rf) ∧ Below w.heap.size w W ∧ GrAt W W.heap.size P (.agg #[.slice NF P.nodes.length nf, .slice RF P.roots.length rf])) := fun W hW => by
                     obtain ⟨c0, c1, c2⟩ := HC.out W (below_then (below_then Hb3.out hb4) (below_then hbX hW))
                     have a := (hW.block w4.heap.size (by omega)).trans hrX
                     have hW4 := below_then hbX hW
                     exact ⟨c0, c1, Lib.cell_of_heap a 0, Lib.cell_of_heap a 1, c2, (hx.below hW4 (Nat.le_refl _)).more hW4.size⟩
                   clear hx hx1 hx2 hb4 hbX hrX hsX)
      have Hbc : Hid (Below X.heap.size X X.drew) := (Below.refl _ X).drew
      obtain ⟨q0, q1, q2, q3, _⟩ := HD.out X (Below.refl _ _)
      clear z0 z1 y0 y1 x0 x1 v0 v1 HC HF
      go_region_held3 (fun W' => W'.cell? ⟨w.heap.size, 0, none⟩ = some (.slice NA G.nodes.length nc) ∧ W'.cell? ⟨w.heap.size, 1, none⟩ = some (.slice RA G.roots.length rc) ∧ W'.cell? ⟨w4.heap.size, 0, none⟩ = some (.slice NF P.nodes.length nf) ∧ W'.cell? ⟨w4.heap.size, 1, none⟩ = some (.slice RF P.roots.length rf)) (go_keep) (first
        | (go_at_call 30; with_reducible refine (HS1.out _ _ (HD.out _ Hbc.out).2.2.2.2.1 (HD.out _ Hbc.out).2.2.2.2.2).mono ?_; rintro e wn ⟨rfl, hbn⟩; have Hbn := Lib.hid (below_then Hbc.out hbn); obtain ⟨x0, x1, x2, x3, _⟩ := HD.out _ Hbn.out; clear Hbc hbn; have Hbc := Hbn; clear Hbn)
        | (go_at_call 30; with_reducible refine (HS2.out _ _ (HD.out _ Hbc.out).2.2.2.2.1 (HD.out _ Hbc.out).2.2.2.2.2).mono ?_; rintro e wn ⟨rfl, hbn⟩; have Hbn := Lib.hid (below_then Hbc.out hbn); obtain ⟨x0, x1, x2, x3, _⟩ := HD.out _ Hbn.out; clear Hbc hbn; have Hbc := Hbn; clear Hbn)
        | (go_at_call 30; with_reducible refine (HS3.out _ (HD.out _ Hbc.out).2.2.2.2.1).mono ?_; rintro e wn ⟨rfl, hbn⟩; have Hbn := Lib.hid (below_then Hbc.out hbn); obtain ⟨x0, x1, x2, x3, _⟩ := HD.out _ Hbn.out; clear Hbc hbn; have Hbc := Hbn; clear Hbn)
        | (go_at_call 33; refine (HF2.out _ _ (HD.out _ Hbc.out).2.2.2.2.1 (HD.out _ Hbc.out).2.2.2.2.2).mono ?_; rintro e wn ⟨fy, rfl, hy, hbn⟩; have HY := Lib.hid hy; have Hbn := Lib.hid (below_then Hbc.out hbn); obtain ⟨x0, x1, x2, x3, _⟩ := HD.out _ Hbn.out; clear Hbc hbn hy; have Hbc := Hbn; clear Hbn)
        | (go_at_call 32; refine (HSG.out _ _ _ HY.out (HD.out _ Hbc.out).2.2.2.2.2).mono ?_; rintro e wn ⟨rfl, hbn⟩; have Hbn := Lib.hid (below_then Hbc.out hbn); obtain ⟨x0, x1, x2, x3, _⟩ := HD.out _ Hbn.out; clear Hbc hbn; have Hbc := Hbn; clear Hbn))
      all_goals go_wp2_with fail
      all_goals go_ret
      all_goals exact ⟨ret_bool (by first | rfl | simp), (HD.out _ Hbc.out).2.2.2.2.1⟩
end Go.Proofs.YtdcbngimgpdjoaaDoor
