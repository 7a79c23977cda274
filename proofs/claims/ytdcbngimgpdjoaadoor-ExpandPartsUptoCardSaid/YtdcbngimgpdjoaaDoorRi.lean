/- The reference's Reach (marginaliaref17). Conditions: as May's. -/
import Derived.Test.YtdcbngimgpdjoaaDoorRh
import Derived.Test.YtdcbngimgpdjoaaDoorGf
import Derived.Test.YtdcbngimgpdjoaaDoorGy
import Derived.Deep.RegionHeld3
namespace Go.Proofs.YtdcbngimgpdjoaaDoor
open Go.RowKit Go.Shelf Go.Deep
attribute [local go_sem] Oper.semAt_some
theorem isB_cases (G : Gr) (root : Int) : isB G root = false ∨ (isB G root = true ∧ ∃ r : Nat, root = r ∧ r < G.nodes.length ∧ RightG G) := by
  cases h : isB G root
  · exact .inl rfl
  · simp only [isB, Bool.and_eq_true, decide_eq_true_eq] at h
    exact .inr ⟨rfl, root.toNat, by omega, by omega, .of h.2⟩
theorem below_grown {w M w' : World} {gs : Nat} (h : Below w.heap.size w M) (hg : M.grownBy w' (some gs)) (hgs : w.heap.size ≤ gs) : Below w.heap.size w w' :=
  ⟨hg.os.trans h.os, hg.tape.trans h.tape, hg.output.trans h.output, Nat.le_trans h.size hg.size, fun k hk => (hg.block k (Nat.lt_of_lt_of_le hk h.size) (by simp; omega)).trans (h.block k hk)⟩
set_option maxRecDepth 100000 in
set_option maxHeartbeats 1000000 in
theorem RReach_any (G : Gr) (v : Value) (root : Int) (w : World) (hG : GrAt w w.heap.size G v) (hok : G.okR) :
    Calls Tryd.prog 22 #[v, .int .i64 root] w fun e w' => ∃ A c, e = .returned (.slice A (reachL G root).length c) ∧ IntsAt w' w'.heap.size A ((reachL G root).map Int.ofNat) ∧ (reachL G root).length ≤ c ∧ Below w.heap.size w w' ∧ ∀ p, A = some p → w.heap.size ≤ p.block := by
  have hM : Hid (∀ W, Below w.heap.size w W → Calls Tryd.prog 27 #[v, .int .i64 root] W fun r w' => r = .returned (.bool (isB G root)) ∧ Below W.heap.size W w') := fun W hW => RMay_any G v root W ((hG.below hW (Nat.le_refl _)).more hW.size) hok
  have hGw : Hid (∀ W, Below w.heap.size w W → GrAt W w.heap.size G v) := fun W hW => hG.below hW (Nat.le_refl _)
  have hr := isB_cases G root
  obtain ⟨NA, nc, RA, rc, rfl, hN, hR⟩ := hG.ex
  obtain ⟨V, hV, hbV, hrow, hsz⟩ := box2 w (.slice NA G.nodes.length nc) (.slice RA G.roots.length rc) 25
  have v0 : V.cell? ⟨w.heap.size, 0, none⟩ = some (.slice NA G.nodes.length nc) := Lib.cell_of_heap hrow 0
  have v1 : V.cell? ⟨w.heap.size, 1, none⟩ = some (.slice RA G.roots.length rc) := Lib.cell_of_heap hrow 1
  have HM := Lib.hid (hM.out V hbV)
  clear hM
  rcases hr with hr | ⟨hr, r, rfl, hlt, hRG⟩
  · rw [hr] at HM
    have HE : Hid (reachL G root = []) := by show _ = _; rw [reachL, hr]; rfl
    rw [HE.out]
    have HbV := Lib.hid hbV
    clear hsz hrow hG hN hR hok hr hbV hGw
    go_enter Tryd.func22, Tryd.ntmps22
    go_wp2_with (go_at_call 27; refine HM.out.mono ?_; rintro e w' ⟨rfl, hb⟩)
    go_ret
    exact ⟨none, 0, rfl, fun h => by simp at h, Nat.le_refl _, below_then HbV.out hb, fun p e => by cases e⟩
  · rw [hr] at HM
    have HL : Hid (reachL G r = metL G r) := by show _ = _; rw [reachL, hr]; simp
    rw [HL.out]
    have hnn := hRG.nodes
    have HRe : Hid (∀ W1 M, Below V.heap.size V W1 → Below W1.heap.size W1 M → (M.rowIs W1.heap.size 4 G.nodes.length fun _ => .bool false) → Calls Tryd.prog 50 #[.agg #[.slice NA G.nodes.length nc, .slice RA G.roots.length rc], .slice (some ⟨W1.heap.size, 0, none⟩) G.nodes.length G.nodes.length, .int .i64 (r : Int)] M fun e w' =>
        ∃ A c, e = .returned (.slice A (metL G r).length c) ∧ IntsAt w' w'.heap.size A ((metL G r).map Int.ofNat) ∧ (metL G r).length ≤ c ∧ Below V.heap.size V w' ∧ ∀ p, A = some p → w.heap.size ≤ p.block) := fun W1 M h1 hbM hrM => by
      have hw1 := below_then hbV h1
      have hwM := below_then hw1 hbM
      refine (refreach_any G _ r W1.heap.size G.nodes.length [] (metL G r) M ((hGw.out M hwM).more hw1.size) hRG (hrM.congr fun j _ => by simp) (hRG.way hlt)).mono ?_
      rintro e w' ⟨A, cc, out, rfl, he, hI, hc, _, hg, hf⟩
      simp only [List.nil_append] at he
      subst he
      exact ⟨A, cc, rfl, hI, hc, below_grown (below_then h1 hbM) hg h1.size, fun p e => Nat.le_trans hwM.size (hf p e)⟩
    have HG1 : Hid (∀ W, Below V.heap.size V W → W.cell? ⟨w.heap.size, 0, none⟩ = some (.slice NA G.nodes.length nc) ∧ W.cell? ⟨w.heap.size, 1, none⟩ = some (.slice RA G.roots.length rc)) := fun W h => by
      have hr := (h.block w.heap.size (by omega)).trans hrow
      exact ⟨Lib.cell_of_heap hr 0, Lib.cell_of_heap hr 1⟩
    have HbV := Lib.hid hbV
    clear hsz hrow hG hN hR hok hr hbV hRG hlt
    go_enter Tryd.func22, Tryd.ntmps22
    have hmake := fun W => run_make_row' (P := Tryd.prog) 68 4 (.bool false) 1 rfl Tryd.infoBoolM rfl .i64 .i64 G.nodes.length (by omega) (by omega) W
    go_wp2_with (first
      | (go_at_call 27; refine HM.out.mono ?_; rintro e w1 ⟨rfl, hb⟩
         obtain ⟨g0, g1⟩ := HG1.out w1 hb
         have Hb := Lib.hid hb
         clear hb))
    go_region_held3 (fun W' => W'.cell? ⟨w.heap.size, 0, none⟩ = some (.slice NA G.nodes.length nc) ∧ W'.cell? ⟨w.heap.size, 1, none⟩ = some (.slice RA G.roots.length rc)) (go_keep) (first | (go_at_call 50; refine (HRe.out w1 _ Hb.out ((Below.refl _ w1).alloc (Nat.le_refl _) _).drew ((World.rowIs_made w1 _ _ _).of_block rfl)).mono ?_; rintro e w2 ⟨A, c, rfl, hI, hc, hb2, hf2⟩; obtain ⟨q0, q1⟩ := HG1.out w2 hb2))
    all_goals go_wp2_with fail
    all_goals go_ret
    all_goals exact ⟨A, c, rfl, hI, hc, below_then HbV.out hb2, hf2⟩
end Go.Proofs.YtdcbngimgpdjoaaDoor
