/- The law ComposeLimits walked. Condition: at most 1048576 events. -/
import Derived.Test.YtiblamapjekdeaaGreatCg
namespace Go.Proofs.YtiblamapjekdeaaGreat
open Go.RowKit
attribute [local go_sem] Oper.semAt_some
theorem mkAll_err {d n : Nat} : ∀ {L : List Ev} {s : Mk} {c : Int}, mkAll d n s L = .error c → c ≠ 0 := by
  intro L
  induction L with
  | nil => intro s c h; cases h
  | cons x l ih =>
    intro s c h
    simp only [mkAll] at h
    cases hs : mkStep d n s x with
    | error e => rw [hs] at h; cases h; exact mkStep_err hs
    | ok t => rw [hs] at h; exact ih h
/-- What limits do to events of which a graph was made. -/
theorem mkG_limits {L : List Ev} {G : Gr} (h : mkG L 200 20000 = (G, 0)) : rightsB L = true ∧ depthB L = topN L L.length ∧ 0 ≤ topN L L.length ∧ topN L L.length ≤ 200 ∧ nodesN L ≤ 20000 ∧
    (∀ d n : Nat, topN L L.length ≤ d → nodesN L ≤ n → mkG L d n = (G, 0)) ∧ (∀ d n : Nat, (d : Int) < topN L L.length → nodesN L ≤ n → (mkG L d n).2 = 8) ∧ (∀ d n : Nat, topN L L.length ≤ d → n < nodesN L → (mkG L d n).2 = 9) := by
  cases hr : rightsB L with
  | false => rw [mkG, hr] at h; simp at h
  | true =>
    have h' := h
    rw [mkG, hr] at h
    simp only [if_true] at h
    cases hm : mkAll 200 20000 mk0 L with
    | error e => rw [hm] at h; simp only [Prod.mk.injEq] at h; exact absurd h.2 (mkAll_err hm)
    | ok t =>
      obtain ⟨e1, e2⟩ := enough hr hm
      have key : ∀ d n : Nat, mkAll d n mk0 L = .ok t → mkG L d n = (G, 0) := fun d n hd => by
        rw [← h', mkG, mkG, hr, hm, hd]
      refine ⟨rfl, by rw [depthB, hr]; rfl, (topN_bound L L.length).1, e1, e2, fun d n h1 h2 => ?_, fun d n h1 h2 => ?_, fun d n h1 h2 => ?_⟩
      · exact key d n ((limits (d' := d) (n' := n) hr hm).1 h1 h2)
      · rw [mkG, hr, (limits (d' := d) (n' := n) hr hm).2.1 h1 h2]; rfl
      · rw [mkG, hr, (limits (d' := d) (n' := n) hr hm).2.2 h1 h2]; rfl
set_option maxRecDepth 100000 in
set_option maxHeartbeats 4000000 in
theorem composeLimits_walk {w : World} (A : Option Addr) (c : Nat) (L : List Ev) (hcap : L.length ≤ c) (hm : c ≤ maxLen) (hE : EvsAt w w.heap.size A L) (hok : ∀ x ∈ L, Ev.ok x) (_hn : A = none → c = 0) (hs : L.length ≤ 1048576) (m : Int) (_wm : (Lit.int .i64 m).wf = true) :
    Calls Tryz.prog 4 #[.slice A L.length c, .int .i64 m] w fun e w' => e = .returned (.bool true) ∧ Below w.heap.size w w' := by
  have hl : L.length ≤ 9223372036854775807 := Nat.le_trans hcap hm
  have HA := Lib.hid (alive18_any w)
  have HBi : Hid (∀ W, Below w.heap.size w W → Calls Tryz.prog 7 #[.slice A L.length c] W fun e w' => e = .returned (.bool (bigB L)) ∧ W = w') := fun W hW => Big_any A c L W hl ((hE.below hW (Nat.le_refl _)).more hW.size) hok
  obtain ⟨gx, hgx⟩ : ∃ gx, mkG L 200 20000 = gx := ⟨_, rfl⟩
  have HCo : Hid (∀ W, Below w.heap.size w W → Calls Tryz.prog 9 #[.slice A L.length c, .int .i64 200, .int .i64 20000] W (DidM W gx)) := fun W hW => by
    rw [← hgx]; exact Compose_any A c L 200 20000 W (by omega) hcap ((hE.below hW (Nat.le_refl _)).more hW.size) hok
  obtain ⟨G, x⟩ := gx
  obtain ⟨bb, hbb⟩ : ∃ bb, bigB L = bb := ⟨_, rfl⟩
  rw [hbb] at HBi
  by_cases hz : bb = true ∨ x ≠ 0 ∨ m < 0 ∨ 1000 < m
  · clear hE hok hl hcap hm hbb hgx hs
    have hq : bb = true ∨ (bb = false ∧ x ≠ 0 ∧ (x != 0) = true) ∨ (bb = false ∧ x = 0 ∧ m < 0) ∨ (bb = false ∧ x = 0 ∧ ¬ m < 0 ∧ 1000 < m) := by
      cases bb with
      | true => exact .inl rfl
      | false =>
        by_cases hx : x = 0
        · by_cases h0 : m < 0
          · exact .inr (.inr (.inl ⟨rfl, hx, h0⟩))
          · refine .inr (.inr (.inr ⟨rfl, hx, h0, ?_⟩)); simp [hx, h0] at hz; exact hz
        · exact .inr (.inl ⟨rfl, hx, bne_iff_ne.2 hx⟩)
    clear hz
    rcases hq with rfl | ⟨rfl, hx, hx2⟩ | ⟨rfl, rfl, h0⟩ | ⟨rfl, rfl, h0, h1⟩
    all_goals
      go_enter Tryz.func4, Tryz.ntmps4
      go_wp2_with (first
        | (go_at_call 6; refine HA.out.mono ?_; rintro e w1 ⟨rfl, hb1⟩; have H1 := Lib.hid hb1; clear hb1)
        | (go_at_call 7; refine (HBi.out w1 H1.out).mono ?_; rintro e w2 ⟨rfl, rfl⟩)
        | (go_at_call 9; refine (HCo.out w1 H1.out).mono ?_; rintro e w3 ⟨v3, rfl, hg3, hb3⟩; obtain ⟨NA, nc, RA, rc, rfl, hN, hR⟩ := hg3; obtain ⟨V3, hV3, hbV3, hrV3, _⟩ := box2 w3 (.slice NA G.nodes.length nc) (.slice RA G.roots.length rc) 28; have H3 := Lib.hid (And.intro (below_then (below_then H1.out hb3) hbV3) (And.intro hrV3 (And.intro ((hN.below hbV3 (Nat.le_refl _)).more hbV3.size) ((hR.below hbV3 (Nat.le_refl _)).more hbV3.size)))); clear hb3 hbV3 hrV3 hN hR))
      go_ret
      exact ⟨rfl, H3.out.1⟩
  · have hb0 : bb = false := by cases bb <;> simp_all
    have hx0 : x = 0 := by simp at hz; omega
    have hm0 : ¬ m < 0 := fun h => hz (.inr (.inr (.inl h)))
    have hm1 : ¬ 1000 < m := fun h => hz (.inr (.inr (.inr h)))
    subst hb0 hx0
    have h300 := bigB_small hbb
    obtain ⟨hr, hdep, hT0, hT200, hC, k1, k2, k3⟩ := mkG_limits hgx
    have HOk : Hid G.okS := by
      have := mkG_small L 200 20000 (by omega)
      rw [hgx] at this
      exact this
    have hnl := nodes_le L
    obtain ⟨T, hT⟩ : ∃ T, topN L L.length = T := ⟨_, rfl⟩
    obtain ⟨C, hCe⟩ : ∃ C, nodesN L = C := ⟨_, rfl⟩
    rw [hT] at hdep hT0 hT200 k1 k2 k3
    rw [hCe] at hC k1 k2 k3 hnl
    have hEW : ∀ W, Below w.heap.size w W → EvsAt W W.heap.size A L := fun W hW => (hE.below hW (Nat.le_refl _)).more hW.size
    have HDe : Hid (∀ W, Below w.heap.size w W → Calls Tryz.prog 12 #[.slice A L.length c] W fun e w' => e = .returned (.int .i64 T) ∧ Below W.heap.size W w') := fun W hW => by
      rw [← hdep]; exact RDepth_any A c L W (by omega) hcap (hEW W hW)
    have HNo : Hid (∀ W, Below w.heap.size w W → Calls Tryz.prog 13 #[.slice A L.length c] W fun e w' => e = .returned (.int .i64 (C : Int)) ∧ W = w') := fun W hW => by
      rw [← hCe]; exact RNodes_any A c L W hl (hEW W hW)
    obtain ⟨tm, htm⟩ : ∃ tm, wrap64 (T + m) = tm := ⟨_, rfl⟩
    obtain ⟨cm, hcm⟩ : ∃ cm, wrap64 ((C : Int) + m) = cm := ⟨_, rfl⟩
    obtain ⟨t1, ht1⟩ : ∃ t1, wrap64 (T - 1) = t1 := ⟨_, rfl⟩
    obtain ⟨c1, hc1⟩ : ∃ c1, wrap64 ((C : Int) - 1) = c1 := ⟨_, rfl⟩
    have q1 : tm = T + m := by rw [← htm]; exact IntWalk.wrap64_in _ (by omega)
    have q2 : cm = C + m := by rw [← hcm]; exact IntWalk.wrap64_in _ (by omega)
    have q3 : t1 = T - 1 := by rw [← ht1]; exact IntWalk.wrap64_in _ (by omega)
    have q4 : c1 = C - 1 := by rw [← hc1]; exact IntWalk.wrap64_in _ (by omega)
    have HG1 : Hid (∀ W, Below w.heap.size w W → Calls Tryz.prog 8 #[.slice A L.length c, .int .i64 tm, .int .i64 cm] W (DidM W (G, 0))) := fun W hW => by
      rw [← k1 (min tm 200).toNat (min cm 20000).toNat (by omega) (by omega)]; exact Graph_any A c L tm cm W (by omega) (hEW W hW) hok
    obtain ⟨g2, hg2⟩ : ∃ g2, mkG L (min t1 200).toNat (min (C : Int) 20000).toNat = g2 := ⟨_, rfl⟩
    obtain ⟨g3, hg3⟩ : ∃ g3, mkG L (min T 200).toNat (min c1 20000).toNat = g3 := ⟨_, rfl⟩
    have HG2 : Hid (∀ W, Below w.heap.size w W → Calls Tryz.prog 8 #[.slice A L.length c, .int .i64 t1, .int .i64 (C : Int)] W (DidM W g2)) := fun W hW => by
      rw [← hg2]; exact Graph_any A c L t1 C W (by omega) (hEW W hW) hok
    have HG3 : Hid (∀ W, Below w.heap.size w W → Calls Tryz.prog 8 #[.slice A L.length c, .int .i64 T, .int .i64 c1] W (DidM W g3)) := fun W hW => by
      rw [← hg3]; exact Graph_any A c L T c1 W (by omega) (hEW W hW) hok
    have r2 : T ≠ 0 → g2.2 = 8 := fun h => by rw [← hg2]; exact k2 _ _ (by omega) (by omega)
    have r3 : C ≠ 0 → g3.2 = 9 := fun h => by rw [← hg3]; exact k3 _ _ (by omega) (by omega)
    obtain ⟨G2, e2⟩ := g2
    obtain ⟨G3, e3⟩ := g3
    have hq2 : (T = 0 ∧ tm = m ∧ t1 = -1) ∨ (¬ T = 0 ∧ (T == 0) = false ∧ e2 = 8) := by
      by_cases h : T = 0
      · exact .inl ⟨h, by omega, by omega⟩
      · exact .inr ⟨h, beq_eq_false_iff_ne.2 h, r2 h⟩
    have hq3 : (C = 0 ∧ cm = m ∧ c1 = -1) ∨ (¬ (C : Int) = 0 ∧ ((C : Int) == 0) = false ∧ e3 = 9) := by
      by_cases h : C = 0
      · exact .inl ⟨h, by omega, by omega⟩
      · exact .inr ⟨by omega, beq_eq_false_iff_ne.2 (by omega), r3 h⟩
    clear hz hbb hgx hr hdep hT0 hT200 hC k1 k2 k3 hnl hT hCe hEW q1 q2 q3 q4 hg2 hg3 r2 r3 hE hok hl hcap hm hs h300
    rcases hq2 with ⟨rfl, hx1, hx2⟩ | ⟨s1, s2, rfl⟩
    all_goals try (rw [hx1] at HG1; rw [hx2] at HG2; clear hx1 hx2 htm ht1)
    all_goals rcases hq3 with ⟨rfl, hx1, hx2⟩ | ⟨s3, s4, rfl⟩
    all_goals try (rw [hx1] at HG1; rw [hx2] at HG3; clear hx1 hx2 hcm hc1)
    all_goals try simp only [Int.cast_ofNat_Int] at HG2 HNo
    all_goals
      go_enter Tryz.func4, Tryz.ntmps4
      go_wp2_with (first
        | (go_at_call 6; refine HA.out.mono ?_; rintro e w1 ⟨rfl, hb1⟩; have H1 := Lib.hid hb1; clear hb1)
        | (go_at_call 7; refine (HBi.out w1 H1.out).mono ?_; rintro e w2 ⟨rfl, rfl⟩)
        | (go_at_call 9; refine (HCo.out w1 H1.out).mono ?_; rintro e w3 ⟨v3, rfl, hg3, hb3⟩; obtain ⟨NA, nc, RA, rc, rfl, hN, hR⟩ := hg3; obtain ⟨V3, hV3, hbV3, hrV3, _⟩ := box2 w3 (.slice NA G.nodes.length nc) (.slice RA G.roots.length rc) 28; have H3 := Lib.hid (And.intro (below_then (below_then H1.out hb3) hbV3) (And.intro hrV3 (And.intro ((hN.below hbV3 (Nat.le_refl _)).more hbV3.size) ((hR.below hbV3 (Nat.le_refl _)).more hbV3.size)))); clear hb3 hbV3 hrV3 hN hR)
        | (go_at_call 12; refine (HDe.out V3 H3.out.1).mono ?_; rintro e w4 ⟨rfl, hb4⟩; have H4 := Lib.hid hb4; clear hb4)
        | (go_at_call 13; refine (HNo.out w4 (below_then H3.out.1 H4.out)).mono ?_; rintro e w5 ⟨rfl, rfl⟩)
        | (go_at_call 8; (with_reducible refine (HG3.out V7 (below_then H3.out.1 (below_then H6.out.1 H7.out))).mono ?_); rintro e w8 ⟨v8, rfl, hg8, hb8⟩; obtain ⟨NA8, nc8, RA8, rc8, rfl, hN8, hR8⟩ := hg8; obtain ⟨V8, hV8, hbV8, hrV8, _⟩ := box2 w8 (.slice NA8 G3.nodes.length nc8) (.slice RA8 G3.roots.length rc8) 28; have h68 := below_then H7.out (below_then hb8 hbV8); have h38 := below_then H6.out.1 h68; have hr3 := (h38.block _ (lt_of_row H3.out.2.1)).trans H3.out.2.1; have hr6 := (h68.block _ (lt_of_row H6.out.2.1)).trans H6.out.2.1; have a0 := Lib.cell_of_heap hr3 0; have a1 := Lib.cell_of_heap hr3 1; have b0 := Lib.cell_of_heap hr6 0; have b1 := Lib.cell_of_heap hr6 1; have HSG := Lib.hid (SameGraph_any G G (.agg #[.slice NA6 G.nodes.length nc6, .slice RA6 G.roots.length rc6]) (.agg #[.slice NA G.nodes.length nc, .slice RA G.roots.length rc]) V8 ⟨NA6, nc6, RA6, rc6, rfl, (H6.out.2.2.1.below h68 (Nat.le_refl _)).more h68.size, (H6.out.2.2.2.below h68 (Nat.le_refl _)).more h68.size⟩ ⟨NA, nc, RA, rc, rfl, (H3.out.2.2.1.below h38 (Nat.le_refl _)).more h38.size, (H3.out.2.2.2.below h38 (Nat.le_refl _)).more h38.size⟩ HOk.out); have H8 := Lib.hid (below_then H3.out.1 h38); clear hb8 hbV8 hrV8 hN8 hR8 h68 h38 hr3 hr6)
        | (go_at_call 8; (with_reducible refine (HG2.out V6 (below_then H3.out.1 H6.out.1)).mono ?_); rintro e w7 ⟨v7, rfl, hg7, hb7⟩; obtain ⟨NA7, nc7, RA7, rc7, rfl, hN7, hR7⟩ := hg7; obtain ⟨V7, hV7, hbV7, hrV7, _⟩ := box2 w7 (.slice NA7 G2.nodes.length nc7) (.slice RA7 G2.roots.length rc7) 28; have H7 := Lib.hid (below_then hb7 hbV7); clear hb7 hbV7 hrV7 hN7 hR7)
        | (go_at_call 8; (with_reducible refine (HG1.out w4 (below_then H3.out.1 H4.out)).mono ?_); rintro e w6 ⟨v6, rfl, hg6, hb6⟩; obtain ⟨NA6, nc6, RA6, rc6, rfl, hN6, hR6⟩ := hg6; obtain ⟨V6, hV6, hbV6, hrV6, _⟩ := box2 w6 (.slice NA6 G.nodes.length nc6) (.slice RA6 G.roots.length rc6) 28; have H6 := Lib.hid (And.intro (below_then (below_then H4.out hb6) hbV6) (And.intro hrV6 (And.intro ((hN6.below hbV6 (Nat.le_refl _)).more hbV6.size) ((hR6.below hbV6 (Nat.le_refl _)).more hbV6.size)))); clear hb6 hbV6 hrV6 hN6 hR6)
        | (go_at_call 10; refine (num18_any _ _).mono ?_; rintro e w9 ⟨rfl, rfl⟩)
        | (go_at_call 11; refine HSG.out.mono ?_; rintro e w10 ⟨rfl, hb10⟩; have H10 := Lib.hid (below_then H8.out hb10); clear hb10))
      go_ret
      exact ⟨by simp, H10.out⟩
end Go.Proofs.YtiblamapjekdeaaGreat
