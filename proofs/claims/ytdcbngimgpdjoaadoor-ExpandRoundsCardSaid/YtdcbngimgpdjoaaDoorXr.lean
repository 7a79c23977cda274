/- The law ExpandRounds, walked. Condition: utf8's tables lie in the world. -/
import Derived.Test.YtdcbngimgpdjoaaDoorXo
namespace Go.Proofs.YtdcbngimgpdjoaaDoor
open Go.RowKit Go.Shelf Go.Deep
attribute [local go_sem] Oper.semAt_some
set_option maxRecDepth 100000 in
set_option maxHeartbeats 8000000 in
theorem expandRounds_out (w : World) (hT : Tabs w) (n back root most : Int) (hout : ¬ (1 ≤ n ∧ n ≤ 40 ∧ 0 ≤ back ∧ back ≤ n ∧ 0 ≤ root ∧ root ≤ n)) :
    Calls Tryd.prog 15 #[.int .i64 n, .int .i64 back, .int .i64 root, .int .i64 most] w fun e w' => e = .returned (.bool true) ∧ Below w.heap.size w w' := by
  have hd : (decide (n < 1) || decide (40 < n) || decide (back < 0) || decide (n < back) || decide (root < 0) || decide (n < root)) = true := by
    simp only [Bool.or_eq_true, decide_eq_true_eq]; omega
  go_enter Tryd.func15, Tryd.ntmps15
  have HT := Lib.hid hT
  have Hout := Lib.hid hout
  clear hT hout
  go_wp2_with (first
    | (go_at_call 35; refine (alive23_any w HT.out).mono ?_; rintro e w1 ⟨rfl, hb1⟩; have Hb1 := Lib.hid hb1; clear hb1))
  all_goals first
    | (exfalso; have := Hout.out; omega)
    | (go_ret; exact ⟨rfl, Hb1.out⟩)
set_option maxRecDepth 100000 in
set_option maxHeartbeats 8000000 in
theorem expandRounds_in (w : World) (hT : Tabs w) (n back root : Nat) (most : Int) (hn1 : 1 ≤ n) (hn : n ≤ 40) (hb : back ≤ n) (hr : root ≤ n) :
    Calls Tryd.prog 15 #[.int .i64 (n : Int), .int .i64 (back : Int), .int .i64 (root : Int), .int .i64 most] w fun e w' => e = .returned (.bool true) ∧ Below w.heap.size w w' := by
  have a1 : (1 : Int) ≤ n := by omega
  have a2 : (n : Int) ≤ 40 := by omega
  have a3 : (0 : Int) ≤ back := by omega
  have a4 : (back : Int) ≤ n := by omega
  have a5 : (0 : Int) ≤ root := by omega
  have a6 : (root : Int) ≤ n := by omega
  have HT := Lib.hid hT
  have Hn : Hid (1 ≤ n ∧ n ≤ 40 ∧ back ≤ n ∧ root ≤ n) := ⟨hn1, hn, hb, hr⟩
  have HBo : Hid (∀ w1, Calls Tryd.prog 44 #[.int .i64 (n : Int), .int .i64 1] w1 fun e w' => ∃ nv RA, e = .returned (.agg #[nv, .slice RA 1 1]) ∧ GrAt w' w'.heap.size (bombG n 1) (.agg #[nv, .slice RA 1 1]) ∧ Below w1.heap.size w1 w' ∧ (∃ L, NdsOwn w' (w1.heap.size + 3) nv L ∧ L.map (·.1) = (bombG n 1).nodes) ∧ IntsAt w' (w1.heap.size + 3) RA [0]) := fun w1 => Bombs_own n 1 (by omega) (by omega) w1
  clear hT hn1 hn hb hr
  go_enter Tryd.func15, Tryd.ntmps15
  go_wp2_with (first
    | (go_at_call 35; refine (alive23_any w HT.out).mono ?_; rintro e w1 ⟨rfl, hb1⟩; have Hb1 := Lib.hid hb1; clear hb1))
  go_at_call 44
  refine (HBo.out w1).mono ?_
  rintro e w2 ⟨nv, RA, rfl, _, hb2, ⟨L, hnd, hL⟩, hrt⟩
  have hl : L.length = n := by have h := congrArg List.length hL; simpa [bombG] using h
  obtain ⟨U, hU, hbU, hrU, hsU⟩ := box2 w2 nv (.slice RA 1 1) 25
  obtain ⟨g, c, rfl, hF⟩ := FnSt.first Hn.out.1 Hb1.out hb2 hnd hl hrt hbU hrU
  by_cases hlt : (back : Int) < n
  · obtain ⟨L', v0, ⟨s1, s2⟩, hF2, hL2, hl2⟩ := hF.kid2 (back := back) Hn.out.1 (by omega) hL
    rw [hsU] at hF2
    clear hb2 hnd hL hrt hl hbU hrU hsU hF
    subst hU
    have b0 := Lib.cell_of_heap hF2.box 0
    have HFin := Lib.hid (fun v' w' g o => hF2.fin HT.out hL2 (o := o) v' w' g)
    have hnds := hF2.nds
    have hnl : L'.length ≤ 1000000 := by have := Hn.out; omega
    have hNW : w1.heap.size + 3 ≤ w2.heap.size := hF2.lt
    clear hF2 hL2 hl2
    by_cases hrn : root = n
    · subst hrn
      obtain ⟨f1, f2, f3⟩ := rnd_S (n := root) (back := back) (by have := Hn.out; omega) most
      obtain ⟨tr, htr⟩ : ∃ tr, treeB (rndG root back) root most = tr := ⟨_, rfl⟩
      by_cases hm : most > 0
      · rw [if_pos hm] at f3
        have HV := Lib.hid (rnd_calls (by have := Hn.out; omega) ⟨f1, by rw [f2], f3, htr⟩)
        clear f1 f2 f3 htr
        go_wp2_with (first | (at_builtin; refine wpList_appK rfl _ _ _ rfl rfl _ _ ((scaN, none, 0) : NdK) rfl hnds ⟨IntsAt.nil, by simp [scaN], fun _ => rfl, fun p hp => by cases hp⟩ (w2.heap.size + 1 + 1) (by simp) rfl hnl (by simp; omega) ?_; intro v' w' gg r1 r2 r3 r4; obtain ⟨⟨z1, z2⟩, A9, c9, hv9, HGU0⟩ := HFin.out v' w' gg _ r1 r2 r3 r4; subst hv9; have d1 := (HGU0 _ (Below.refl _ _)).2.1; have HGU := Lib.hid HGU0; clear r1 r2 r3 r4 HGU0) | (go_at_call 36; refine (HV.out.1 _ _ (HGU.out _ (Below.refl _ _)).2.2.1 (HGU.out _ (Below.refl _ _)).2.2.2.1).mono ?_; rintro e w3 ⟨rfl, hb3⟩; obtain ⟨e0, e1, _⟩ := HGU.out w3 hb3; have Hb3 := Lib.hid hb3; clear hb3) | (go_at_call 39; refine (HV.out.2 w3 _ (HGU.out w3 Hb3.out).2.2.1 (HGU.out w3 Hb3.out).2.2.2.1).mono ?_; rintro e w4 ⟨y, rfl, ⟨A', c', rfl, hlc, hkd⟩, hb4⟩; obtain ⟨V, hV, hbV, hrV, hsV⟩ := boxN w4 #[.int .i64 tr.kind, .string tr.tag, .string tr.text, .slice A' tr.kids.length c'] 52; have HB5 := Lib.hid (HGU.out V (below_then Hb3.out (below_then hb4 hbV))).2.2.2.2; have t0 := Lib.cell_of_heap hrV 0; clear hlc hkd hb4 hbV hrV hsV) | (go_at_call 38; refine (num23_any _ _).mono ?_; rintro e w' ⟨rfl, rfl⟩))
        go_ret
        exact ⟨by first | rfl | (simp; done) | (simp; omega), HB5.out⟩
      · rw [if_neg hm] at f3
        have HV := Lib.hid (rnd_calls (by have := Hn.out; omega) ⟨f1, by rw [f2], f3, htr⟩)
        clear f1 f2 f3 htr
        go_wp2_with (first | (at_builtin; refine wpList_appK rfl _ _ _ rfl rfl _ _ ((scaN, none, 0) : NdK) rfl hnds ⟨IntsAt.nil, by simp [scaN], fun _ => rfl, fun p hp => by cases hp⟩ (w2.heap.size + 1 + 1) (by simp) rfl hnl (by simp; omega) ?_; intro v' w' gg r1 r2 r3 r4; obtain ⟨⟨z1, z2⟩, A9, c9, hv9, HGU0⟩ := HFin.out v' w' gg _ r1 r2 r3 r4; subst hv9; have d1 := (HGU0 _ (Below.refl _ _)).2.1; have HGU := Lib.hid HGU0; clear r1 r2 r3 r4 HGU0) | (go_at_call 36; refine (HV.out.1 _ _ (HGU.out _ (Below.refl _ _)).2.2.1 (HGU.out _ (Below.refl _ _)).2.2.2.1).mono ?_; rintro e w3 ⟨rfl, hb3⟩; obtain ⟨e0, e1, _⟩ := HGU.out w3 hb3; have Hb3 := Lib.hid hb3; clear hb3) | (go_at_call 39; refine (HV.out.2 w3 _ (HGU.out w3 Hb3.out).2.2.1 (HGU.out w3 Hb3.out).2.2.2.1).mono ?_; rintro e w4 ⟨y, rfl, ⟨A', c', rfl, hlc, hkd⟩, hb4⟩; obtain ⟨V, hV, hbV, hrV, hsV⟩ := boxN w4 #[.int .i64 tr.kind, .string tr.tag, .string tr.text, .slice A' tr.kids.length c'] 52; have HB5 := Lib.hid (HGU.out V (below_then Hb3.out (below_then hb4 hbV))).2.2.2.2; have t0 := Lib.cell_of_heap hrV 0; clear hlc hkd hb4 hbV hrV hsV) | (go_at_call 38; refine (num23_any _ _).mono ?_; rintro e w' ⟨rfl, rfl⟩))
        go_ret
        exact ⟨by first | rfl | (simp; done) | (simp; omega), HB5.out⟩
    · have hri : ¬ (root : Int) = n := by omega
      obtain ⟨f1, f2, f3, f4⟩ := rnd_C (n := n) (back := back) (root := root) (by have := Hn.out; omega) (by omega) (by have := Hn.out; omega) most
      obtain ⟨tr, htr⟩ : ∃ tr, treeB (rndG n back) root most = tr := ⟨_, rfl⟩
      have HTk := Lib.hid (show tr.kind = 0 by rw [← htr, f4]; rfl)
      have HV := Lib.hid (rnd_calls (by have := Hn.out; omega) ⟨f1, by rw [f2], f3, htr⟩)
      clear f1 f2 f3 f4 htr
      go_wp2_with (first | (at_builtin; refine wpList_appK rfl _ _ _ rfl rfl _ _ ((scaN, none, 0) : NdK) rfl hnds ⟨IntsAt.nil, by simp [scaN], fun _ => rfl, fun p hp => by cases hp⟩ (w2.heap.size + 1 + 1) (by simp) rfl hnl (by simp; omega) ?_; intro v' w' gg r1 r2 r3 r4; obtain ⟨⟨z1, z2⟩, A9, c9, hv9, HGU0⟩ := HFin.out v' w' gg _ r1 r2 r3 r4; subst hv9; have d1 := (HGU0 _ (Below.refl _ _)).2.1; have HGU := Lib.hid HGU0; clear r1 r2 r3 r4 HGU0) | (go_at_call 36; refine (HV.out.1 _ _ (HGU.out _ (Below.refl _ _)).2.2.1 (HGU.out _ (Below.refl _ _)).2.2.2.1).mono ?_; rintro e w3 ⟨rfl, hb3⟩; obtain ⟨e0, e1, _⟩ := HGU.out w3 hb3; have Hb3 := Lib.hid hb3; clear hb3) | (go_at_call 39; refine (HV.out.2 w3 _ (HGU.out w3 Hb3.out).2.2.1 (HGU.out w3 Hb3.out).2.2.2.1).mono ?_; rintro e w4 ⟨y, rfl, ⟨A', c', rfl, hlc, hkd⟩, hb4⟩; obtain ⟨V, hV, hbV, hrV, hsV⟩ := boxN w4 #[.int .i64 tr.kind, .string tr.tag, .string tr.text, .slice A' tr.kids.length c'] 52; have HB5 := Lib.hid (HGU.out V (below_then Hb3.out (below_then hb4 hbV))).2.2.2.2; have t0 := Lib.cell_of_heap hrV 0; clear hlc hkd hb4 hbV hrV hsV) | (go_at_call 38; refine (num23_any _ _).mono ?_; rintro e w' ⟨rfl, rfl⟩))
      go_ret
      exact ⟨by first | rfl | simp [HTk.out], HB5.out⟩
  · obtain ⟨L', hLL⟩ : ∃ L', L' = L := ⟨_, rfl⟩
    subst hLL
    have hL2 : L'.map (·.1) = (List.range n).map (rndN n back) := hL.trans (rnd_list0 (by omega))
    clear hb2 hnd hL hrt hbU hrU hsU
    subst hU
    have b0 := Lib.cell_of_heap hF.box 0
    have HFin := Lib.hid (fun v' w' g o => hF.fin HT.out hL2 (o := o) v' w' g)
    have hnds := hF.nds
    have hnl : L'.length ≤ 1000000 := by have := Hn.out; omega
    have hNW : w1.heap.size + 3 ≤ w2.heap.size := hF.lt
    clear hF hL2 hl
    by_cases hrn : root = n
    · subst hrn
      obtain ⟨f1, f2, f3⟩ := rnd_S (n := root) (back := back) (by have := Hn.out; omega) most
      obtain ⟨tr, htr⟩ : ∃ tr, treeB (rndG root back) root most = tr := ⟨_, rfl⟩
      by_cases hm : most > 0
      · rw [if_pos hm] at f3
        have HV := Lib.hid (rnd_calls (by have := Hn.out; omega) ⟨f1, by rw [f2], f3, htr⟩)
        clear f1 f2 f3 htr
        go_wp2_with (first | (at_builtin; refine wpList_appK rfl _ _ _ rfl rfl _ _ ((scaN, none, 0) : NdK) rfl hnds ⟨IntsAt.nil, by simp [scaN], fun _ => rfl, fun p hp => by cases hp⟩ (w2.heap.size + 1) (by simp) rfl hnl (by simp; omega) ?_; intro v' w' gg r1 r2 r3 r4; obtain ⟨⟨z1, z2⟩, A9, c9, hv9, HGU0⟩ := HFin.out v' w' gg _ r1 r2 r3 r4; subst hv9; have d1 := (HGU0 _ (Below.refl _ _)).2.1; have HGU := Lib.hid HGU0; clear r1 r2 r3 r4 HGU0) | (go_at_call 36; refine (HV.out.1 _ _ (HGU.out _ (Below.refl _ _)).2.2.1 (HGU.out _ (Below.refl _ _)).2.2.2.1).mono ?_; rintro e w3 ⟨rfl, hb3⟩; obtain ⟨e0, e1, _⟩ := HGU.out w3 hb3; have Hb3 := Lib.hid hb3; clear hb3) | (go_at_call 39; refine (HV.out.2 w3 _ (HGU.out w3 Hb3.out).2.2.1 (HGU.out w3 Hb3.out).2.2.2.1).mono ?_; rintro e w4 ⟨y, rfl, ⟨A', c', rfl, hlc, hkd⟩, hb4⟩; obtain ⟨V, hV, hbV, hrV, hsV⟩ := boxN w4 #[.int .i64 tr.kind, .string tr.tag, .string tr.text, .slice A' tr.kids.length c'] 52; have HB5 := Lib.hid (HGU.out V (below_then Hb3.out (below_then hb4 hbV))).2.2.2.2; have t0 := Lib.cell_of_heap hrV 0; clear hlc hkd hb4 hbV hrV hsV) | (go_at_call 38; refine (num23_any _ _).mono ?_; rintro e w' ⟨rfl, rfl⟩))
        go_ret
        exact ⟨by first | rfl | (simp; done) | (simp; omega), HB5.out⟩
      · rw [if_neg hm] at f3
        have HV := Lib.hid (rnd_calls (by have := Hn.out; omega) ⟨f1, by rw [f2], f3, htr⟩)
        clear f1 f2 f3 htr
        go_wp2_with (first | (at_builtin; refine wpList_appK rfl _ _ _ rfl rfl _ _ ((scaN, none, 0) : NdK) rfl hnds ⟨IntsAt.nil, by simp [scaN], fun _ => rfl, fun p hp => by cases hp⟩ (w2.heap.size + 1) (by simp) rfl hnl (by simp; omega) ?_; intro v' w' gg r1 r2 r3 r4; obtain ⟨⟨z1, z2⟩, A9, c9, hv9, HGU0⟩ := HFin.out v' w' gg _ r1 r2 r3 r4; subst hv9; have d1 := (HGU0 _ (Below.refl _ _)).2.1; have HGU := Lib.hid HGU0; clear r1 r2 r3 r4 HGU0) | (go_at_call 36; refine (HV.out.1 _ _ (HGU.out _ (Below.refl _ _)).2.2.1 (HGU.out _ (Below.refl _ _)).2.2.2.1).mono ?_; rintro e w3 ⟨rfl, hb3⟩; obtain ⟨e0, e1, _⟩ := HGU.out w3 hb3; have Hb3 := Lib.hid hb3; clear hb3) | (go_at_call 39; refine (HV.out.2 w3 _ (HGU.out w3 Hb3.out).2.2.1 (HGU.out w3 Hb3.out).2.2.2.1).mono ?_; rintro e w4 ⟨y, rfl, ⟨A', c', rfl, hlc, hkd⟩, hb4⟩; obtain ⟨V, hV, hbV, hrV, hsV⟩ := boxN w4 #[.int .i64 tr.kind, .string tr.tag, .string tr.text, .slice A' tr.kids.length c'] 52; have HB5 := Lib.hid (HGU.out V (below_then Hb3.out (below_then hb4 hbV))).2.2.2.2; have t0 := Lib.cell_of_heap hrV 0; clear hlc hkd hb4 hbV hrV hsV) | (go_at_call 38; refine (num23_any _ _).mono ?_; rintro e w' ⟨rfl, rfl⟩))
        go_ret
        exact ⟨by first | rfl | (simp; done) | (simp; omega), HB5.out⟩
    · have hri : ¬ (root : Int) = n := by omega
      obtain ⟨f1, f2, f3⟩ := rnd_L (n := n) (back := back) (root := root) (by have := Hn.out; omega) (by have := Hn.out; omega) (by have := Hn.out; omega) most
      obtain ⟨tr, htr⟩ : ∃ tr, treeB (rndG n back) root most = tr := ⟨_, rfl⟩
      have hS : ((sizeB (rndG n back) root : Nat) : Int) = (n : Int) - root := by rw [f2]; have := Hn.out; omega
      have hmm : ((n - root : Nat) : Int) = (n : Int) - root := by have := Hn.out; omega
      rw [hmm] at f3
      by_cases hm : most ≥ (n : Int) - root
      · rw [if_pos hm] at f3
        have HV := Lib.hid (rnd_calls (by have := Hn.out; omega) ⟨f1, hS, f3, htr⟩)
        clear f1 f2 f3 htr hS hmm
        go_wp2_with (first | (at_builtin; refine wpList_appK rfl _ _ _ rfl rfl _ _ ((scaN, none, 0) : NdK) rfl hnds ⟨IntsAt.nil, by simp [scaN], fun _ => rfl, fun p hp => by cases hp⟩ (w2.heap.size + 1) (by simp) rfl hnl (by simp; omega) ?_; intro v' w' gg r1 r2 r3 r4; obtain ⟨⟨z1, z2⟩, A9, c9, hv9, HGU0⟩ := HFin.out v' w' gg _ r1 r2 r3 r4; subst hv9; have d1 := (HGU0 _ (Below.refl _ _)).2.1; have HGU := Lib.hid HGU0; clear r1 r2 r3 r4 HGU0) | (go_at_call 36; refine (HV.out.1 _ _ (HGU.out _ (Below.refl _ _)).2.2.1 (HGU.out _ (Below.refl _ _)).2.2.2.1).mono ?_; rintro e w3 ⟨rfl, hb3⟩; obtain ⟨e0, e1, _⟩ := HGU.out w3 hb3; have Hb3 := Lib.hid hb3; clear hb3) | (go_at_call 39; refine (HV.out.2 w3 _ (HGU.out w3 Hb3.out).2.2.1 (HGU.out w3 Hb3.out).2.2.2.1).mono ?_; rintro e w4 ⟨y, rfl, ⟨A', c', rfl, hlc, hkd⟩, hb4⟩; obtain ⟨V, hV, hbV, hrV, hsV⟩ := boxN w4 #[.int .i64 tr.kind, .string tr.tag, .string tr.text, .slice A' tr.kids.length c'] 52; have HB5 := Lib.hid (HGU.out V (below_then Hb3.out (below_then hb4 hbV))).2.2.2.2; have t0 := Lib.cell_of_heap hrV 0; clear hlc hkd hb4 hbV hrV hsV) | (go_at_call 38; refine (num23_any _ _).mono ?_; rintro e w' ⟨rfl, rfl⟩))
        go_ret
        exact ⟨by first | rfl | (simp; done) | (simp; omega), HB5.out⟩
      · rw [if_neg hm] at f3
        have HV := Lib.hid (rnd_calls (by have := Hn.out; omega) ⟨f1, hS, f3, htr⟩)
        clear f1 f2 f3 htr hS hmm
        go_wp2_with (first | (at_builtin; refine wpList_appK rfl _ _ _ rfl rfl _ _ ((scaN, none, 0) : NdK) rfl hnds ⟨IntsAt.nil, by simp [scaN], fun _ => rfl, fun p hp => by cases hp⟩ (w2.heap.size + 1) (by simp) rfl hnl (by simp; omega) ?_; intro v' w' gg r1 r2 r3 r4; obtain ⟨⟨z1, z2⟩, A9, c9, hv9, HGU0⟩ := HFin.out v' w' gg _ r1 r2 r3 r4; subst hv9; have d1 := (HGU0 _ (Below.refl _ _)).2.1; have HGU := Lib.hid HGU0; clear r1 r2 r3 r4 HGU0) | (go_at_call 36; refine (HV.out.1 _ _ (HGU.out _ (Below.refl _ _)).2.2.1 (HGU.out _ (Below.refl _ _)).2.2.2.1).mono ?_; rintro e w3 ⟨rfl, hb3⟩; obtain ⟨e0, e1, _⟩ := HGU.out w3 hb3; have Hb3 := Lib.hid hb3; clear hb3) | (go_at_call 39; refine (HV.out.2 w3 _ (HGU.out w3 Hb3.out).2.2.1 (HGU.out w3 Hb3.out).2.2.2.1).mono ?_; rintro e w4 ⟨y, rfl, ⟨A', c', rfl, hlc, hkd⟩, hb4⟩; obtain ⟨V, hV, hbV, hrV, hsV⟩ := boxN w4 #[.int .i64 tr.kind, .string tr.tag, .string tr.text, .slice A' tr.kids.length c'] 52; have HB5 := Lib.hid (HGU.out V (below_then Hb3.out (below_then hb4 hbV))).2.2.2.2; have t0 := Lib.cell_of_heap hrV 0; clear hlc hkd hb4 hbV hrV hsV) | (go_at_call 38; refine (num23_any _ _).mono ?_; rintro e w' ⟨rfl, rfl⟩))
        go_ret
        exact ⟨by first | rfl | (simp; done) | (simp; omega), HB5.out⟩
theorem expandRounds_walk (w : World) (hT : Tabs w) (n : Int) (_ : (Lit.int .i64 n).wf = true) (back : Int) (_ : (Lit.int .i64 back).wf = true) (root : Int) (_ : (Lit.int .i64 root).wf = true) (most : Int) (_ : (Lit.int .i64 most).wf = true) :
    Calls Tryd.prog 15 #[.int .i64 n, .int .i64 back, .int .i64 root, .int .i64 most] w fun e w' => e = .returned (.bool true) ∧ Below w.heap.size w w' := by
  by_cases h : 1 ≤ n ∧ n ≤ 40 ∧ 0 ≤ back ∧ back ≤ n ∧ 0 ≤ root ∧ root ≤ n
  · obtain ⟨h1, h2, h3, h4, h5, h6⟩ := h
    obtain ⟨a, rfl⟩ : ∃ a : Nat, n = a := ⟨n.toNat, by omega⟩
    obtain ⟨b, rfl⟩ : ∃ b : Nat, back = b := ⟨back.toNat, by omega⟩
    obtain ⟨c, rfl⟩ : ∃ c : Nat, root = c := ⟨root.toNat, by omega⟩
    exact expandRounds_in w hT a b c most (by omega) (by omega) (by omega) (by omega)
  · exact expandRounds_out w hT n back root most h
end Go.Proofs.YtdcbngimgpdjoaaDoor
