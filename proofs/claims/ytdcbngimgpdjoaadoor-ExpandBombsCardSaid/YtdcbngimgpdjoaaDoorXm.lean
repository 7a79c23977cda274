/- The law ExpandBombs (marginalialaw23). Condition: utf8's tables lie in the world. -/
import Derived.Test.YtdcbngimgpdjoaaDoorXl
namespace Go.Proofs.YtdcbngimgpdjoaaDoor
open Go.RowKit Go.Shelf Go.Deep
attribute [local go_sem] Oper.semAt_some
theorem quo_lt {Q t x : Nat} {Z : Int} (hZ : Z = Q) (h : Q / t < x) : Z / (t : Int) < (x : Int) := by subst hZ; exact_mod_cast h
theorem quo_ge {Q t x : Nat} {Z : Int} (hZ : Z = Q) (h : ¬ Q / t < x) : ¬ Z / (t : Int) < (x : Int) := fun h2 => h (by subst hZ; exact_mod_cast h2)
theorem prod_lt {Q t x : Nat} {Z : Int} (hZ : Z = Q) (h : t * x < Q) : (t : Int) * (x : Int) < Z ∧ 0 ≤ (t : Int) * (x : Int) := by subst hZ; exact ⟨by exact_mod_cast h, by exact_mod_cast Nat.zero_le (t * x)⟩
set_option maxRecDepth 100000 in
set_option maxHeartbeats 8000000 in
theorem expandBombs_out (w : World) (hT : Tabs w) (n times most : Int) (hout : ¬ (1 ≤ n ∧ n ≤ 60 ∧ 0 ≤ times ∧ times ≤ 9 ∧ most ≤ 2000)) :
    Calls Tryd.prog 13 #[.int .i64 n, .int .i64 times, .int .i64 most] w fun e w' => e = .returned (.bool true) ∧ Below w.heap.size w w' := by
  have hd : (decide (n < 1) || decide (60 < n) || decide (times < 0) || decide (9 < times) || decide (2000 < most)) = true := by
    simp only [Bool.or_eq_true, decide_eq_true_eq]; omega
  go_enter Tryd.func13, Tryd.ntmps13
  have HT := Lib.hid hT
  have Hout := Lib.hid hout
  clear hT hout
  go_wp2_with (first
    | (go_at_call 35; refine (alive23_any w HT.out).mono ?_; rintro e w1 ⟨rfl, hb1⟩; have Hb1 := Lib.hid hb1; clear hb1))
  all_goals first
    | (exfalso; have := Hout.out; omega)
    | (go_ret; exact ⟨rfl, Hb1.out⟩)
set_option maxRecDepth 100000 in
set_option maxHeartbeats 8000000 in
theorem expandBombs_in (w : World) (hT : Tabs w) (n t : Nat) (most : Int) (hn1 : 1 ≤ n) (hn : n ≤ 60) (ht : t ≤ 9) (hm : most ≤ 2000) :
    Calls Tryd.prog 13 #[.int .i64 (n : Int), .int .i64 (t : Int), .int .i64 most] w fun e w' => e = .returned (.bool true) ∧ Below w.heap.size w w' := by
  have a1 : (1 : Int) ≤ n := by omega
  have a2 : (n : Int) ≤ 60 := by omega
  have a3 : (0 : Int) ≤ t := by omega
  have a4 : (t : Int) ≤ 9 := by omega
  have HT := Lib.hid hT
  have Hn : Hid (1 ≤ n ∧ n ≤ 60 ∧ t ≤ 9 ∧ most ≤ 2000) := ⟨hn1, hn, ht, hm⟩
  clear hT hn1 hn ht
  go_enter Tryd.func13, Tryd.ntmps13
  go_wp2_with (first
    | (go_at_call 35; refine (alive23_any w HT.out).mono ?_; rintro e w1 ⟨rfl, hb1⟩; have Hb1 := Lib.hid hb1; clear hb1)
    | (go_at_call 44; refine (Bombs_any n t Hn.out.2.1 Hn.out.2.2.1 w1).mono ?_; rintro e w2 ⟨nv, rv, rfl, hG, hb2⟩
       obtain ⟨NA, nc, RA, rc, hv, hN, hR⟩ := hG.ex
       rw [bomb_len, show (bombG n t).roots.length = 1 from rfl] at hv
       cases hv
       obtain ⟨U, hU, hbU, hrU, hsU⟩ := box2 w2 (.slice NA n nc) (.slice RA 1 rc) 25
       have HU := Lib.hid hU
       have HGU : Hid (∀ W, Below U.heap.size U W → W.cell? ⟨w2.heap.size, 0, none⟩ = some (.slice NA n nc) ∧ W.cell? ⟨w2.heap.size, 1, none⟩ = some (.slice RA 1 rc) ∧ GrAt W W.heap.size (bombG n t) (.agg #[.slice NA n nc, .slice RA 1 rc]) ∧ Tabs W ∧ Below w.heap.size w W) := fun W hW => by
         have hW2 := below_then hbU hW
         have hx := (hW.block w2.heap.size (by omega)).trans hrU
         exact ⟨Lib.cell_of_heap hx 0, Lib.cell_of_heap hx 1, (hG.below hW2 (Nat.le_refl _)).more hW2.size, HT.out.below (below_then Hb1.out (below_then hb2 hW2)), below_then Hb1.out (below_then hb2 hW2)⟩
       clear hG hb2 hU hbU hrU hsU hN hR))
  rw [HU.out]
  go_loopw [9, 10] (fun x j wr => ∃ i : Nat, i < n ∧ x = .int .i64 (wantN t i : Nat) ∧ j = .int .i64 ((i + 1 : Nat) : Int) ∧ wr = U) (fun _ j _ => n - (intOf j).toNat)
  case atStart => exact ⟨0, by omega, rfl, rfl, rfl⟩
  case round =>
    obtain ⟨i, hii, rfl, rfl, rfl⟩ := hrel
    by_cases hlt : i + 1 < n
    · have g0 : ((i + 1 : Nat) : Int) < (n : Int) := by omega
      have hst := wantN_step (t := t) (k := i)
      have hx1 := wantN_le t i
      obtain ⟨x, hx⟩ : ∃ x, wantN t i = x := ⟨_, rfl⟩
      rw [hx] at hst hx1 ⊢
      have Hi := Lib.hid hlt
      clear hlt hii
      have hm3 : ∀ z : Int, z = (i : Int) + 1 + 1 → n - (intOf (.int .i64 z)).toNat < n - (intOf (.int .i64 ((i + 1 : Nat) : Int))).toNat := by intro z hz; subst hz; have := Hi.out; simp only [intOf]; omega
      rcases hst with ⟨g1, g2, g3⟩ | ⟨g1, g2, g3⟩
      · have h1 : (0 : Int) < t := by omega
        have q1 : ((4611686018427387903 : Int) / (t : Int) < (x : Int)) := quo_lt (Q := 4611686018427387903) rfl g2
        have G3 := Lib.hid g3
        clear g2 g1 g3
        go_wp2_with fail
        all_goals exact ⟨⟨i + 1, Hi.out, by rw [G3.out]; rfl, by simp, by first | rfl | trivial⟩, hm3 _ rfl⟩
      · by_cases h : 0 < t
        · have h1 : (0 : Int) < t := by omega
          have q1 : Hid (¬ ((4611686018427387903 : Int) / (t : Int) < (x : Int))) := quo_ge (Q := 4611686018427387903) rfl fun h2 => g1 ⟨h, h2⟩
          have G2 := Lib.hid g2
          clear g1 g2
          go_wp2_with fail
          all_goals first
            | exact ⟨⟨i + 1, Hi.out, by rw [G2.out]; simp, by simp, by first | rfl | trivial⟩, hm3 _ rfl⟩
            | (rename_i h9; exact absurd h9 q1.out)
        · obtain rfl : t = 0 := by omega
          have G2 := Lib.hid g2
          clear g1 g2 g3
          go_wp2_with fail
          all_goals exact ⟨⟨i + 1, Hi.out, by rw [G2.out]; simp, by simp, by first | rfl | trivial⟩, hm3 _ rfl⟩
    · obtain rfl : i + 1 = n := by omega
      have g0 : ¬ ((i + 1 : Nat) : Int) < ((i + 1 : Nat) : Int) := by omega
      obtain ⟨x, hx⟩ : ∃ x, wantN t i = x := ⟨_, rfl⟩
      have hx1 := wantN_le t i
      rw [hx] at hx1 ⊢
      have hxi : (x : Int) ≤ 4611686018427387904 := by unfold great at hx1; omega
      obtain ⟨c0, c1, _⟩ := HGU.out _ (Below.refl _ _)
      clear hii hlt
      have hok := bomb_ok (i + 1) t Hn.out.2.1 Hn.out.2.2.1
      have HSz : Hid (∀ W, Below wr.heap.size wr W → Calls Tryd.prog 36 #[.agg #[.slice NA (i + 1) nc, .slice RA 1 rc], .int .i64 0] W fun e w' => e = .returned (.tuple #[.int .i64 (x : Int), .int .i64 0]) ∧ Below W.heap.size W w') := fun W hW => by
        obtain ⟨_, _, h3, h4, _⟩ := HGU.out W hW
        have := Size_any (bombG (i + 1) t) _ 0 W h3 hok h4
        rw [bomb_size _ _ Hn.out.1 Hn.out.2.1 Hn.out.2.2.1, bomb_err _ _ Hn.out.1 Hn.out.2.1 Hn.out.2.2.1, Nat.add_sub_cancel, hx] at this
        exact this
      have HTr : Hid (∀ W, Below wr.heap.size wr W → Calls Tryd.prog 39 #[.agg #[.slice NA (i + 1) nc, .slice RA 1 rc], .int .i64 0, .int .i64 most] W fun e w' => ∃ y, e = .returned (.tuple #[y, .int .i64 (if (x : Int) > most then 14 else 0)]) ∧ TrV w' (hi W.heap.size w') (treeB (bombG (i + 1) t) 0 most) y ∧ Below W.heap.size W w') := fun W hW => by
        obtain ⟨_, _, h3, h4, _⟩ := HGU.out W hW
        have := Tree_any (bombG (i + 1) t) _ 0 most W h3 hok h4
        rw [bomb_terr _ _ Hn.out.1 Hn.out.2.1 Hn.out.2.2.1 most hm, Nat.add_sub_cancel, hx] at this
        exact this
      have HB9 : Hid (∀ W, Below wr.heap.size wr W → Below w.heap.size w W) := fun W hW => (HGU.out W hW).2.2.2.2
      by_cases hgt : (x : Int) > most
      · have hd : treeB (bombG (i + 1) t) 0 most = default := bomb_none _ _ Hn.out.1 Hn.out.2.1 Hn.out.2.2.1 most hm (by rw [Nat.add_sub_cancel, hx]; exact hgt)
        rw [hd, if_pos hgt] at HTr
        clear hd hm
        go_wp2_with (first
          | (go_at_call 36; refine (HSz.out _ (Below.refl _ _)).mono ?_; rintro e w3 ⟨rfl, hb3⟩; obtain ⟨d0, d1, _⟩ := HGU.out w3 hb3; have Hb3 := Lib.hid hb3; clear hb3)
          | (go_at_call 39; refine (HTr.out w3 Hb3.out).mono ?_; rintro e w4 ⟨y, rfl, ⟨A', c', rfl, hlc, hkd⟩, hb4⟩; simp only [show (default : Tr) = .mk 0 ⟨#[]⟩ ⟨#[]⟩ [] from rfl, Tr.kind, Tr.tag, Tr.text, Tr.kids, List.length_nil] at hlc hkd ⊢
             obtain ⟨V, hV, hbV, hrV, hsV⟩ := boxN w4 #[.int .i64 0, .string ⟨#[]⟩, .string ⟨#[]⟩, .slice A' 0 c'] 52
             have HB5 := Lib.hid (HB9.out V (below_then Hb3.out (below_then hb4 hbV)))
             have t0 := Lib.cell_of_heap hrV 0
             have t1 := Lib.cell_of_heap hrV 1
             have t2 := Lib.cell_of_heap hrV 2
             have t3 := Lib.cell_of_heap hrV 3
             clear hlc hkd hb4 hbV hrV hsV)
          | (go_at_call 38; refine (num23_any _ _).mono ?_; rintro e w' ⟨rfl, rfl⟩))
        go_ret
        exact ⟨rfl, HB5.out⟩
      · have hd : (treeB (bombG (i + 1) t) 0 most).count = x := by rw [bomb_tree _ _ Hn.out.1 Hn.out.2.1 Hn.out.2.2.1 most hm (by rw [Nat.add_sub_cancel, hx]; exact hgt), Nat.add_sub_cancel, hx]
        rw [if_neg hgt] at HTr
        obtain ⟨tr, htr⟩ : ∃ tr, treeB (bombG (i + 1) t) 0 most = tr := ⟨_, rfl⟩
        rw [htr] at hd HTr
        have Hx : Hid (tr.count = x ∧ x ≤ 2000) := ⟨hd, by omega⟩
        clear hd hm
        go_wp2_with (first
          | (go_at_call 36; refine (HSz.out _ (Below.refl _ _)).mono ?_; rintro e w3 ⟨rfl, hb3⟩; obtain ⟨d0, d1, _⟩ := HGU.out w3 hb3; have Hb3 := Lib.hid hb3; clear hb3)
          | (go_at_call 39; refine (HTr.out w3 Hb3.out).mono ?_; rintro e w4 ⟨y, rfl, hTV, hb4⟩
             obtain ⟨A', c', hy, _, _⟩ := id hTV
             obtain ⟨V, hV, hbV, hrV, hsV⟩ := boxN w4 #[.int .i64 tr.kind, .string tr.tag, .string tr.text, .slice A' tr.kids.length c'] 52
             have hb5 := below_then Hb3.out (below_then hb4 hbV)
             have HB5 := Lib.hid (HB9.out V hb5)
             have hTV2 : TrV V (lo V.heap.size) tr y := hTV.keep (fun b hb => hbV.block b hb.2) fun b hb => Nat.lt_of_lt_of_le hb.2 hbV.size
             have HCo : Hid (Calls Tryd.prog 42 #[y] V fun e w' => e = .returned (.int .i64 (x : Int)) ∧ Below V.heap.size V w') := (Count_any _ tr y V (Nat.le_refl _) (by have := Hx.out; omega) hTV2).mono (fun e w' h => by rw [Hx.out.1] at h; exact h)
             subst hy
             have t0 := Lib.cell_of_heap hrV 0
             have t1 := Lib.cell_of_heap hrV 1
             have t2 := Lib.cell_of_heap hrV 2
             have t3 := Lib.cell_of_heap hrV 3
             clear hTV hTV2 hb4 hbV hrV hsV hb5)
          | (go_at_call 38; refine (num23_any _ _).mono ?_; rintro e w' ⟨rfl, rfl⟩)
          | (go_at_call 42; refine HCo.out.mono ?_; rintro e w6 ⟨rfl, hb6⟩; have Hb6 := Lib.hid (below_then HB5.out hb6); clear hb6))
        go_ret
        exact ⟨by first | rfl | simp, Hb6.out⟩
theorem expandBombs_walk (w : World) (hT : Tabs w) (n : Int) (_ : (Lit.int .i64 n).wf = true) (times : Int) (_ : (Lit.int .i64 times).wf = true) (most : Int) (_ : (Lit.int .i64 most).wf = true) :
    Calls Tryd.prog 13 #[.int .i64 n, .int .i64 times, .int .i64 most] w fun e w' => e = .returned (.bool true) ∧ Below w.heap.size w w' := by
  by_cases h : 1 ≤ n ∧ n ≤ 60 ∧ 0 ≤ times ∧ times ≤ 9 ∧ most ≤ 2000
  · obtain ⟨h1, h2, h3, h4, h5⟩ := h
    obtain ⟨a, rfl⟩ : ∃ a : Nat, n = a := ⟨n.toNat, by omega⟩
    obtain ⟨b, rfl⟩ : ∃ b : Nat, times = b := ⟨times.toNat, by omega⟩
    exact expandBombs_in w hT a b most (by omega) (by omega) (by omega) h5
  · exact expandBombs_out w hT n times most h
end Go.Proofs.YtdcbngimgpdjoaaDoor
