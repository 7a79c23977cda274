/- The law ExpandParts, walked. Conditions: utf8's tables lie in the world; a graph's texts and rows hold no more than a million million. -/
import Derived.Test.YtdcbngimgpdjoaaDoorXx
import Derived.Deep.QuietTactic
import Derived.BigQuiet
namespace Go.Proofs.YtdcbngimgpdjoaaDoor
open Go.RowKit Go.Shelf Go.Deep
attribute [local go_sem] Oper.semAt_some
theorem err_acc {G : Gr} {r : Int} {x : Nat} (hi : isB G r = true) (hR : RightG G) (hx : x < G.nodes.length) (ha : Acc (edge (kidN G)) x) : errB G x = 0 := by
  have hb : rightB G = true := by
    simp only [isB, Bool.and_eq_true, decide_eq_true_eq] at hi
    exact hi.2
  have hix : isB G x = true := by
    simp only [isB, Bool.and_eq_true, decide_eq_true_eq]
    exact ⟨⟨by omega, by omega⟩, hb⟩
  have hc : cyclicB G x = false := by
    have h2 := hR.cyc hx
    rw [cyclicB, hix]
    cases h : cycL G x with
    | false => simp [h]
    | true => exact absurd ha (h2.1 h)
  simp [errB, hix, hc]
theorem terr_of {G : Gr} {x : Nat} {many : Int} (he : errB G x = 0) (hd : deepA (kidN G) x ≤ 10000) (hs : (sizeA (kidN G) x : Int) ≤ min many 1000000) : terrB G x many = 0 ∧ treeB G x many = treeA G x := by
  have h1 : sizeB G x = sizeA (kidN G) x := by rw [sizeB, if_pos he]; simp
  have h2 : deepB G x = deepA (kidN G) x := by rw [deepB, if_pos he]; simp
  have h3 : terrB G x many = 0 := by
    rw [terrB, if_neg (by rw [he]; simp), h2, if_neg (by omega), h1, if_neg (by omega)]
  exact ⟨h3, by rw [treeB, if_pos h3]; simp⟩
/-- What the law asks of a node of at most 2000. -/
theorem parts_facts {G : Gr} {r : Nat} (hi : isB G r = true) (hR : RightG G) (hr : r < G.nodes.length) (ha : Acc (edge (kidN G)) r) (hS : sizeA (kidN G) r ≤ 2000) :
    (terrB G r (sizeA (kidN G) r : Nat) = 0 ∧ treeB G r (sizeA (kidN G) r : Nat) = treeA G r) ∧ terrB G r ((sizeA (kidN G) r : Nat) - 1 : Int) = 14 ∧ (treeA G r).count = sizeA (kidN G) r ∧ ∀ z ∈ kidN G r, terrB G z (sizeA (kidN G) r : Nat) = 0 ∧ treeB G z (sizeA (kidN G) r : Nat) = treeA G z := by
  have he := err_acc hi hR hr ha
  have hc := size_count ha
  unfold great at hc
  have hdp := deep_count ha
  refine ⟨terr_of he (by omega) (by omega), ?_, by omega, fun z hz => ?_⟩
  · have h1 : sizeB G r = sizeA (kidN G) r := by rw [sizeB, if_pos he]; simp
    have h2 : deepB G r = deepA (kidN G) r := by rw [deepB, if_pos he]; simp
    rw [terrB, if_neg (by rw [he]; simp), h2, if_neg (by omega), h1, if_pos (by omega)]
  · have hza := ha.inv (show edge (kidN G) z r from hz)
    have hzn := hR.lt hr z hz
    have h1 : (treeA G z).count < (treeA G r).count := Tr.count_kid (by rw [treeA_eq ha]; exact List.mem_map.2 ⟨z, hz, rfl⟩)
    have h2 := size_count hza
    unfold great at h2
    have h3 := deep_count hza
    exact terr_of (err_acc hi hR hzn hza) (by omega) (by omega)
/-- Four cells stored into a box. -/
theorem set4 {W : World} {p : Nat} {z0 z1 z2 z3 : Value} (k a b s : Value) (h : W.heap[p]? = some (.cells #[z0, z1, z2, z3] 52 (0, 0))) : ∃ W9, (((W.setCell ⟨p, 0, none⟩ k).setCell ⟨p, 1, none⟩ a).setCell ⟨p, 2, none⟩ b).setCell ⟨p, 3, none⟩ s = W9 ∧
    W9.heap[p]? = some (.cells #[k, a, b, s] 52 (0, 0)) ∧ W9.heap.size = W.heap.size ∧ (∀ c, c ≠ p → W9.heap[c]? = W.heap[c]?) ∧ ∀ n (X : World), n ≤ p → Below n X W → Below n X W9 := by
  refine ⟨_, rfl, Go.Joins.block_setCell (i := 3) (Go.Joins.block_setCell (i := 2) (Go.Joins.block_setCell (i := 1) (Go.Joins.block_setCell (i := 0) h _) _) _) _, by simp, fun c hc => ?_, fun n X hn hb => ?_⟩
  · exact (Below.heap_setCell _ ⟨p, 3, none⟩ _ c hc).trans ((Below.heap_setCell _ ⟨p, 2, none⟩ _ c hc).trans ((Below.heap_setCell _ ⟨p, 1, none⟩ _ c hc).trans (Below.heap_setCell W ⟨p, 0, none⟩ _ c hc)))
  · exact (((hb.setCell (p := ⟨p, 0, none⟩) hn _).setCell (p := ⟨p, 1, none⟩) hn _).setCell (p := ⟨p, 2, none⟩) hn _).setCell (p := ⟨p, 3, none⟩) hn _
set_option maxRecDepth 100000 in
set_option maxHeartbeats 4000000 in
theorem expandParts_walk (w : World) (hT : Tabs w) (G : Gr) (v : Value) (hG : GrAt w w.heap.size G v) (hok : G.ok) (hokB : G.okB) (root : Int) :
    Calls Tryd.prog 14 #[v, .int .i64 root] w fun e w' => e = .returned (.bool true) ∧ Below w.heap.size w w' := by
  have HGw : Hid (∀ W, Below w.heap.size w W → GrAt W W.heap.size G v) := fun W hW => (hG.below hW (Nat.le_refl _)).more hW.size
  have HTw : Hid (∀ W, Below w.heap.size w W → Tabs W) := fun W hW => hT.below hW
  obtain ⟨NA, nc, RA, rc, rfl, hN, hRr⟩ := hG.ex
  obtain ⟨V, hV, hbV, hrV, hsV⟩ := box2 w (.slice NA G.nodes.length nc) (.slice RA G.roots.length rc) 25
  have HG0 : Hid (∀ W, Below V.heap.size V W → W.cell? ⟨w.heap.size, 0, none⟩ = some (.slice NA G.nodes.length nc) ∧ W.cell? ⟨w.heap.size, 1, none⟩ = some (.slice RA G.roots.length rc) ∧ Below w.heap.size w W) := fun W h => by
    have hr := (h.block w.heap.size (by omega)).trans hrV
    exact ⟨Lib.cell_of_heap hr 0, Lib.cell_of_heap hr 1, below_then hbV h⟩
  have HA : Hid (Calls Tryd.prog 35 #[] V fun e w' => e = .returned (.bool true) ∧ Below V.heap.size V w') := alive23_any V (hT.below hbV)
  have HB : Hid (∀ W, Below w.heap.size w W → Calls Tryd.prog 17 #[.agg #[.slice NA G.nodes.length nc, .slice RA G.roots.length rc]] W fun r w' => r = .returned (.bool (bigB G)) ∧ Below W.heap.size W w') := fun W hW => Big_any G _ W (HGw.out W hW) hokB
  have HOk := Lib.hid hok
  cases hbg : bigB G with
  | true =>
    rw [hbg] at HB
    clear hbg hG hT hok hokB hN hRr hbV hrV hsV
    go_enter Tryd.func14, Tryd.ntmps14
    go_wp2_with (first
      | (go_at_call 35; refine HA.out.mono ?_; rintro e w1 ⟨rfl, hb1⟩; obtain ⟨g0, g1, hw1⟩ := HG0.out w1 hb1; have Hb1 := Lib.hid hb1; have Hw1 := Lib.hid hw1; clear hb1 hw1)
      | (go_at_call 17; refine (HB.out w1 Hw1.out).mono ?_; rintro e w2 ⟨rfl, hb2⟩; have hb2' := below_then Hb1.out hb2; obtain ⟨g2, g3, hw2⟩ := HG0.out w2 hb2'; have Hb2 := Lib.hid hb2'; have Hw2 := Lib.hid hw2; clear hb2 hb2' hw2 g0 g1))
    go_ret
    exact ⟨rfl, Hw2.out⟩
  | false =>
    have hoR := hokB.okR hbg
    rw [hbg] at HB
    have HM : Hid (∀ W, Below w.heap.size w W → Calls Tryd.prog 27 #[.agg #[.slice NA G.nodes.length nc, .slice RA G.roots.length rc], .int .i64 root] W fun r w' => r = .returned (.bool (isB G root)) ∧ Below W.heap.size W w') := fun W hW => RMay_any G _ root W (HGw.out W hW) hoR
    cases his : isB G root with
    | false =>
      rw [his] at HM
      clear hbg hG hT hok hokB hN hRr hbV hrV hsV hoR his
      go_enter Tryd.func14, Tryd.ntmps14
      go_wp2_with (first
        | (go_at_call 35; refine HA.out.mono ?_; rintro e w1 ⟨rfl, hb1⟩; obtain ⟨g0, g1, hw1⟩ := HG0.out w1 hb1; have Hb1 := Lib.hid hb1; have Hw1 := Lib.hid hw1; clear hb1 hw1)
        | (go_at_call 17; refine (HB.out w1 Hw1.out).mono ?_; rintro e w2 ⟨rfl, hb2⟩; have hb2' := below_then Hb1.out hb2; obtain ⟨g2, g3, hw2⟩ := HG0.out w2 hb2'; have Hb2 := Lib.hid hb2'; have Hw2 := Lib.hid hw2; clear hb2 hb2' hw2 g0 g1)
        | (go_at_call 27; refine (HM.out w2 Hw2.out).mono ?_; rintro e w3 ⟨rfl, hb3⟩; have hb3' := below_then Hb2.out hb3; obtain ⟨g4, g5, hw3⟩ := HG0.out w3 hb3'; have Hb3 := Lib.hid hb3'; have Hw3 := Lib.hid hw3; clear hb3 hb3' hw3 g2 g3))
      go_ret
      exact ⟨rfl, Hw3.out⟩
    | true =>
      rw [his] at HM
      have HS : Hid (∀ W, Below w.heap.size w W → Calls Tryd.prog 37 #[.agg #[.slice NA G.nodes.length nc, .slice RA G.roots.length rc], .int .i64 root] W fun e w' => e = .returned (.tuple #[.int .i64 (sizeB G root : Nat), .int .i64 (errB G root)]) ∧ Below W.heap.size W w') := fun W hW => RSize_any G _ root W (HGw.out W hW) hoR
      by_cases h0 : errB G root = 0
      · obtain ⟨r, rfl, hr, hR, ha⟩ := err_zero h0
        have hsz : sizeB G r = sizeA (kidN G) r := by rw [sizeB, if_pos h0]; simp
        rw [h0, hsz] at HS
        obtain ⟨S, hSe⟩ : ∃ S, sizeA (kidN G) r = S := ⟨_, rfl⟩
        rw [hSe] at HS
        by_cases h2 : 2000 < S
        · have h2I : (2000 : Int) < (S : Int) := by omega
          clear hbg hG hT hok hokB hN hRr hbV hrV hsV hoR his h0 hr hR ha hsz hSe h2
          go_enter Tryd.func14, Tryd.ntmps14
          go_wp2_with (first
            | (go_at_call 35; refine HA.out.mono ?_; rintro e w1 ⟨rfl, hb1⟩; obtain ⟨g0, g1, hw1⟩ := HG0.out w1 hb1; have Hb1 := Lib.hid hb1; have Hw1 := Lib.hid hw1; clear hb1 hw1)
            | (go_at_call 17; refine (HB.out w1 Hw1.out).mono ?_; rintro e w2 ⟨rfl, hb2⟩; have hb2' := below_then Hb1.out hb2; obtain ⟨g2, g3, hw2⟩ := HG0.out w2 hb2'; have Hb2 := Lib.hid hb2'; have Hw2 := Lib.hid hw2; clear hb2 hb2' hw2 g0 g1)
            | (go_at_call 27; refine (HM.out w2 Hw2.out).mono ?_; rintro e w3 ⟨rfl, hb3⟩; have hb3' := below_then Hb2.out hb3; obtain ⟨g4, g5, hw3⟩ := HG0.out w3 hb3'; have Hb3 := Lib.hid hb3'; have Hw3 := Lib.hid hw3; clear hb3 hb3' hw3 g2 g3)
            | (go_at_call 37; refine (HS.out w3 Hw3.out).mono ?_; rintro e w4 ⟨rfl, hb4⟩; have hb4' := below_then Hb3.out hb4; obtain ⟨g6, g7, hw4⟩ := HG0.out w4 hb4'; have Hb4 := Lib.hid hb4'; have Hw4 := Lib.hid hw4; clear hb4 hb4' hw4 g4 g5))
          go_ret
          exact ⟨rfl, Hw4.out⟩
        · have hpf := parts_facts his hR hr ha (by omega)
          rw [hSe] at hpf
          obtain ⟨⟨p1, p2⟩, p3, p4, p5⟩ := hpf
          have hnn := hR.nodes
          obtain ⟨bn, on, rfl, hbn, hnc⟩ := hN (by omega)
          obtain ⟨K, kc, hnd⟩ := hnc r hr
          obtain ⟨e, he⟩ : ∃ e, nd G.nodes r = e := ⟨_, rfl⟩
          rw [he] at hnd
          obtain ⟨kl, hkl⟩ : ∃ l, e.kids = l := ⟨_, rfl⟩
          have hKN : kidN G r = kl.map Int.toNat := by rw [kidN, he, hkl]
          have hKr : ∀ z ∈ kl, 0 ≤ z ∧ z < G.nodes.length := by rw [← hkl, ← he]; exact hR.kids r hr
          have HKl : Hid (kl.length ≤ 20000) := kids_len hR hr (by rw [he]; exact hkl)
          have HNd : Hid (∀ W, Below w.heap.size w W → W.cell? ⟨bn, on + r * 5, none⟩ = some (.int .i64 e.kind) ∧ W.cell? ⟨bn, on + r * 5 + 1, none⟩ = some (.string e.tag) ∧ W.cell? ⟨bn, on + r * 5 + 2, none⟩ = some (.string e.text) ∧ W.cell? ⟨bn, on + r * 5 + 3, none⟩ = some (.slice K kl.length kc) ∧ IntsAt W w.heap.size K kl) := fun W hW => by
            have h := hnd.below hW (Nat.le_refl _) hbn
            exact ⟨h.c0, h.c1, h.c2, hkl ▸ h.c3, hkl ▸ h.kids⟩
          obtain ⟨ks, hks⟩ : ∃ l, (kidN G r).map (treeA G) = l := ⟨_, rfl⟩
          have hta : treeA G r = .mk e.kind e.tag e.text ks := by rw [treeA_eq ha, he, hks]
          have hksl : ks.length = kl.length := by rw [← hks, hKN, List.length_map, List.length_map]
          have HKk : Hid (kl.length = ks.length) := hksl.symm
          have HKs : Hid (∀ q, q < kl.length → ∃ z : Nat, nth kl q = (z : Int) ∧ z ∈ kidN G r ∧ ∃ h : q < ks.length, ks[q] = treeA G z) := fun q hq => by
            obtain ⟨z, hz⟩ : ∃ z : Nat, nth kl q = (z : Int) := ⟨(nth kl q).toNat, by have := (hKr _ (nth_mem hq)).1; omega⟩
            refine ⟨z, hz, ?_, by omega, ?_⟩
            · rw [hKN]; exact List.mem_map.2 ⟨_, nth_mem hq, by rw [hz]; simp⟩
            · have h1 : ks[q]? = some (treeA G z) := by
                rw [← hks, hKN, List.getElem?_map, List.getElem?_map, List.getElem?_eq_getElem hq, ← nth_eq hq, hz]; simp
              exact (List.getElem?_eq_some_iff.1 h1).2
          have HT1 : Hid (∀ W, Below w.heap.size w W → Calls Tryd.prog 39 #[.agg #[.slice (some ⟨bn, on, none⟩) G.nodes.length nc, .slice RA G.roots.length rc], .int .i64 (r : Int), .int .i64 (S : Int)] W fun x w' => ∃ A' c', x = .returned (.tuple #[.agg #[.int .i64 e.kind, .string e.tag, .string e.text, .slice A' kl.length c'], .int .i64 0]) ∧ (kl.length ≤ c' ∧ KidsAt w' (hi W.heap.size w') A' ks) ∧ Below W.heap.size W w') := fun W hW => by
            have h := Tree_any G _ r (S : Int) W (HGw.out W hW) HOk.out (HTw.out W hW)
            rw [p1, p2, hta] at h
            refine h.mono ?_
            rintro x w' ⟨y, rfl, ⟨A', c', rfl, hl, hk⟩, hb⟩
            simp only [Tr.kind, Tr.tag, Tr.text, Tr.kids] at hl hk ⊢
            rw [hksl] at hl ⊢
            exact ⟨A', c', rfl, ⟨hl, hk⟩, hb⟩
          have HT2 : Hid (∀ W, Below w.heap.size w W → Calls Tryd.prog 39 #[.agg #[.slice (some ⟨bn, on, none⟩) G.nodes.length nc, .slice RA G.roots.length rc], .int .i64 (r : Int), .int .i64 ((S : Int) - 1)] W fun x w' => ∃ A' c', x = .returned (.tuple #[.agg #[.int .i64 0, .string ⟨#[]⟩, .string ⟨#[]⟩, .slice A' 0 c'], .int .i64 14]) ∧ Below W.heap.size W w') := fun W hW => by
            have h := Tree_any G _ r ((S : Int) - 1) W (HGw.out W hW) HOk.out (HTw.out W hW)
            rw [treeB, p3, if_neg (by decide)] at h
            refine h.mono ?_
            rintro x w' ⟨y, rfl, ⟨A', c', rfl, hl, hk⟩, hb⟩
            exact ⟨A', c', rfl, hb⟩
          have HTz : Hid (∀ z ∈ kidN G r, ∀ W, Below w.heap.size w W → Calls Tryd.prog 39 #[.agg #[.slice (some ⟨bn, on, none⟩) G.nodes.length nc, .slice RA G.roots.length rc], .int .i64 (z : Int), .int .i64 (S : Int)] W fun x w' => ∃ y, x = .returned (.tuple #[y, .int .i64 0]) ∧ TrV w' (hi W.heap.size w') (treeA G z) y ∧ Below W.heap.size W w') := fun z hz W hW => by
            have h := Tree_any G _ z (S : Int) W (HGw.out W hW) HOk.out (HTw.out W hW)
            rw [(p5 z hz).1, (p5 z hz).2] at h
            exact h
          have HSm : Hid (1 + Tr.counts ks = S ∧ S ≤ 2000) := ⟨by rw [← p4, hta]; simp [Tr.count], by omega⟩
          have hS0 : (0 : Int) ≤ (S : Int) := Int.natCast_nonneg S
          have hS1 : (S : Int) ≤ 2000 := by omega
          have hS2 : decide ((2000 : Int) < (S : Int)) = false := decide_eq_false (by omega)
          have hrI : (r : Int) < (G.nodes.length : Int) := by omega
          have hr0 : (0 : Int) ≤ (r : Int) := Int.natCast_nonneg r
          clear hbg hG hT hok hokB hN hRr hbV hrV hsV hoR his h0 hr hR ha hsz hSe h2 p1 p2 p3 p4 p5 hnn hbn hnc hnd he hkl hKN hKr hks hta hksl
          go_enter Tryd.func14, Tryd.ntmps14
          go_wp2_with (first
            | (go_at_call 35; refine HA.out.mono ?_; rintro e w1 ⟨rfl, hb1⟩; obtain ⟨g0, g1, hw1⟩ := HG0.out w1 hb1; have Hb1 := Lib.hid hb1; have Hw1 := Lib.hid hw1; clear hb1 hw1)
            | (go_at_call 17; refine (HB.out w1 Hw1.out).mono ?_; rintro e w2 ⟨rfl, hb2⟩; have hb2' := below_then Hb1.out hb2; obtain ⟨g2, g3, hw2⟩ := HG0.out w2 hb2'; have Hb2 := Lib.hid hb2'; have Hw2 := Lib.hid hw2; clear hb2 hb2' hw2 g0 g1)
            | (go_at_call 27; refine (HM.out w2 Hw2.out).mono ?_; rintro e w3 ⟨rfl, hb3⟩; have hb3' := below_then Hb2.out hb3; obtain ⟨g4, g5, hw3⟩ := HG0.out w3 hb3'; have Hb3 := Lib.hid hb3'; have Hw3 := Lib.hid hw3; clear hb3 hb3' hw3 g2 g3)
            | (go_at_call 37; refine (HS.out w3 Hw3.out).mono ?_; rintro e w4 ⟨rfl, hb4⟩; have hb4' := below_then Hb3.out hb4; obtain ⟨g6, g7, hw4⟩ := HG0.out w4 hb4'; have Hb4 := Lib.hid hb4'; have Hw4 := Lib.hid hw4; clear hb4 hb4' hw4 g4 g5)
            | (go_at_call 39; (with_reducible refine (HT1.out w4 Hw4.out).mono ?_); rintro x w5 ⟨A', c', rfl, hkd, hb5⟩
               obtain ⟨U, hU, hbU, hrU, hsU⟩ := boxN w5 #[.int .i64 e.kind, .string e.tag, .string e.text, .slice A' kl.length c'] 52
               have hb5' := below_then Hb4.out (below_then hb5 hbU)
               obtain ⟨g8, g9, hw5⟩ := HG0.out U hb5'
               have Hb5 := Lib.hid hb5'
               have Hw5 := Lib.hid hw5
               have HkU : Hid (KidsAt U (lo U.heap.size) A' ks) := hkd.2.keep (fun b hb => hbU.block b hb.2) fun b hb => Nat.lt_of_lt_of_le hb.2 hbU.size
               have HrU := Lib.hid hrU
               have HsU := Lib.hid hsU
               clear hkd hb5 hb5' hw5 g6 g7 hbU hrU hsU)
            | (go_at_call 39; (with_reducible refine (HT2.out U Hw5.out).mono ?_); rintro x w6 ⟨A2, c2, rfl, hb6⟩
               obtain ⟨X, hX, hbX, hrX, hsX⟩ := boxN w6 #[.int .i64 0, .string ⟨#[]⟩, .string ⟨#[]⟩, .slice A2 0 c2] 52
               have hbUX := below_then hb6 hbX
               have hrt := (hbUX.block w5.heap.size (by have := HsU.out; omega)).trans HrU.out
               have HsX : Hid (w5.heap.size < X.heap.size) := by have := HsU.out; have := hbUX.size; show _ < _; omega
               have HkX : Hid (∀ W, Below X.heap.size X W → KidsAt W (lo W.heap.size) A' ks) := fun W hW => HkU.out.below (below_then hbUX hW) (Nat.le_trans hbUX.size hW.size)
               have HC : Hid (∀ W, Below X.heap.size X W → W.cell? ⟨w5.heap.size, 0, none⟩ = some (.int .i64 e.kind) ∧ W.cell? ⟨w5.heap.size, 1, none⟩ = some (.string e.tag) ∧ W.cell? ⟨w5.heap.size, 2, none⟩ = some (.string e.text) ∧ W.cell? ⟨w5.heap.size, 3, none⟩ = some (.slice A' kl.length c') ∧ W.cell? ⟨w.heap.size, 0, none⟩ = some (.slice (some ⟨bn, on, none⟩) G.nodes.length nc) ∧ W.cell? ⟨w.heap.size, 1, none⟩ = some (.slice RA G.roots.length rc) ∧ Below w.heap.size w W) := fun W hW => (by
                 have q1 := (hW.block w5.heap.size HsX.out).trans hrt
                 have q2 := HG0.out W (below_then Hb5.out (below_then hbUX hW))
                 exact ⟨Lib.cell_of_heap q1 0, Lib.cell_of_heap q1 1, Lib.cell_of_heap q1 2, Lib.cell_of_heap q1 3, q2.1, q2.2.1, q2.2.2⟩)
               obtain ⟨d0, d1, d2, d3, d4, d5, hwX⟩ := HC.out X (Below.refl _ _)
               obtain ⟨n0, n1, n2, n3, _⟩ := HNd.out X hwX
               clear hb6 hbX hrX hsX hbUX hrt g8 g9 hwX))
          have e1 : (e.tag.toList != e.tag.toList) = false := by simp
          have e2 : (e.text.toList != e.text.toList) = false := by simp
          have hx0 : (e.kind != e.kind) = false := by simp
          go_quiet ((go_at_call 38; exact Calls.quiet_of_same (num23_any _ _)))
          have Hb0 : Hid (Below X.heap.size X (X.drewN nq)) := below_drewN (Below.refl _ X) nq
          obtain ⟨X', hX'⟩ : ∃ X', X.drewN nq = X' := ⟨_, rfl⟩
          rw [hX'] at Hb0 ⊢
          clear hX' d0 d1 d2 d3 d4 d5 n0 n1 n2 n3 e1 e2 hx0 hX hU
          go_wp2_with fail
          go_loopw [14, 15] (fun s i wr => ∃ q : Nat, q ≤ kl.length ∧ s = .int .i64 ((1 + Tr.counts (ks.take q) : Nat) : Int) ∧ i = .int .i64 (q : Int) ∧ Hid (Below X.heap.size X wr)) (fun _ i _ => kl.length - (intOf i).toNat)
          case atStart => exact ⟨0, Nat.zero_le _, by simp [Tr.counts], rfl, Hb0⟩
          case round =>
            obtain ⟨q, hq, rfl, rfl, hb⟩ := hrel
            by_cases hlt : q < kl.length
            · obtain ⟨z, hz, hzk, hqk, hkz⟩ := HKs.out q hlt
              obtain ⟨c0, c1, c2, c3, c4, c5, hwr⟩ := HC.out wr hb.out
              obtain ⟨_, _, _, _, hki⟩ := HNd.out wr hwr
              obtain ⟨bK, oK, rfl, hbK, hcK⟩ := hki (by omega)
              have hcq := hcK q hlt
              rw [hz] at hcq
              obtain ⟨u, hu⟩ : ∃ u, treeA G z = u := ⟨_, rfl⟩
              have hHTz := HTz.out z hzk
              rw [hu] at hHTz hkz
              have HTq : Hid (∀ W, Below X.heap.size X W → Calls Tryd.prog 39 #[.agg #[.slice (some ⟨bn, on, none⟩) G.nodes.length nc, .slice RA G.roots.length rc], .int .i64 (z : Int), .int .i64 (S : Int)] W fun x w' => ∃ A1 c1, x = .returned (.tuple #[.agg #[.int .i64 u.kind, .string u.tag, .string u.text, .slice A1 u.kids.length c1], .int .i64 0]) ∧ (u.kids.length ≤ c1 ∧ KidsAt w' (hi W.heap.size w') A1 u.kids) ∧ Below W.heap.size W w') := fun W hW => by
                refine (hHTz W (HC.out W hW).2.2.2.2.2.2).mono ?_
                rintro x w' ⟨y, rfl, ⟨A1, c1, rfl, hl, hk⟩, hb⟩
                exact ⟨A1, c1, rfl, ⟨hl, hk⟩, hb⟩
              have HS3 : Hid (∀ W, Below X.heap.size X W → W.cell? ⟨w.heap.size, 0, none⟩ = some (.slice (some ⟨bn, on, none⟩) G.nodes.length nc) ∧ W.cell? ⟨w.heap.size, 1, none⟩ = some (.slice RA G.roots.length rc) ∧ W.cell? ⟨bK, oK + q, none⟩ = some (.int .i64 (z : Int))) := fun W hW => by
                obtain ⟨_, _, _, _, q4, q5, q6⟩ := HC.out W hW
                obtain ⟨_, _, _, _, hki⟩ := HNd.out W q6
                obtain ⟨bK', oK', e0, _, hcK'⟩ := hki (by omega)
                cases e0
                exact ⟨q4, q5, by rw [hcK' q hlt, hz]⟩
              have hlt' : (q : Int) < (kl.length : Int) := by omega
              have hq0 : (0 : Int) ≤ (q : Int) := Int.natCast_nonneg q
              have Hlt := Lib.hid hlt
              have HU : Hid (∃ h : q < ks.length, ks[q] = u) := ⟨hqk, hkz⟩
              have hct := Tr.counts_take hqk
              rw [hkz] at hct
              have hcl := Tr.counts_le ks (q + 1)
              have hsm := HSm.out
              obtain ⟨n0, hn0⟩ : ∃ n, 1 + Tr.counts (ks.take q) = n := ⟨_, rfl⟩
              have HN : Hid (1 + Tr.counts (ks.take (q + 1)) = n0 + u.count) := by show _ = _; omega
              have hun : n0 + u.count ≤ 2000 := by omega
              have Hun := Lib.hid hun
              have hadd : Hid (wrap64 ((n0 : Int) + (u.count : Int)) = ((n0 + u.count : Nat) : Int)) := by
                show _ = _
                rw [Int.natCast_add]
                exact IntWalk.wrap64_in _ (by omega)
              rw [hn0]
              clear hct hcl hsm hn0 hun
              have HD : Hid (Below X.heap.size X wr.drew) := hb.out.drew
              have HDa : Hid (Below X.heap.size X (wr.alloc (.cells #[.int .i64 0, .string ⟨#[]⟩, .string ⟨#[]⟩, .slice none 0 0] 52)).drew) := (hb.out.alloc hb.out.size _).drew
              have HXs := Lib.hid hb.out.size
              have hmz : ∀ y : Int, y = q + 1 → kl.length - (intOf (.int .i64 y)).toNat < kl.length - (intOf (.int .i64 (q : Int))).toNat := by intro y hy; subst hy; have := Hlt.out; simp only [intOf]; omega
              have HW : Hid (wrap64 ((q : Int) + 1) = q + 1) := wrap_nat1 q (by have := Hlt.out; have := HKl.out; omega)
              clear hz hzk hqk hkz hki hbK hcK hu hHTz hlt hq hwr
              go_wp2_with fail
              go_region_held3 (fun W => W.cell? ⟨w.heap.size, 0, none⟩ = some (.slice (some ⟨bn, on, none⟩) G.nodes.length nc) ∧ W.cell? ⟨w.heap.size, 1, none⟩ = some (.slice RA G.roots.length rc) ∧ W.cell? ⟨bK, oK + q, none⟩ = some (.int .i64 (z : Int)))
                (first | exact HS3.out _ HD.out | exact HS3.out _ HDa.out | exact HS3.out _ Hb7.out | exact HS3.out _ Hb7a.out | exact HS3.out _ HBf.out | (rw [hW9]; exact HS3.out _ HBf.out))
                (first
                  | (go_at_call 39; (with_reducible refine (HTq.out (wr.alloc (.cells #[.int .i64 0, .string ⟨#[]⟩, .string ⟨#[]⟩, .slice none 0 0] 52)).drew HDa.out).mono ?_); rintro x w7 ⟨A1, c1, rfl, hkd, hb7⟩
                     have hbx := (hb7.block wr.heap.size (by simp)).trans (heap_alloc_new wr _)
                     have k0 := Lib.cell_of_heap hbx 0
                     have k1 := Lib.cell_of_heap hbx 1
                     have k2 := Lib.cell_of_heap hbx 2
                     have k3 := Lib.cell_of_heap hbx 3
                     have f0 := Go.Joins.unfrozen_of_block hbx 0
                     have f1 := Go.Joins.unfrozen_of_block hbx 1
                     have f2 := Go.Joins.unfrozen_of_block hbx 2
                     have f3 := Go.Joins.unfrozen_of_block hbx 3
                     have hb7X := below_then HDa.out hb7
                     have Hb7 := Lib.hid hb7X
                     obtain ⟨W9, hW9, hr9, hs9, hk9, hB9⟩ := set4 (.int .i64 u.kind) (.string u.tag) (.string u.text) (.slice A1 u.kids.length c1) hbx
                     have HBf := Lib.hid (hB9 X.heap.size X HXs.out hb7X)
                     have HFa : Hid (W9.heap[wr.heap.size]? = some (.cells #[.int .i64 u.kind, .string u.tag, .string u.text, .slice A1 u.kids.length c1] 52 (0, 0)) ∧ TrV W9 (lo W9.heap.size) u (.agg #[.int .i64 u.kind, .string u.tag, .string u.text, .slice A1 u.kids.length c1])) := ⟨hr9, A1, c1, rfl, hkd.1, hkd.2.keep (fun b hb => hk9 b (by have := hb.1; simp at this; omega)) fun b hb => by show b < _; rw [hs9]; exact hb.2⟩
                     clear hkd hb7 hb7X hr9 hs9 hk9 hB9 hbx)
                  | (go_at_call 39; (with_reducible refine (HTq.out wr.drew HD.out).mono ?_); rintro x w7 ⟨A1, c1, rfl, hkd, hb7⟩
                     have hb7X := below_then HD.out hb7
                     have Hb7 := Lib.hid hb7X
                     have hb7a := hb7X.alloc hb7X.size (.cells #[.int .i64 0, .string ⟨#[]⟩, .string ⟨#[]⟩, .slice none 0 0] 52)
                     have Hb7a := Lib.hid hb7a
                     obtain ⟨W9, hW9, hB9, hr9, hs9⟩ := boxN w7 #[.int .i64 u.kind, .string u.tag, .string u.text, .slice A1 u.kids.length c1] 52
                     have HBf := Lib.hid (below_then hb7X hB9)
                     have HFa : Hid (W9.heap[w7.heap.size]? = some (.cells #[.int .i64 u.kind, .string u.tag, .string u.text, .slice A1 u.kids.length c1] 52 (0, 0)) ∧ TrV W9 (lo W9.heap.size) u (.agg #[.int .i64 u.kind, .string u.tag, .string u.text, .slice A1 u.kids.length c1])) := ⟨hr9, TrV.lower ⟨A1, c1, rfl, hkd.1, hkd.2⟩ hB9⟩
                     clear hkd hb7 hb7X hb7a hr9 hs9 hB9))
              · obtain ⟨hqk, hkz⟩ := HU.out
                have hr9 := HFa.out.1
                obtain ⟨_, _, _, d3, _, _, _⟩ := HC.out W9 HBf.out
                obtain ⟨b, o, rfl, hbl, hkd⟩ := (HkX.out W9 HBf.out).kid (by omega)
                obtain ⟨A9, c9, k0, k1, k2, k3, k4, k5⟩ := hkd q hqk
                rw [hkz] at k0 k1 k2 k3 k4 k5
                have a0 := Lib.cell_of_heap hr9 0
                have a1 := Lib.cell_of_heap hr9 1
                have a2 := Lib.cell_of_heap hr9 2
                have a3 := Lib.cell_of_heap hr9 3
                have HkS : Hid (∀ W, Below W9.heap.size W9 W → W.cell? ⟨w7.heap.size, 0, none⟩ = some (.int .i64 u.kind) ∧ W.cell? ⟨w7.heap.size, 1, none⟩ = some (.string u.tag) ∧ W.cell? ⟨w7.heap.size, 2, none⟩ = some (.string u.text) ∧ W.cell? ⟨w7.heap.size, 3, none⟩ = some (.slice A1 u.kids.length c1) ∧ W.cell? ⟨w5.heap.size, 3, none⟩ = some (.slice (some ⟨b, o, none⟩) kl.length c') ∧ W.cell? ⟨b, o + q * 4, none⟩ = some (.int .i64 u.kind) ∧ W.cell? ⟨b, o + q * 4 + 1, none⟩ = some (.string u.tag) ∧ W.cell? ⟨b, o + q * 4 + 2, none⟩ = some (.string u.text) ∧ W.cell? ⟨b, o + q * 4 + 3, none⟩ = some (.slice A9 u.kids.length c9)) := fun W hW => by
                  have key : ∀ (p : Addr) x, W9.cell? p = some x → W.cell? p = some x := fun p x hx => (hW.cell (p := p) (World.block_lt_of_cell? W9 p hx)).trans hx
                  exact ⟨key _ _ a0, key _ _ a1, key _ _ a2, key _ _ a3, key _ _ d3, key _ _ k0, key _ _ k1, key _ _ k2, key _ _ k3⟩
                have HCl := Lib.hid (SameTree_any _ u (.agg #[.int .i64 u.kind, .string u.tag, .string u.text, .slice A1 u.kids.length c1]) (.agg #[.int .i64 u.kind, .string u.tag, .string u.text, .slice A9 u.kids.length c9]) W9.drew (Nat.le_refl _) (by have := Hun.out; omega) (HFa.out.2.keep (fun _ _ => rfl) fun _ h => h) ⟨A9, c9, rfl, k4, k5.keep (fun _ _ => rfl) fun _ h => h⟩)
                have HCn : Hid (∀ W, Below W9.heap.size W9 W → Calls Tryd.prog 42 #[.agg #[.int .i64 u.kind, .string u.tag, .string u.text, .slice A1 u.kids.length c1]] W fun e w' => e = .returned (.int .i64 (u.count : Nat)) ∧ Below W9.heap.size W9 w') := fun W hW => (Count_any _ u _ W (Nat.le_refl _) (by have := Hun.out; omega) (HFa.out.2.below hW hW.size)).mono fun e w' h => ⟨h.1, below_then hW h.2⟩
                clear hqk hkz hbl hkd k4 k5 hr9 hW9
                go_wp2_with fail
                go_region_held3 (fun W => W.cell? ⟨w7.heap.size, 0, none⟩ = some (.int .i64 u.kind) ∧ W.cell? ⟨w7.heap.size, 1, none⟩ = some (.string u.tag) ∧ W.cell? ⟨w7.heap.size, 2, none⟩ = some (.string u.text) ∧ W.cell? ⟨w7.heap.size, 3, none⟩ = some (.slice A1 u.kids.length c1) ∧ W.cell? ⟨w5.heap.size, 3, none⟩ = some (.slice (some ⟨b, o, none⟩) kl.length c') ∧ W.cell? ⟨b, o + q * 4, none⟩ = some (.int .i64 u.kind) ∧ W.cell? ⟨b, o + q * 4 + 1, none⟩ = some (.string u.tag) ∧ W.cell? ⟨b, o + q * 4 + 2, none⟩ = some (.string u.text) ∧ W.cell? ⟨b, o + q * 4 + 3, none⟩ = some (.slice A9 u.kids.length c9)) (first | exact HkS.out _ (Below.refl _ W9).drew | exact HkS.out _ HZ1.out) (first
                    | (go_at_call 38; refine (num23_any _ _).mono ?_; rintro e w' ⟨rfl, hw'⟩; have hw' := hw'.symm; subst hw')
                    | (go_at_call 41; refine HCl.out.mono ?_; rintro e wZ ⟨rfl, hbZ⟩; have HZ1 : Hid (Below W9.heap.size W9 wZ) := Below.trans (Below.refl _ W9).drew hbZ; clear hbZ))
                clear a0 a1 a2 a3 d3 k0 k1 k2 k3
                obtain ⟨y0, y1, y2, y3, _, _, _, _, _⟩ := HkS.out wZ HZ1.out
                go_wp2_with (go_at_call 42; refine (HCn.out _ HZ1.out).mono ?_; rintro e wY ⟨rfl, hbY⟩; have HY : Hid (Below X.heap.size X wY) := below_then HBf.out hbY; clear hbY)
                first
                  | exact ⟨⟨q + 1, Hlt.out, (by rw [HN.out]; exact congrArg (Value.int .i64) hadd.out), by simp, HY⟩, hmz _ rfl⟩
                  | exact ⟨⟨q + 1, Hlt.out, (by rw [HN.out]; exact congrArg (Value.int .i64) hadd.out), congrArg (Value.int .i64) (HW.out.trans (by simp)), HY⟩, hmz _ HW.out⟩
                  | exact ⟨⟨q + 1, Hlt.out, (by rw [HN.out]; simp), by simp, HY⟩, hmz _ rfl⟩
              · obtain ⟨hqk, hkz⟩ := HU.out
                have hr9 := HFa.out.1
                obtain ⟨_, _, _, d3, _, _, _⟩ := HC.out W9 HBf.out
                obtain ⟨b, o, rfl, hbl, hkd⟩ := (HkX.out W9 HBf.out).kid (by omega)
                obtain ⟨A9, c9, k0, k1, k2, k3, k4, k5⟩ := hkd q hqk
                rw [hkz] at k0 k1 k2 k3 k4 k5
                have a0 := Lib.cell_of_heap hr9 0
                have a1 := Lib.cell_of_heap hr9 1
                have a2 := Lib.cell_of_heap hr9 2
                have a3 := Lib.cell_of_heap hr9 3
                have HkS : Hid (∀ W, Below W9.heap.size W9 W → W.cell? ⟨wr.heap.size, 0, none⟩ = some (.int .i64 u.kind) ∧ W.cell? ⟨wr.heap.size, 1, none⟩ = some (.string u.tag) ∧ W.cell? ⟨wr.heap.size, 2, none⟩ = some (.string u.text) ∧ W.cell? ⟨wr.heap.size, 3, none⟩ = some (.slice A1 u.kids.length c1) ∧ W.cell? ⟨w5.heap.size, 3, none⟩ = some (.slice (some ⟨b, o, none⟩) kl.length c') ∧ W.cell? ⟨b, o + q * 4, none⟩ = some (.int .i64 u.kind) ∧ W.cell? ⟨b, o + q * 4 + 1, none⟩ = some (.string u.tag) ∧ W.cell? ⟨b, o + q * 4 + 2, none⟩ = some (.string u.text) ∧ W.cell? ⟨b, o + q * 4 + 3, none⟩ = some (.slice A9 u.kids.length c9)) := fun W hW => by
                  have key : ∀ (p : Addr) x, W9.cell? p = some x → W.cell? p = some x := fun p x hx => (hW.cell (p := p) (World.block_lt_of_cell? W9 p hx)).trans hx
                  exact ⟨key _ _ a0, key _ _ a1, key _ _ a2, key _ _ a3, key _ _ d3, key _ _ k0, key _ _ k1, key _ _ k2, key _ _ k3⟩
                have HCl := Lib.hid (SameTree_any _ u (.agg #[.int .i64 u.kind, .string u.tag, .string u.text, .slice A1 u.kids.length c1]) (.agg #[.int .i64 u.kind, .string u.tag, .string u.text, .slice A9 u.kids.length c9]) W9.drew (Nat.le_refl _) (by have := Hun.out; omega) (HFa.out.2.keep (fun _ _ => rfl) fun _ h => h) ⟨A9, c9, rfl, k4, k5.keep (fun _ _ => rfl) fun _ h => h⟩)
                have HCn : Hid (∀ W, Below W9.heap.size W9 W → Calls Tryd.prog 42 #[.agg #[.int .i64 u.kind, .string u.tag, .string u.text, .slice A1 u.kids.length c1]] W fun e w' => e = .returned (.int .i64 (u.count : Nat)) ∧ Below W9.heap.size W9 w') := fun W hW => (Count_any _ u _ W (Nat.le_refl _) (by have := Hun.out; omega) (HFa.out.2.below hW hW.size)).mono fun e w' h => ⟨h.1, below_then hW h.2⟩
                clear hqk hkz hbl hkd k4 k5 hr9 hW9
                go_wp2_with fail
                go_region_held3 (fun W => W.cell? ⟨wr.heap.size, 0, none⟩ = some (.int .i64 u.kind) ∧ W.cell? ⟨wr.heap.size, 1, none⟩ = some (.string u.tag) ∧ W.cell? ⟨wr.heap.size, 2, none⟩ = some (.string u.text) ∧ W.cell? ⟨wr.heap.size, 3, none⟩ = some (.slice A1 u.kids.length c1) ∧ W.cell? ⟨w5.heap.size, 3, none⟩ = some (.slice (some ⟨b, o, none⟩) kl.length c') ∧ W.cell? ⟨b, o + q * 4, none⟩ = some (.int .i64 u.kind) ∧ W.cell? ⟨b, o + q * 4 + 1, none⟩ = some (.string u.tag) ∧ W.cell? ⟨b, o + q * 4 + 2, none⟩ = some (.string u.text) ∧ W.cell? ⟨b, o + q * 4 + 3, none⟩ = some (.slice A9 u.kids.length c9)) (first | exact HkS.out _ (Below.refl _ W9).drew | exact HkS.out _ HZ1.out) (first
                    | (go_at_call 38; refine (num23_any _ _).mono ?_; rintro e w' ⟨rfl, hw'⟩; have hw' := hw'.symm; subst hw')
                    | (go_at_call 41; refine HCl.out.mono ?_; rintro e wZ ⟨rfl, hbZ⟩; have HZ1 : Hid (Below W9.heap.size W9 wZ) := Below.trans (Below.refl _ W9).drew hbZ; clear hbZ))
                clear a0 a1 a2 a3 d3 k0 k1 k2 k3
                obtain ⟨y0, y1, y2, y3, _, _, _, _, _⟩ := HkS.out wZ HZ1.out
                go_wp2_with (go_at_call 42; refine (HCn.out _ HZ1.out).mono ?_; rintro e wY ⟨rfl, hbY⟩; have HY : Hid (Below X.heap.size X wY) := below_then HBf.out hbY; clear hbY)
                first
                  | exact ⟨⟨q + 1, Hlt.out, (by rw [HN.out]; exact congrArg (Value.int .i64) hadd.out), by simp, HY⟩, hmz _ rfl⟩
                  | exact ⟨⟨q + 1, Hlt.out, (by rw [HN.out]; exact congrArg (Value.int .i64) hadd.out), congrArg (Value.int .i64) (HW.out.trans (by simp)), HY⟩, hmz _ HW.out⟩
                  | exact ⟨⟨q + 1, Hlt.out, (by rw [HN.out]; simp), by simp, HY⟩, hmz _ rfl⟩
            · obtain rfl : q = kl.length := by omega
              have hd : ¬ (kl.length : Int) < (kl.length : Int) := by omega
              have hse : 1 + Tr.counts (ks.take kl.length) = S := by rw [HKk.out, List.take_length]; exact HSm.out.1
              have HE := Lib.hid (HC.out wr hb.out).2.2.2.2.2.2
              rw [hse]
              clear hlt hq hse hb
              go_wp2_with fail
              go_ret
              exact ⟨by first | rfl | simp, HE.out⟩
      · have q0 : (errB G root != 0) = true := by simpa using h0
        obtain ⟨E, hE⟩ : ∃ x, errB G root = x := ⟨_, rfl⟩
        obtain ⟨S, hSe⟩ : ∃ x, sizeB G root = x := ⟨_, rfl⟩
        rw [hE] at q0
        rw [hE, hSe] at HS
        clear hbg hG hT hok hokB hN hRr hbV hrV hsV hoR his h0 hE hSe
        go_enter Tryd.func14, Tryd.ntmps14
        go_wp2_with (first
          | (go_at_call 35; refine HA.out.mono ?_; rintro e w1 ⟨rfl, hb1⟩; obtain ⟨g0, g1, hw1⟩ := HG0.out w1 hb1; have Hb1 := Lib.hid hb1; have Hw1 := Lib.hid hw1; clear hb1 hw1)
          | (go_at_call 17; refine (HB.out w1 Hw1.out).mono ?_; rintro e w2 ⟨rfl, hb2⟩; have hb2' := below_then Hb1.out hb2; obtain ⟨g2, g3, hw2⟩ := HG0.out w2 hb2'; have Hb2 := Lib.hid hb2'; have Hw2 := Lib.hid hw2; clear hb2 hb2' hw2 g0 g1)
          | (go_at_call 27; refine (HM.out w2 Hw2.out).mono ?_; rintro e w3 ⟨rfl, hb3⟩; have hb3' := below_then Hb2.out hb3; obtain ⟨g4, g5, hw3⟩ := HG0.out w3 hb3'; have Hb3 := Lib.hid hb3'; have Hw3 := Lib.hid hw3; clear hb3 hb3' hw3 g2 g3)
          | (go_at_call 37; refine (HS.out w3 Hw3.out).mono ?_; rintro e w4 ⟨rfl, hb4⟩; have hb4' := below_then Hb3.out hb4; obtain ⟨g6, g7, hw4⟩ := HG0.out w4 hb4'; have Hb4 := Lib.hid hb4'; have Hw4 := Lib.hid hw4; clear hb4 hb4' hw4 g4 g5))
        go_ret
        exact ⟨rfl, Hw4.out⟩
end Go.Proofs.YtdcbngimgpdjoaaDoor
