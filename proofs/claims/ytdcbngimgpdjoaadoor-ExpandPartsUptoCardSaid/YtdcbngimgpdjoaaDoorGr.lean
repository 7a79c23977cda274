/- graph.Right and graph.is: may a graph be? Condition: utf8's tables lie in the world; its texts and rows are no longer than an int. -/
import Derived.Test.YtdcbngimgpdjoaaDoorGo
namespace Go.Proofs.YtdcbngimgpdjoaaDoor
open Go.RowKit
def sumK (L : List Nd) : Nat := (L.map fun e => e.kids.length).sum
def rightB (G : Gr) : Bool := decide (G.nodes.length ≤ 20000) && decide (G.roots.length ≤ 20000) && areB G.nodes.length G.roots && decide (sumK G.nodes ≤ 20000) && G.nodes.all fun e => nodeB e && areB G.nodes.length e.kids
theorem take_nd {l : List Nd} {k : Nat} (h : k < l.length) : l.take (k + 1) = l.take k ++ [nd l k] := by
  rw [List.take_succ_eq_append_getElem h, nd_eq h]
theorem sumK_take {l : List Nd} {k : Nat} (h : k < l.length) : sumK (l.take (k + 1)) = sumK (l.take k) + (nd l k).kids.length := by
  rw [take_nd h]; simp [sumK]
theorem sumK_le (l : List Nd) (k : Nat) : sumK (l.take k) ≤ sumK l := by
  have : sumK l = sumK (l.take k) + sumK (l.drop k) := by
    unfold sumK
    rw [← List.sum_append, ← List.map_append, List.take_append_drop]
  omega
/-- A graph's numbers and texts are as the language lets them be. -/
structure Gr.ok (G : Gr) : Prop where
  nodes : G.nodes.length ≤ maxLen
  roots : G.roots.length ≤ maxLen
  each : ∀ e ∈ G.nodes, e.ok
  small : ∀ e ∈ G.nodes, e.kids.length ≤ 1000000000000
/-- A box of a node, new. -/
theorem box5 (w : World) (v0 v1 v2 v3 v4 : Value) (t : TypeId) : ∃ V, w.alloc (.cells #[v0, v1, v2, v3, v4] t) = V ∧ Below w.heap.size w V ∧ V.heap.size = w.heap.size + 1 ∧ ∀ W, Below V.heap.size V W →
    W.cell? ⟨w.heap.size, 0, none⟩ = some v0 ∧ W.cell? ⟨w.heap.size, 1, none⟩ = some v1 ∧ W.cell? ⟨w.heap.size, 2, none⟩ = some v2 ∧ W.cell? ⟨w.heap.size, 3, none⟩ = some v3 ∧ W.cell? ⟨w.heap.size, 4, none⟩ = some v4 :=
  ⟨_, rfl, (Below.refl _ w).alloc (Nat.le_refl _) _, by simp, fun W h => by
    have hr := (h.block w.heap.size (by simp)).trans (World.alloc_heap_new w (.cells #[v0, v1, v2, v3, v4] t))
    exact ⟨Lib.cell_of_heap hr 0, Lib.cell_of_heap hr 1, Lib.cell_of_heap hr 2, Lib.cell_of_heap hr 3, Lib.cell_of_heap hr 4⟩⟩
set_option maxRecDepth 100000 in
set_option maxHeartbeats 1000000 in
theorem Right_any (G : Gr) (v : Value) (w : World) (hG : GrAt w w.heap.size G v) (hok : G.ok) (hT : Tabs w) :
    Calls Tryd.prog 18 #[v] w fun r w' => r = .returned (.bool (rightB G)) ∧ Below w.heap.size w w' := by
  have h1 := hok.nodes
  have h2 := hok.roots
  unfold maxLen at h1 h2
  have hAre := fun A c l w hw hl => are_any v G A c l w w.heap.size hw hl
  obtain ⟨NA, nc, RA, rc, rfl, hN, hR⟩ := hG.ex
  obtain ⟨r, hr⟩ : ∃ r, rightB G = r := ⟨_, rfl⟩
  have HN : Hid (r = (decide (G.nodes.length ≤ 20000) && decide (G.roots.length ≤ 20000) && areB G.nodes.length G.roots && decide (sumK G.nodes ≤ 20000) && G.nodes.all fun e => nodeB e && areB G.nodes.length e.kids)) := by show _ = _; rw [← hr]; rfl
  rw [hr]
  clear hr
  by_cases g1 : G.nodes.length ≤ 20000
  · by_cases g2 : G.roots.length ≤ 20000
    · have g1' : ¬ (20000 : Int) < (G.nodes.length : Int) := by omega
      have g2' : ¬ (20000 : Int) < (G.roots.length : Int) := by omega
      have g1d := decide_eq_false g1'
      have g2d := decide_eq_false g2'
      have HN2 : Hid (r = (areB G.nodes.length G.roots && decide (sumK G.nodes ≤ 20000) && G.nodes.all fun e => nodeB e && areB G.nodes.length e.kids)) := HN.out.trans (by simp [g1, g2])
      clear HN g1 g2
      have HAr : Hid (∀ A c l W, Below w.heap.size w W → IntsAt W W.heap.size A l → l.length ≤ 9223372036854775807 → Calls Tryd.prog 45 #[.agg #[.slice NA G.nodes.length nc, .slice RA G.roots.length rc], .slice A l.length c] W fun e w' => e = .returned (.bool (areB G.nodes.length l)) ∧ Below W.heap.size W w') :=
        fun A c l W hb hI hl => are_any _ G A c l W w.heap.size (hG.below hb (Nat.le_refl _)) hI hl
      obtain ⟨V, hV, hbV, hrow, hsz⟩ := box2 w (.slice NA G.nodes.length nc) (.slice RA G.roots.length rc) 25
      have HR0 : Hid (Calls Tryd.prog 45 #[.agg #[.slice NA G.nodes.length nc, .slice RA G.roots.length rc], .slice RA G.roots.length rc] V fun e w' => e = .returned (.bool (areB G.nodes.length G.roots)) ∧ Below V.heap.size V w') :=
        HAr.out RA rc G.roots V hbV ((hR.below hbV (Nat.le_refl _)).more hbV.size) h2
      have HC : Hid (∀ W, Below V.heap.size V W → W.cell? ⟨w.heap.size, 0, none⟩ = some (.slice NA G.nodes.length nc) ∧ W.cell? ⟨w.heap.size, 1, none⟩ = some (.slice RA G.roots.length rc)) := fun W h => by
        have hr := (h.block w.heap.size (by omega)).trans hrow
        exact ⟨Lib.cell_of_heap hr 0, Lib.cell_of_heap hr 1⟩
      obtain ⟨bR, hbR⟩ : ∃ b, areB G.nodes.length G.roots = b := ⟨_, rfl⟩
      rw [hbR] at HN2 HR0
      obtain ⟨v0, v1⟩ := HC.out V (Below.refl _ V)
      clear hbR
      cases bR with
      | false =>
        have HN3 : Hid (r = false) := HN2.out.trans (by simp)
        go_enter Tryd.func18, Tryd.ntmps18
        go_wp2_with (go_at_call 45; refine HR0.out.mono ?_; rintro e w' ⟨rfl, hb⟩)
        go_ret
        exact ⟨ret_bool HN3.out.symm, below_then hbV hb⟩
      | true =>
        have HN3 : Hid (r = (decide (sumK G.nodes ≤ 20000) && G.nodes.all fun e => nodeB e && areB G.nodes.length e.kids)) := HN2.out.trans (by simp)
        clear HN2
        go_enter Tryd.func18, Tryd.ntmps18
        go_wp2_with (go_at_call 45; refine HR0.out.mono ?_; rintro e w' ⟨rfl, hb⟩; obtain ⟨k0, k1⟩ := HC.out _ hb)
        have hbw : Below w.heap.size w w' := below_then hbV hb
        have HB := Lib.hid hb
        have HbV := Lib.hid hbV
        clear hV HR0 hrow hsz hAre hR v0 v1 hb hbV
        have HNd : Hid (∀ W k, Below w.heap.size w W → k < G.nodes.length → ∃ b off K c, NA = some ⟨b, off, none⟩ ∧ NdAt W W.heap.size b (off + k * 5) (nd G.nodes k) K c) := fun W k hW hk => by
          obtain ⟨b, off, hA, hlt, hc⟩ := hN (by omega)
          obtain ⟨K, c, hn⟩ := hc k hk
          exact ⟨b, off, K, c, hA, (hn.below hW (Nat.le_refl _) hlt).more hW.size⟩
        have HOk : Hid (∀ k, k < G.nodes.length → (nd G.nodes k).ok ∧ (nd G.nodes k).kids.length ≤ 1000000000000) := fun k hk => ⟨hok.each _ (nd_mem hk), hok.small _ (nd_mem hk)⟩
        have HTb : Hid (∀ W, Below w.heap.size w W → Tabs W) := fun W h => hT.below h
        have HF1 : Hid (∀ k, k < G.nodes.length → 20000 < sumK (G.nodes.take k) + (nd G.nodes k).kids.length → r = false) := fun k hk h => by
          rw [HN3.out, decide_eq_false (by have := sumK_le G.nodes (k + 1); rw [sumK_take hk] at this; omega)]; rfl
        have HF2 : Hid (∀ k, k < G.nodes.length → (nodeB (nd G.nodes k) && areB G.nodes.length (nd G.nodes k).kids) = false → r = false) := fun k hk h => by
          rw [HN3.out]
          have : (G.nodes.all fun e => nodeB e && areB G.nodes.length e.kids) = false := by
            rw [List.all_eq_false]; exact ⟨_, nd_mem hk, by rw [h]; simp⟩
          rw [this, Bool.and_false]
        have HS : Hid (∀ k, k < G.nodes.length → sumK (G.nodes.take (k + 1)) = sumK (G.nodes.take k) + (nd G.nodes k).kids.length) := fun k hk => sumK_take hk
        have HAll : Hid (∀ k, k < G.nodes.length → (G.nodes.take k).all (fun e => nodeB e && areB G.nodes.length e.kids) = true → (nodeB (nd G.nodes k) && areB G.nodes.length (nd G.nodes k).kids) = true → (G.nodes.take (k + 1)).all (fun e => nodeB e && areB G.nodes.length e.kids) = true) := fun k hk h1 h2 => by
          rw [take_nd hk, List.all_append, h1]; simpa using h2
        have HEnd : Hid ((G.nodes.take G.nodes.length).all (fun e => nodeB e && areB G.nodes.length e.kids) = true → sumK (G.nodes.take G.nodes.length) ≤ 20000 → r = true) := fun h1 h2 => by
          rw [List.take_of_length_le (Nat.le_refl _)] at h1 h2
          rw [HN3.out, h1, decide_eq_true h2]; rfl
        clear hN hok hT HN3 hG
        go_loopw [3, 26] (fun s i wr => ∃ k : Nat, k ≤ G.nodes.length ∧ i = .int .i64 k ∧ (∃ t : Nat, s = .int .i64 t ∧ t = sumK (G.nodes.take k) ∧ t ≤ 20000) ∧ Hid ((G.nodes.take k).all (fun e => nodeB e && areB G.nodes.length e.kids) = true) ∧ Below V.heap.size V wr) (fun _ i _ => G.nodes.length - (intOf i).toNat)
        case atStart => exact ⟨0, Nat.zero_le _, rfl, ⟨0, rfl, rfl, by omega⟩, rfl, HB.out⟩
        case round =>
          obtain ⟨k, hk, rfl, ⟨t, rfl, ht, htl⟩, hal, hbl⟩ := hrel
          obtain ⟨q0, q1⟩ := HC.out _ hbl
          by_cases hlt : k < G.nodes.length
          · have hbw : Below w.heap.size w wr := below_then HbV.out hbl
            obtain ⟨b, off, K, c, rfl, hnd⟩ := HNd.out wr k hbw hlt
            obtain ⟨hkok, hks⟩ := HOk.out k hlt
            have HF1k := Lib.hid (HF1.out k hlt)
            have HF2k := Lib.hid (HF2.out k hlt)
            have HSk := Lib.hid (HS.out k hlt)
            have HAk := Lib.hid (HAll.out k hlt)
            rw [← ht] at HF1k HSk
            have hlt' : (k : Int) < (G.nodes.length : Int) := by omega
            obtain ⟨e, he⟩ : ∃ e, nd G.nodes k = e := ⟨_, rfl⟩
            rw [he] at hnd hkok hks HF1k HF2k HSk HAk
            have hNode := fun W hTW => node_any e K c W hTW hkok.tag hkok.text
            have hArek := fun W hW hI => HAr.out K c e.kids W hW hI (by omega)
            have hkids := hnd.kids
            obtain ⟨c0, c1, c2, c3, c4, _, _, _⟩ := hnd
            obtain ⟨kd, tg, tx, ks, pl⟩ := e
            simp only [Nd.row] at *
            have hadd : IntKind.i64.wrap ((t : Int) + (ks.length : Int)) = (t : Int) + (ks.length : Int) := IntWalk.i64_in _ (by omega)
            obtain ⟨X, hX, hbX, hszX, hXc⟩ := box5 wr (.int .i64 kd) (.string tg) (.string tx) (.slice K ks.length c) (.bool pl) 33
            obtain ⟨x0, x1, x2, x3, x4⟩ := hXc X (Below.refl _ X)
            have HXc := Lib.hid hXc
            have HbX := Lib.hid hbX
            have hbwX : Below w.heap.size w X := below_then hbw hbX
            have hN0 := hNode X (HTb.out X hbwX)
            have hAre0 : Hid (∀ W, Below X.heap.size X W → _) := fun W hW => hArek W (below_then hbwX hW) ((hkids.below (below_then hbX hW) (Nat.le_refl _)).more (below_then hbX hW).size)
            have HQ : Hid (∀ W, Below X.heap.size X W → _) := fun W hW => HC.out W (below_then hbl (below_then hbX hW))
            have HN0 := Lib.hid hN0
            have HBX : Hid (∀ W, Below X.heap.size X W → Below V.heap.size V W) := fun W hW => below_then hbl (below_then hbX hW)
            obtain ⟨y0, y1⟩ := HQ.out X (Below.refl _ X)
            clear hXc hbX hszX hN0 hArek hNode hkids hkok hks hbwX q0 q1 h1 h2
            by_cases hov : 20000 < t + ks.length
            · have hov' : (20000 : Int) < (t : Int) + (ks.length : Int) := by omega
              have HR : Hid (r = false) := HF1k.out hov
              clear hov ht
              go_wp2_with fail
              go_ret
              exact ⟨ret_bool HR.out.symm, below_then HbV.out (HBX.out X (Below.refl _ X))⟩
            · have hov' : ¬ (20000 : Int) < (t : Int) + (ks.length : Int) := by omega
              have hovd := decide_eq_false hov'
              have HT2 : Hid (t + ks.length ≤ 20000) := by show _ ≤ _; omega
              obtain ⟨bN, hbN⟩ : ∃ b, nodeB ⟨kd, tg, tx, ks, pl⟩ = b := ⟨_, rfl⟩
              obtain ⟨bA, hbA⟩ : ∃ b, areB G.nodes.length ks = b := ⟨_, rfl⟩
              rw [hbN] at HN0 HF2k HAk
              rw [hbA] at hAre0 HF2k HAk
              clear hbN hbA he ht hov
              cases bN with
              | false =>
                have HR : Hid (r = false) := HF2k.out rfl
                go_wp2_with (go_at_call 46; refine HN0.out.mono ?_; rintro e w3 ⟨rfl, hb3⟩; obtain ⟨z0, z1⟩ := HQ.out w3 hb3; obtain ⟨_, _, _, z5, _⟩ := HXc.out w3 hb3)
                go_ret
                exact ⟨ret_bool HR.out.symm, below_then HbV.out (HBX.out w3 hb3)⟩
              | true =>
                cases bA with
                | false =>
                  have HR : Hid (r = false) := HF2k.out rfl
                  go_wp2_with (first | (go_at_call 46; refine HN0.out.mono ?_; rintro e w3 ⟨rfl, hb3⟩; obtain ⟨z0, z1⟩ := HQ.out w3 hb3; obtain ⟨_, _, _, z5, _⟩ := HXc.out w3 hb3) | (go_at_call 45; refine (hAre0.out w3 hb3).mono ?_; rintro e w4 ⟨rfl, hb4⟩))
                  go_ret
                  exact ⟨ret_bool HR.out.symm, below_then HbV.out (HBX.out w4 (below_then hb3 hb4))⟩
                | true =>
                  have HN := HAk
                  go_wp2_with (first | (go_at_call 46; refine HN0.out.mono ?_; rintro e w3 ⟨rfl, hb3⟩; obtain ⟨z0, z1⟩ := HQ.out w3 hb3; obtain ⟨_, _, _, z5, _⟩ := HXc.out w3 hb3) | (go_at_call 45; refine (hAre0.out w3 hb3).mono ?_; rintro e w4 ⟨rfl, hb4⟩))
                  go_roundw
                  case rel => exact ⟨k + 1, by omega, by go_num, ⟨t + ks.length, by simp, HSk.out.symm, HT2.out⟩, Lib.hid (HN.out hal.out rfl), HBX.out w4 (below_then hb3 hb4)⟩
                  case measure => simp [intOf]; omega
          · have hkn : k = G.nodes.length := by omega
            rw [hkn] at ht hal
            have HR : Hid (r = true) := HEnd.out hal.out (by omega)
            clear ht hal
            subst hkn
            go_wp2_with fail
            go_ret
            exact ⟨ret_bool HR.out.symm, below_then HbV.out hbl⟩
    · have g1' : ¬ (20000 : Int) < (G.nodes.length : Int) := by omega
      have g1d := decide_eq_false g1'
      have g2' : (20000 : Int) < (G.roots.length : Int) := by omega
      have HN2 : Hid (r = false) := HN.out.trans (by simp [g2])
      clear HN g1 g2
      go_enter Tryd.func18, Tryd.ntmps18
      go_wp2_with fail
      go_ret
      exact ⟨ret_bool HN2.out.symm, (Below.refl _ w).alloc (Nat.le_refl _) _⟩
  · have g1' : (20000 : Int) < (G.nodes.length : Int) := by omega
    have HN2 : Hid (r = false) := HN.out.trans (by simp [g1])
    clear HN g1
    go_enter Tryd.func18, Tryd.ntmps18
    go_wp2_with fail
    go_ret
    exact ⟨ret_bool HN2.out.symm, (Below.refl _ w).alloc (Nat.le_refl _) _⟩
theorem is_any (G : Gr) (v : Value) (root : Int) (w : World) (hG : GrAt w w.heap.size G v) (hok : G.ok) (hT : Tabs w) :
    Calls Tryd.prog 48 #[v, .int .i64 root] w fun r w' => r = .returned (.bool (decide (0 ≤ root) && decide (root < G.nodes.length) && rightB G)) ∧ Below w.heap.size w w' := by
  have hl := hok.nodes
  unfold maxLen at hl
  obtain ⟨b, hb⟩ : ∃ b, rightB G = b := ⟨_, rfl⟩
  have hR : Hid (∀ W, Below w.heap.size w W → Calls Tryd.prog 18 #[v] W fun r w' => r = .returned (.bool (rightB G)) ∧ Below W.heap.size W w') := fun W hW => Right_any G v W ((hG.below hW (Nat.le_refl _)).more hW.size) hok (hT.below hW)
  rw [hb] at hR ⊢
  obtain ⟨NA, nc, RA, rc, rfl, _, _⟩ := hG.ex
  obtain ⟨V, hV, hbV, hrow, hsz⟩ := box2 w (.slice NA G.nodes.length nc) (.slice RA G.roots.length rc) 25
  have v0 : V.cell? ⟨w.heap.size, 0, none⟩ = some (.slice NA G.nodes.length nc) := Lib.cell_of_heap hrow 0
  have v1 : V.cell? ⟨w.heap.size, 1, none⟩ = some (.slice RA G.roots.length rc) := Lib.cell_of_heap hrow 1
  have HR0 := Lib.hid (hR.out V hbV)
  clear hG hT hrow hsz hb hR
  have hcs : root < 0 ∨ (0 ≤ root ∧ (G.nodes.length : Int) ≤ root) ∨ (0 ≤ root ∧ root < (G.nodes.length : Int)) := by omega
  rcases hcs with h1 | ⟨h1, h2⟩ | ⟨h1, h2⟩
  · have HF : Hid ((decide (0 ≤ root) && decide (root < G.nodes.length) && b) = false) := by show _ = _; rw [decide_eq_false (by omega)]; simp
    have h1' : ¬ 0 ≤ root := by omega
    have h1d := decide_eq_false h1'
    go_enter Tryd.func48, Tryd.ntmps48
    go_wp2_with fail
    go_ret
    exact ⟨by first | rfl | exact ret_bool HF.out.symm, hbV⟩
  · have HF : Hid ((decide (0 ≤ root) && decide (root < G.nodes.length) && b) = false) := by show _ = _; rw [decide_eq_false (p := root < G.nodes.length) (by omega)]; simp
    have h2' : ¬ root < (G.nodes.length : Int) := by omega
    have h2d := decide_eq_false h2'
    go_enter Tryd.func48, Tryd.ntmps48
    go_wp2_with fail
    go_ret
    exact ⟨by first | rfl | exact ret_bool HF.out.symm, hbV⟩
  · have HF : Hid ((decide (0 ≤ root) && decide (root < G.nodes.length) && b) = b) := by show _ = _; rw [decide_eq_true h1, decide_eq_true h2]; simp
    go_enter Tryd.func48, Tryd.ntmps48
    go_wp2_with (go_at_call 18; refine HR0.out.mono ?_; rintro e w3 ⟨rfl, hb3⟩)
    go_ret
    exact ⟨by first | rfl | exact ret_bool HF.out.symm, below_then hbV hb3⟩
end Go.Proofs.YtdcbngimgpdjoaaDoor
