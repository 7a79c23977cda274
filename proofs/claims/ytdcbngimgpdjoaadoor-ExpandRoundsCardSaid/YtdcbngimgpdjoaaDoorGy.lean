/- The reference's Right and May (marginaliaref17). Conditions: texts are no longer than a million bytes. -/
import Derived.Test.YtdcbngimgpdjoaaDoorGq
namespace Go.Proofs.YtdcbngimgpdjoaaDoor
open Go.RowKit
/-- A graph's texts and rows are short enough for the reference's walks. -/
structure Gr.okR (G : Gr) : Prop where
  nodes : G.nodes.length ≤ maxLen
  roots : G.roots.length ≤ maxLen
  tag : ∀ e ∈ G.nodes, e.tag.size ≤ 1000000
  text : ∀ e ∈ G.nodes, e.text.size ≤ 1000000
  small : ∀ e ∈ G.nodes, e.kids.length ≤ 1000000000000
set_option maxRecDepth 100000 in
set_option maxHeartbeats 4000000 in
theorem RRight_any (G : Gr) (v : Value) (w : World) (hG : GrAt w w.heap.size G v) (hok : G.okR) :
    Calls Tryd.prog 19 #[v] w fun r w' => r = .returned (.bool (rightB G)) ∧ Below w.heap.size w w' := by
  have h1 := hok.nodes
  have h2 := hok.roots
  unfold maxLen at h1 h2
  obtain ⟨NA, nc, RA, rc, rfl, hN, hR⟩ := hG.ex
  obtain ⟨r, hr⟩ : ∃ r, rightB G = r := ⟨_, rfl⟩
  have HN : Hid (r = (decide (G.nodes.length ≤ 20000) && decide (G.roots.length ≤ 20000) && areB G.nodes.length G.roots && decide (sumK G.nodes ≤ 20000) && G.nodes.all fun e => nodeB e && areB G.nodes.length e.kids)) := by show _ = _; rw [← hr]; rfl
  rw [hr]
  clear hr
  by_cases g1 : G.nodes.length ≤ 20000
  · by_cases g2 : G.roots.length ≤ 20000
    · have g1' : ¬ (20000 : Int) < (G.nodes.length : Int) := by omega
      have g2' : ¬ (20000 : Int) < (G.roots.length : Int) := by omega
      have g1d := decide_eq_false g1'
      have g2d := decide_eq_false g2'
      have HN2 : Hid (r = (areB G.nodes.length G.roots && decide (sumK G.nodes ≤ 20000) && G.nodes.all fun e => nodeB e && areB G.nodes.length e.kids)) := HN.out.trans (by simp [g1, g2])
      clear HN
      obtain ⟨V, hV, hbV, hrow, hsz⟩ := box2 w (.slice NA G.nodes.length nc) (.slice RA G.roots.length rc) 25
      have HC : Hid (∀ W, Below V.heap.size V W → W.cell? ⟨w.heap.size, 0, none⟩ = some (.slice NA G.nodes.length nc) ∧ W.cell? ⟨w.heap.size, 1, none⟩ = some (.slice RA G.roots.length rc)) := fun W h => by
        have hr := (h.block w.heap.size (by omega)).trans hrow
        exact ⟨Lib.cell_of_heap hr 0, Lib.cell_of_heap hr 1⟩
      obtain ⟨v0, v1⟩ := HC.out V (Below.refl _ V)
      have HbV := Lib.hid hbV
      have HNd : Hid (∀ W k, Below w.heap.size w W → k < G.nodes.length → ∃ b off K c, NA = some ⟨b, off, none⟩ ∧ NdAt W W.heap.size b (off + k * 5) (nd G.nodes k) K c) := fun W k hW hk => by
        obtain ⟨b, off, hA, hlt, hc⟩ := hN (by omega)
        obtain ⟨K, c, hn⟩ := hc k hk
        exact ⟨b, off, K, c, hA, (hn.below hW (Nat.le_refl _) hlt).more hW.size⟩
      have HRt : Hid (∀ W, Below w.heap.size w W → IntsAt W W.heap.size RA G.roots) := fun W hW => (hR.below hW (Nat.le_refl _)).more hW.size
      have HOk : Hid (∀ k, k < G.nodes.length → (nd G.nodes k).tag.size ≤ 1000000 ∧ (nd G.nodes k).text.size ≤ 1000000 ∧ (nd G.nodes k).kids.length ≤ 1000000000000) := fun k hk => ⟨hok.tag _ (nd_mem hk), hok.text _ (nd_mem hk), hok.small _ (nd_mem hk)⟩
      have Hg1 := Lib.hid g1
      have Hg2 := Lib.hid g2
      clear hbV hrow hsz hN hR hok hG g1 g2 h1 h2
      go_enter Tryd.func19, Tryd.ntmps19
      go_wp2_with fail
      have HF1 : Hid (∀ k, k < G.nodes.length → 20000 < sumK (G.nodes.take k) + (nd G.nodes k).kids.length → r = false) := fun k hk h => by
        rw [HN2.out, decide_eq_false (p := sumK G.nodes ≤ 20000) (by have := sumK_le G.nodes (k + 1); rw [sumK_take hk] at this; omega), Bool.and_false, Bool.false_and]
      have HF2 : Hid (∀ k, k < G.nodes.length → (nodeB (nd G.nodes k) && areB G.nodes.length (nd G.nodes k).kids) = false → r = false) := fun k hk h => by
        rw [HN2.out]
        have : (G.nodes.all fun e => nodeB e && areB G.nodes.length e.kids) = false := by
          rw [List.all_eq_false]; exact ⟨_, nd_mem hk, by rw [h]; simp⟩
        rw [this, Bool.and_false]
      have HS : Hid (∀ k, k < G.nodes.length → sumK (G.nodes.take (k + 1)) = sumK (G.nodes.take k) + (nd G.nodes k).kids.length) := fun k hk => sumK_take hk
      have HAll : Hid (∀ k, k < G.nodes.length → (G.nodes.take k).all (fun e => nodeB e && areB G.nodes.length e.kids) = true → (nodeB (nd G.nodes k) && areB G.nodes.length (nd G.nodes k).kids) = true → (G.nodes.take (k + 1)).all (fun e => nodeB e && areB G.nodes.length e.kids) = true) := fun k hk h1 h2 => by
        rw [take_nd hk, List.all_append, h1]; simpa using h2
      have HEnd : Hid ((G.nodes.take G.nodes.length).all (fun e => nodeB e && areB G.nodes.length e.kids) = true → sumK (G.nodes.take G.nodes.length) ≤ 20000 → r = areB G.nodes.length G.roots) := fun h1 h2 => by
        rw [List.take_of_length_le (Nat.le_refl _)] at h1 h2
        rw [HN2.out, h1, decide_eq_true h2, Bool.and_true, Bool.and_true]
      go_loopw [4, 5] (fun s i wr => ∃ k : Nat, k ≤ G.nodes.length ∧ i = .int .i64 k ∧ (∃ t : Nat, s = .int .i64 t ∧ t = sumK (G.nodes.take k) ∧ t ≤ 20000) ∧ Hid ((G.nodes.take k).all (fun e => nodeB e && areB G.nodes.length e.kids) = true) ∧ Below V.heap.size V wr) (fun _ i _ => G.nodes.length - (intOf i).toNat)
      case atStart => exact ⟨0, Nat.zero_le _, rfl, ⟨0, rfl, rfl, by omega⟩, rfl, Below.refl _ _⟩
      case round =>
        obtain ⟨k, hk, rfl, ⟨t, rfl, ht, htl⟩, hal, hbl⟩ := hrel
        obtain ⟨q0, q1⟩ := HC.out _ hbl
        by_cases hlt : k < G.nodes.length
        · have hbw : Below w.heap.size w wr := below_then HbV.out hbl
          obtain ⟨b, off, K, c, rfl, hnd⟩ := HNd.out wr k hbw hlt
          obtain ⟨hk1, hk2, hk3⟩ := HOk.out k hlt
          have HF1k := Lib.hid (HF1.out k hlt)
          have HF2k := Lib.hid (HF2.out k hlt)
          have HSk := Lib.hid (HS.out k hlt)
          have HAk := Lib.hid (HAll.out k hlt)
          rw [← ht] at HF1k HSk
          have hlt' : (k : Int) < (G.nodes.length : Int) := by omega
          obtain ⟨e, he⟩ : ∃ e, nd G.nodes k = e := ⟨_, rfl⟩
          rw [he] at hnd hk1 hk2 hk3 HF1k HF2k HSk HAk
          have HNo : Hid (Calls Tryd.prog 47 #[.agg (e.row K c), .int .i64 (G.nodes.length : Int)] wr fun r w' => r = .returned (.bool (nodeB e && areB G.nodes.length e.kids)) ∧ Below wr.heap.size wr w') := Rnode_any e K c G.nodes.length wr hk1 hk2 hk3 hnd.kids
          obtain ⟨c0, c1, c2, c3, c4, _, _, _⟩ := hnd
          obtain ⟨bN, hbN⟩ : ∃ b, (nodeB e && areB G.nodes.length e.kids) = b := ⟨_, rfl⟩
          rw [hbN] at HNo HF2k HAk
          obtain ⟨kd, tg, tx, ks, pl⟩ := e
          simp only [Nd.row] at *
          have hadd : IntKind.i64.wrap ((t : Int) + (ks.length : Int)) = (t : Int) + (ks.length : Int) := IntWalk.i64_in _ (by omega)
          have Hbl := Lib.hid hbl
          have Hlt := Lib.hid hlt
          clear hbN he hk1 hk2 hk3 hbl hbw
          by_cases hov : 20000 < t + ks.length
          · have hov' : (20000 : Int) < (t : Int) + (ks.length : Int) := by omega
            have HR : Hid (r = false) := HF1k.out hov
            clear hov ht hlt hk
            go_wp2_with fail
            go_ret
            exact ⟨ret_bool HR.out.symm, below_then HbV.out Hbl.out⟩
          · have hov' : ¬ (20000 : Int) < (t : Int) + (ks.length : Int) := by omega
            have hovd := decide_eq_false hov'
            have HT2 : Hid (t + ks.length ≤ 20000) := by show _ ≤ _; omega
            clear hov ht hlt hk
            cases bN with
            | false =>
              have HR : Hid (r = false) := HF2k.out rfl
              go_wp2_with (go_at_call 47; refine HNo.out.mono ?_; rintro e w3 ⟨rfl, hb3⟩)
              go_ret
              exact ⟨ret_bool HR.out.symm, below_then HbV.out (below_then Hbl.out hb3)⟩
            | true =>
              have hmz : ∀ z : Int, z = k + 1 → G.nodes.length - (intOf (.int .i64 z)).toNat < G.nodes.length - (intOf (.int .i64 (k : Int))).toNat := by intro z hz; subst hz; have := Hlt.out; simp only [intOf]; omega
              go_wp2_with (go_at_call 47; refine HNo.out.mono ?_; rintro e w3 ⟨rfl, hb3⟩)
              exact ⟨⟨k + 1, Hlt.out, by simp, ⟨t + ks.length, by simp, HSk.out.symm, HT2.out⟩, Lib.hid (HAk.out hal.out (by first | rfl | trivial)), below_then Hbl.out hb3⟩, hmz _ rfl⟩
        · have hkn : k = G.nodes.length := by omega
          rw [hkn] at ht hal
          have HR : Hid (r = areB G.nodes.length G.roots) := HEnd.out hal.out (by omega)
          have HI : Hid (IntsAt wr wr.heap.size RA G.roots) := HRt.out wr (below_then HbV.out hbl)
          have Hbl := Lib.hid hbl
          clear ht hal HF1 HF2 HS HAll HEnd hbl htl
          subst hkn
          have hlt' : ¬ (G.nodes.length : Int) < (G.nodes.length : Int) := by omega
          go_wp2_with fail
          go_loop [6] (fun i => ∃ k : Nat, k ≤ G.roots.length ∧ i = .int .i64 (k : Int) ∧ Hid (areB G.nodes.length (G.roots.take k) = true)) (fun i => G.roots.length - (intOf i).toNat)
          case atStart => exact ⟨0, Nat.zero_le _, rfl, rfl⟩
          case round =>
            obtain ⟨k, hk, rfl, hm⟩ := hrel
            by_cases hlt : k < G.roots.length
            · obtain ⟨b, off, rfl, _, hc⟩ := HI.out (by omega)
              have hck := hc k hlt
              have hltr : (k : Int) < (G.roots.length : Int) := by omega
              have HT := Lib.hid (areB_take G.nodes.length G.roots hlt)
              have HF : Hid (nth G.roots k < 0 ∨ (G.nodes.length : Int) ≤ nth G.roots k → r = false) := fun h => HR.out.trans (areB_miss hlt h)
              obtain ⟨x, hx⟩ : ∃ x, nth G.roots k = x := ⟨_, rfl⟩
              rw [hx] at hck HT HF
              have Hlt := Lib.hid hlt
              clear hc hx hlt hk
              have hcs : x < 0 ∨ (¬ x < 0 ∧ (G.nodes.length : Int) ≤ x) ∨ (¬ x < 0 ∧ ¬ (G.nodes.length : Int) ≤ x) := by omega
              rcases hcs with h1 | ⟨h1, h2⟩ | ⟨h1, h2⟩
              · go_wp2_with fail
                go_ret
                exact ⟨ret_bool (HF.out (.inl h1)).symm, below_then HbV.out Hbl.out⟩
              · have h1' : decide (x < 0) = false := decide_eq_false h1
                go_wp2_with fail
                go_ret
                exact ⟨ret_bool (HF.out (.inr h2)).symm, below_then HbV.out Hbl.out⟩
              · have h1' : decide (x < 0) = false := decide_eq_false h1
                have h2' : decide ((G.nodes.length : Int) ≤ x) = false := decide_eq_false h2
                have HNx : Hid (areB G.nodes.length (G.roots.take (k + 1)) = true) := by show _ = _; rw [HT.out, hm.out]; simp; omega
                have hmz : ∀ z : Int, z = k + 1 → G.roots.length - (intOf (.int .i64 z)).toNat < G.roots.length - (intOf (.int .i64 (k : Int))).toNat := by intro z hz; subst hz; have := Hlt.out; simp only [intOf]; omega
                have HW : Hid (wrap64 ((k : Int) + 1) = k + 1) := IntWalk.wrap64_in _ (by have := Hlt.out; have := Hg2.out; omega)
                go_wp2_with fail
                first
                  | exact ⟨⟨k + 1, Hlt.out, by simp, HNx⟩, hmz _ rfl⟩
                  | exact ⟨⟨k + 1, Hlt.out, congrArg (Value.int .i64) (HW.out.trans (by simp)), HNx⟩, hmz _ HW.out⟩
            · obtain rfl : k = G.roots.length := by omega
              have hltr : ¬ (G.roots.length : Int) < (G.roots.length : Int) := by omega
              have HRr : Hid (r = true) := by
                have := hm.out
                rw [List.take_of_length_le (Nat.le_refl _)] at this
                exact HR.out.trans this
              go_wp2_with fail
              go_ret
              exact ⟨ret_bool HRr.out.symm, below_then HbV.out Hbl.out⟩
    · have g1' : ¬ (20000 : Int) < (G.nodes.length : Int) := by omega
      have g1d := decide_eq_false g1'
      have g2' : (20000 : Int) < (G.roots.length : Int) := by omega
      have HN2 : Hid (r = false) := HN.out.trans (by simp [g2])
      clear HN g1 g2
      go_enter Tryd.func19, Tryd.ntmps19
      go_wp2_with fail
      go_ret
      exact ⟨ret_bool HN2.out.symm, (Below.refl _ w).alloc (Nat.le_refl _) _⟩
  · have g1' : (20000 : Int) < (G.nodes.length : Int) := by omega
    have HN2 : Hid (r = false) := HN.out.trans (by simp [g1])
    clear HN g1
    go_enter Tryd.func19, Tryd.ntmps19
    go_wp2_with fail
    go_ret
    exact ⟨ret_bool HN2.out.symm, (Below.refl _ w).alloc (Nat.le_refl _) _⟩
set_option maxRecDepth 100000 in
theorem RMay_any (G : Gr) (v : Value) (root : Int) (w : World) (hG : GrAt w w.heap.size G v) (hok : G.okR) :
    Calls Tryd.prog 27 #[v, .int .i64 root] w fun r w' => r = .returned (.bool (decide (0 ≤ root) && decide (root < G.nodes.length) && rightB G)) ∧ Below w.heap.size w w' := by
  have hl := hok.nodes
  unfold maxLen at hl
  obtain ⟨b, hb⟩ : ∃ b, rightB G = b := ⟨_, rfl⟩
  have hR : Hid (∀ W, Below w.heap.size w W → Calls Tryd.prog 19 #[v] W fun r w' => r = .returned (.bool (rightB G)) ∧ Below W.heap.size W w') := fun W hW => RRight_any G v W ((hG.below hW (Nat.le_refl _)).more hW.size) hok
  rw [hb] at hR ⊢
  obtain ⟨NA, nc, RA, rc, rfl, _, _⟩ := hG.ex
  obtain ⟨V, hV, hbV, hrow, hsz⟩ := box2 w (.slice NA G.nodes.length nc) (.slice RA G.roots.length rc) 25
  have v0 : V.cell? ⟨w.heap.size, 0, none⟩ = some (.slice NA G.nodes.length nc) := Lib.cell_of_heap hrow 0
  have v1 : V.cell? ⟨w.heap.size, 1, none⟩ = some (.slice RA G.roots.length rc) := Lib.cell_of_heap hrow 1
  have HR0 := Lib.hid (hR.out V hbV)
  have HC : Hid (∀ W, Below V.heap.size V W → W.cell? ⟨w.heap.size, 0, none⟩ = some (.slice NA G.nodes.length nc)) := fun W h => Lib.cell_of_heap ((h.block w.heap.size (by omega)).trans hrow) 0
  have HbV := Lib.hid hbV
  clear hG hrow hsz hb hR hbV
  cases b with
  | false =>
    go_enter Tryd.func27, Tryd.ntmps27
    go_wp2_with (go_at_call 19; refine HR0.out.mono ?_; rintro e w3 ⟨rfl, hb3⟩; have q0 := HC.out w3 hb3)
    go_ret
    exact ⟨ret_bool (by simp), below_then HbV.out hb3⟩
  | true =>
    have hcs : root < 0 ∨ (0 ≤ root ∧ (G.nodes.length : Int) ≤ root) ∨ (0 ≤ root ∧ root < (G.nodes.length : Int)) := by omega
    rcases hcs with h1 | ⟨h1, h2⟩ | ⟨h1, h2⟩
    · have h1' : ¬ 0 ≤ root := by omega
      have h1d := decide_eq_false h1'
      go_enter Tryd.func27, Tryd.ntmps27
      go_wp2_with (go_at_call 19; refine HR0.out.mono ?_; rintro e w3 ⟨rfl, hb3⟩; have q0 := HC.out w3 hb3)
      go_ret
      exact ⟨ret_bool (by rw [h1d]; simp), below_then HbV.out hb3⟩
    · have h2' : ¬ root < (G.nodes.length : Int) := by omega
      have h2d := decide_eq_false h2'
      go_enter Tryd.func27, Tryd.ntmps27
      go_wp2_with (go_at_call 19; refine HR0.out.mono ?_; rintro e w3 ⟨rfl, hb3⟩; have q0 := HC.out w3 hb3)
      go_ret
      exact ⟨ret_bool (by rw [h2d]; simp), below_then HbV.out hb3⟩
    · go_enter Tryd.func27, Tryd.ntmps27
      go_wp2_with (go_at_call 19; refine HR0.out.mono ?_; rintro e w3 ⟨rfl, hb3⟩; have q0 := HC.out w3 hb3)
      go_ret
      exact ⟨ret_bool (by rw [decide_eq_true h1, decide_eq_true h2]; rfl), below_then HbV.out hb3⟩
end Go.Proofs.YtdcbngimgpdjoaaDoor
