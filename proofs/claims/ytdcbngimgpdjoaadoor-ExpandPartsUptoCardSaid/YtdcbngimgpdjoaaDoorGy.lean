/- The reference's text, node, Right and May (marginaliaref17). Conditions: texts are no longer than a million bytes. -/
import Derived.Test.YtdcbngimgpdjoaaDoorUtf4
import Derived.Test.YtdcbngimgpdjoaaDoorGr
namespace Go.Proofs.YtdcbngimgpdjoaaDoor
open Go.RowKit
set_option maxRecDepth 100000 in
theorem Rtext_any (s : ByteArray) (w : World) (hs : s.size ≤ 1000000) :
    Calls Tryd.prog 68 #[.string s] w fun e w' => e = .returned (.bool (textB s)) ∧ Below w.heap.size w w' := by
  have HT : Hid (Calls Tryd.prog 79 #[.string s] w fun e w' => ∃ u, e = .returned (.tuple #[u, .bool (Lib.validD s.data.toList)]) ∧ Below w.heap.size w w') := (Text_any s w hs).mono (by
    rintro e w' ⟨u, v, rfl, h1, _, h3⟩
    rw [h1]
    exact ⟨u, rfl, h3⟩)
  have hB : textB s = (Lib.validD s.data.toList && decide (s.size ≤ 262144)) := by rw [textB, Bool.and_comm]
  rw [hB]
  cases hv : Lib.validD s.data.toList with
  | false =>
    rw [hv] at HT
    clear hB hv
    go_enter Tryd.func68, Tryd.ntmps68
    go_wp2_with (go_at_call 79; refine HT.out.mono ?_; rintro e w1 ⟨u, rfl, hb⟩)
    go_ret
    exact ⟨by first | rfl | simp, hb⟩
  | true =>
    rw [hv] at HT
    clear hB hv
    go_enter Tryd.func68, Tryd.ntmps68
    go_wp2_with (go_at_call 79; refine HT.out.mono ?_; rintro e w1 ⟨u, rfl, hb⟩)
    go_ret
    exact ⟨ret_bool (by first | rfl | (simp; done) | (rw [Bool.eq_iff_iff]; simp; omega)), hb⟩
set_option maxRecDepth 100000 in
set_option maxHeartbeats 2000000 in
theorem Rnode_any (e : Nd) (K : Option Addr) (c n : Nat) (w : World) (h1 : e.tag.size ≤ 1000000) (h2 : e.text.size ≤ 1000000) (h3 : e.kids.length ≤ 1000000000000) (hI : IntsAt w w.heap.size K e.kids) :
    Calls Tryd.prog 47 #[.agg (e.row K c), .int .i64 (n : Int)] w fun r w' => r = .returned (.bool (nodeB e && areB n e.kids)) ∧ Below w.heap.size w w' := by
  obtain ⟨r, hr⟩ : ∃ r, (nodeB e && areB n e.kids) = r := ⟨_, rfl⟩
  have HN : Hid (r = ((decide (e.tag.size ≤ 1000) && !(e.tag.toList == [33]) && tagB e.tag && kindB e) && areB n e.kids)) := hr.symm
  unfold kindB at HN
  rw [hr]
  clear hr
  obtain ⟨kd, tg, tx, ks, pl⟩ := e
  simp only [Nd.row] at *
  obtain ⟨X, hX, hbX, hszX, hXc⟩ := box5 w (.int .i64 kd) (.string tg) (.string tx) (.slice K ks.length c) (.bool pl) 33
  have hIX : IntsAt X X.heap.size K ks := (hI.below hbX (Nat.le_refl _)).more hbX.size
  obtain ⟨v0, v1, v2, v3, v4⟩ := hXc X (Below.refl _ X)
  have HXc := Lib.hid hXc
  have HbX := Lib.hid hbX
  have HIX := Lib.hid hIX
  have hV := rValid_any tg X h1
  have HTx : Hid (∀ W, Calls Tryd.prog 68 #[.string tx] W fun r w' => r = .returned (.bool (textB tx)) ∧ Below W.heap.size W w') := fun W => Rtext_any tx W h2
  obtain ⟨b1, hb1⟩ : ∃ b, tagB tg = b := ⟨_, rfl⟩
  rw [hb1] at hV HN
  have HV := Lib.hid hV
  obtain ⟨b2, hb2⟩ : ∃ b, textB tx = b := ⟨_, rfl⟩
  rw [hb2] at HTx HN
  obtain ⟨q, hq⟩ : ∃ q, (tg.toList == [33]) = q := ⟨_, rfl⟩
  rw [hq] at HN
  have H3 := Lib.hid h3
  clear hV hb1 hb2 hXc hbX hIX hI hszX h2 h3
  cases b1 with
  | false =>
    have HN2 : Hid (r = false) := HN.out.trans (by simp)
    clear HN
    go_enter Tryd.func47, Tryd.ntmps47
    go_wp2_with (go_at_call 67; refine HV.out.mono ?_; rintro e w1 ⟨rfl, hb⟩; obtain ⟨x0, x1, x2, x3, x4⟩ := HXc.out w1 hb; have Hb := Lib.hid hb; clear hb)
    go_ret
    exact ⟨ret_bool HN2.out.symm, below_then HbX.out Hb.out⟩
  | true =>
    cases q with
    | true =>
      have HN2 : Hid (r = false) := HN.out.trans (by simp)
      clear HN
      go_enter Tryd.func47, Tryd.ntmps47
      go_wp2_with (go_at_call 67; refine HV.out.mono ?_; rintro e w1 ⟨rfl, hb⟩; obtain ⟨x0, x1, x2, x3, x4⟩ := HXc.out w1 hb; have Hb := Lib.hid hb; clear hb)
      go_ret
      exact ⟨ret_bool HN2.out.symm, below_then HbX.out Hb.out⟩
    | false =>
      by_cases g1 : tg.size ≤ 1000
      · have g1' : ¬ (1000 : Int) < (tg.size : Int) := by omega
        have g1d : decide ((1000 : Int) < (tg.size : Int)) = false := decide_eq_false g1'
        have HN2 : Hid (r = ((if kd = 1 then ks.length == 0 && b2 else if kd = 2 then tx.toList.isEmpty && !pl else if kd = 3 then tx.toList.isEmpty && !pl && (ks.length % 2 == 0) else false) && areB n ks)) := HN.out.trans (by simp [g1])
        clear HN g1 h1
        go_enter Tryd.func47, Tryd.ntmps47
        go_wp2_with (go_at_call 67; refine HV.out.mono ?_; rintro e w1 ⟨rfl, hb⟩; obtain ⟨x0, x1, x2, x3, x4⟩ := HXc.out w1 hb; have Hb := Lib.hid hb; clear hb)
        clear g1' g1d
        go_loop [5] (fun i => ∃ k : Nat, k ≤ ks.length ∧ i = .int .i64 (k : Int) ∧ Hid (areB n (ks.take k) = true)) (fun i => ks.length - (RowKit.intOf i).toNat)
        case atStart => exact ⟨0, Nat.zero_le _, rfl, rfl⟩
        case round =>
          obtain ⟨k, hk, rfl, hm⟩ := hrel
          by_cases hlt : k < ks.length
          · obtain ⟨b, off, rfl, hbw, hc⟩ := (HIX.out.below Hb.out (Nat.le_refl _)) (by omega)
            have hck := hc k hlt
            have hlt' : (k : Int) < (ks.length : Int) := by omega
            have HT := Lib.hid (areB_take n ks hlt)
            have HF : Hid (nth ks k < 0 ∨ (n : Int) ≤ nth ks k → r = false) := fun h => HN2.out.trans (by rw [areB_miss hlt h, Bool.and_false])
            obtain ⟨x, hx⟩ : ∃ x, nth ks k = x := ⟨_, rfl⟩
            rw [hx] at hck HT HF
            have Hlt := Lib.hid hlt
            clear hc hx hbw hlt hk
            have hcs : x < 0 ∨ (¬ x < 0 ∧ (n : Int) ≤ x) ∨ (¬ x < 0 ∧ ¬ (n : Int) ≤ x) := by omega
            rcases hcs with h1 | ⟨h1, h2⟩ | ⟨h1, h2⟩
            · go_wp2_with fail
              go_ret
              exact ⟨ret_bool (HF.out (.inl h1)).symm, below_then HbX.out Hb.out⟩
            · have h1' : decide (x < 0) = false := decide_eq_false h1
              go_wp2_with fail
              go_ret
              exact ⟨ret_bool (HF.out (.inr h2)).symm, below_then HbX.out Hb.out⟩
            · have h1' : decide (x < 0) = false := decide_eq_false h1
              have h2' : decide ((n : Int) ≤ x) = false := decide_eq_false h2
              have HNx : Hid (areB n (ks.take (k + 1)) = true) := by show _ = _; rw [HT.out, hm.out]; simp; omega
              have HW : Hid (wrap64 ((k : Int) + 1) = k + 1) := IntWalk.wrap64_in _ (by have := Hlt.out; have := H3.out; omega)
              have hmz : ∀ z : Int, z = k + 1 → ks.length - (RowKit.intOf (.int .i64 z)).toNat < ks.length - (RowKit.intOf (.int .i64 (k : Int))).toNat := by intro z hz; subst hz; have := Hlt.out; simp only [RowKit.intOf]; omega
              go_wp2_with fail
              exact ⟨⟨k + 1, Hlt.out, congrArg (Value.int .i64) (HW.out.trans (by simp)), HNx⟩, hmz _ HW.out⟩
          · obtain rfl : k = ks.length := by omega
            have hlt' : ¬ (ks.length : Int) < (ks.length : Int) := by omega
            have HN3 : Hid (r = (if kd = 1 then ks.length == 0 && b2 else if kd = 2 then tx.toList.isEmpty && !pl else if kd = 3 then tx.toList.isEmpty && !pl && (ks.length % 2 == 0) else false)) := HN2.out.trans (by
              have := hm.out
              rw [List.take_of_length_le (Nat.le_refl _)] at this
              rw [this, Bool.and_true])
            clear HN2 hm hlt hk
            obtain ⟨em, hem⟩ : ∃ em, tx.toList.isEmpty = em := ⟨_, rfl⟩
            rw [hem] at HN3
            by_cases e1 : kd = 1
            · subst e1
              have HN4 : Hid (r = (ks.length == 0 && b2)) := HN3.out.trans (by simp)
              clear HN3
              by_cases z : ks.length = 0
              · have z' : ((ks.length : Int) == 0) = true := beq_iff_eq.2 (by omega)
                have HN5 : Hid (r = b2) := HN4.out.trans (by simp [z])
                clear HN4 z
                go_wp2_with (go_at_call 68; refine (HTx.out w1).mono ?_; rintro e w2 ⟨rfl, hb2⟩)
                go_ret
                exact ⟨ret_bool HN5.out.symm, below_then HbX.out (below_then Hb.out hb2)⟩
              · have z' : ((ks.length : Int) == 0) = false := beq_eq_false_iff_ne.2 (by omega)
                have HN5 : Hid (r = false) := HN4.out.trans (by simp [z])
                clear HN4 z
                go_wp2_with fail
                go_ret
                exact ⟨ret_bool HN5.out.symm, below_then HbX.out Hb.out⟩
            · have e1' : (kd == 1) = false := beq_eq_false_iff_ne.2 e1
              by_cases e2 : kd = 2
              · subst e2
                have HN4 : Hid (r = (em && !pl)) := HN3.out.trans (by simp)
                clear HN3
                cases em
                all_goals
                  go_wp2_with fail
                  go_ret
                  exact ⟨ret_bool (by rw [HN4.out]; simp), below_then HbX.out Hb.out⟩
              · have e2' : (kd == 2) = false := beq_eq_false_iff_ne.2 e2
                by_cases e3 : kd = 3
                · subst e3
                  obtain ⟨m, hmm⟩ : ∃ m, ks.length % 2 = m := ⟨_, rfl⟩
                  have hmi : Int.tmod (ks.length : Int) 2 = (m : Int) := by rw [← hmm]; rfl
                  have HN4 : Hid (r = (em && !pl && (m == 0))) := HN3.out.trans (by simp [hmm])
                  clear HN3 hmm
                  cases em
                  all_goals
                    cases pl
                    all_goals
                      go_wp2_with fail
                      go_ret
                      exact ⟨ret_bool (by rw [HN4.out, Bool.eq_iff_iff]; simp; try omega), below_then HbX.out Hb.out⟩
                · have e3' : (kd == 3) = false := beq_eq_false_iff_ne.2 e3
                  have HN4 : Hid (r = false) := HN3.out.trans (by simp [e1, e2, e3])
                  clear HN3 e1 e2 e3
                  go_wp2_with fail
                  go_ret
                  exact ⟨ret_bool HN4.out.symm, below_then HbX.out Hb.out⟩
      · have g1' : (1000 : Int) < (tg.size : Int) := by omega
        have HN2 : Hid (r = false) := HN.out.trans (by simp [g1])
        clear HN g1
        go_enter Tryd.func47, Tryd.ntmps47
        go_wp2_with (go_at_call 67; refine HV.out.mono ?_; rintro e w1 ⟨rfl, hb⟩; obtain ⟨x0, x1, x2, x3, x4⟩ := HXc.out w1 hb; have Hb := Lib.hid hb; clear hb)
        go_ret
        exact ⟨ret_bool HN2.out.symm, below_then HbX.out Hb.out⟩
end Go.Proofs.YtdcbngimgpdjoaaDoor
/- The reference's Right and May (marginaliaref17). Conditions: texts are no longer than a million bytes. -/
namespace Go.Proofs.YtdcbngimgpdjoaaDoor
open Go.RowKit
/-- A graph's texts and rows are short enough for the reference's walks. -/
structure Gr.okR (G : Gr) : Prop where
  nodes : G.nodes.length ≤ maxLen
  roots : G.roots.length ≤ maxLen
  tag : ∀ e ∈ G.nodes, e.tag.size ≤ 1000000
  text : ∀ e ∈ G.nodes, e.text.size ≤ 1000000
  small : ∀ e ∈ G.nodes, e.kids.length ≤ 1000000000000
set_option maxRecDepth 100000 in
set_option maxHeartbeats 4000000 in
theorem RRight_any (G : Gr) (v : Value) (w : World) (hG : GrAt w w.heap.size G v) (hok : G.okR) :
    Calls Tryd.prog 19 #[v] w fun r w' => r = .returned (.bool (rightB G)) ∧ Below w.heap.size w w' := by
  have h1 := hok.nodes
  have h2 := hok.roots
  unfold maxLen at h1 h2
  obtain ⟨NA, nc, RA, rc, rfl, hN, hR⟩ := hG.ex
  obtain ⟨r, hr⟩ : ∃ r, rightB G = r := ⟨_, rfl⟩
  have HN : Hid (r = (decide (G.nodes.length ≤ 20000) && decide (G.roots.length ≤ 20000) && areB G.nodes.length G.roots && decide (sumK G.nodes ≤ 20000) && G.nodes.all fun e => nodeB e && areB G.nodes.length e.kids)) := by show _ = _; rw [← hr]; rfl
  rw [hr]
  clear hr
  by_cases g1 : G.nodes.length ≤ 20000
  · by_cases g2 : G.roots.length ≤ 20000
    · have g1' : ¬ (20000 : Int) < (G.nodes.length : Int) := by omega
      have g2' : ¬ (20000 : Int) < (G.roots.length : Int) := by omega
      have g1d := decide_eq_false g1'
      have g2d := decide_eq_false g2'
      have HN2 : Hid (r = (areB G.nodes.length G.roots && decide (sumK G.nodes ≤ 20000) && G.nodes.all fun e => nodeB e && areB G.nodes.length e.kids)) := HN.out.trans (by simp [g1, g2])
      clear HN
      obtain ⟨V, hV, hbV, hrow, hsz⟩ := box2 w (.slice NA G.nodes.length nc) (.slice RA G.roots.length rc) 25
      have HC : Hid (∀ W, Below V.heap.size V W → W.cell? ⟨w.heap.size, 0, none⟩ = some (.slice NA G.nodes.length nc) ∧ W.cell? ⟨w.heap.size, 1, none⟩ = some (.slice RA G.roots.length rc)) := fun W h => by
        have hr := (h.block w.heap.size (by omega)).trans hrow
        exact ⟨Lib.cell_of_heap hr 0, Lib.cell_of_heap hr 1⟩
      obtain ⟨v0, v1⟩ := HC.out V (Below.refl _ V)
      have HbV := Lib.hid hbV
      have HNd : Hid (∀ W k, Below w.heap.size w W → k < G.nodes.length → ∃ b off K c, NA = some ⟨b, off, none⟩ ∧ NdAt W W.heap.size b (off + k * 5) (nd G.nodes k) K c) := fun W k hW hk => by
        obtain ⟨b, off, hA, hlt, hc⟩ := hN (by omega)
        obtain ⟨K, c, hn⟩ := hc k hk
        exact ⟨b, off, K, c, hA, (hn.below hW (Nat.le_refl _) hlt).more hW.size⟩
      have HRt : Hid (∀ W, Below w.heap.size w W → IntsAt W W.heap.size RA G.roots) := fun W hW => (hR.below hW (Nat.le_refl _)).more hW.size
      have HOk : Hid (∀ k, k < G.nodes.length → (nd G.nodes k).tag.size ≤ 1000000 ∧ (nd G.nodes k).text.size ≤ 1000000 ∧ (nd G.nodes k).kids.length ≤ 1000000000000) := fun k hk => ⟨hok.tag _ (nd_mem hk), hok.text _ (nd_mem hk), hok.small _ (nd_mem hk)⟩
      have Hg1 := Lib.hid g1
      have Hg2 := Lib.hid g2
      clear hbV hrow hsz hN hR hok hG g1 g2 h1 h2
      go_enter Tryd.func19, Tryd.ntmps19
      go_wp2_with fail
      have HF1 : Hid (∀ k, k < G.nodes.length → 20000 < sumK (G.nodes.take k) + (nd G.nodes k).kids.length → r = false) := fun k hk h => by
        rw [HN2.out, decide_eq_false (p := sumK G.nodes ≤ 20000) (by have := sumK_le G.nodes (k + 1); rw [sumK_take hk] at this; omega), Bool.and_false, Bool.false_and]
      have HF2 : Hid (∀ k, k < G.nodes.length → (nodeB (nd G.nodes k) && areB G.nodes.length (nd G.nodes k).kids) = false → r = false) := fun k hk h => by
        rw [HN2.out]
        have : (G.nodes.all fun e => nodeB e && areB G.nodes.length e.kids) = false := by
          rw [List.all_eq_false]; exact ⟨_, nd_mem hk, by rw [h]; simp⟩
        rw [this, Bool.and_false]
      have HS : Hid (∀ k, k < G.nodes.length → sumK (G.nodes.take (k + 1)) = sumK (G.nodes.take k) + (nd G.nodes k).kids.length) := fun k hk => sumK_take hk
      have HAll : Hid (∀ k, k < G.nodes.length → (G.nodes.take k).all (fun e => nodeB e && areB G.nodes.length e.kids) = true → (nodeB (nd G.nodes k) && areB G.nodes.length (nd G.nodes k).kids) = true → (G.nodes.take (k + 1)).all (fun e => nodeB e && areB G.nodes.length e.kids) = true) := fun k hk h1 h2 => by
        rw [take_nd hk, List.all_append, h1]; simpa using h2
      have HEnd : Hid ((G.nodes.take G.nodes.length).all (fun e => nodeB e && areB G.nodes.length e.kids) = true → sumK (G.nodes.take G.nodes.length) ≤ 20000 → r = areB G.nodes.length G.roots) := fun h1 h2 => by
        rw [List.take_of_length_le (Nat.le_refl _)] at h1 h2
        rw [HN2.out, h1, decide_eq_true h2, Bool.and_true, Bool.and_true]
      go_loopw [4, 5] (fun s i wr => ∃ k : Nat, k ≤ G.nodes.length ∧ i = .int .i64 k ∧ (∃ t : Nat, s = .int .i64 t ∧ t = sumK (G.nodes.take k) ∧ t ≤ 20000) ∧ Hid ((G.nodes.take k).all (fun e => nodeB e && areB G.nodes.length e.kids) = true) ∧ Below V.heap.size V wr) (fun _ i _ => G.nodes.length - (intOf i).toNat)
      case atStart => exact ⟨0, Nat.zero_le _, rfl, ⟨0, rfl, rfl, by omega⟩, rfl, Below.refl _ _⟩
      case round =>
        obtain ⟨k, hk, rfl, ⟨t, rfl, ht, htl⟩, hal, hbl⟩ := hrel
        obtain ⟨q0, q1⟩ := HC.out _ hbl
        by_cases hlt : k < G.nodes.length
        · have hbw : Below w.heap.size w wr := below_then HbV.out hbl
          obtain ⟨b, off, K, c, rfl, hnd⟩ := HNd.out wr k hbw hlt
          obtain ⟨hk1, hk2, hk3⟩ := HOk.out k hlt
          have HF1k := Lib.hid (HF1.out k hlt)
          have HF2k := Lib.hid (HF2.out k hlt)
          have HSk := Lib.hid (HS.out k hlt)
          have HAk := Lib.hid (HAll.out k hlt)
          rw [← ht] at HF1k HSk
          have hlt' : (k : Int) < (G.nodes.length : Int) := by omega
          obtain ⟨e, he⟩ : ∃ e, nd G.nodes k = e := ⟨_, rfl⟩
          rw [he] at hnd hk1 hk2 hk3 HF1k HF2k HSk HAk
          have HNo : Hid (Calls Tryd.prog 47 #[.agg (e.row K c), .int .i64 (G.nodes.length : Int)] wr fun r w' => r = .returned (.bool (nodeB e && areB G.nodes.length e.kids)) ∧ Below wr.heap.size wr w') := Rnode_any e K c G.nodes.length wr hk1 hk2 hk3 hnd.kids
          obtain ⟨c0, c1, c2, c3, c4, _, _, _⟩ := hnd
          obtain ⟨bN, hbN⟩ : ∃ b, (nodeB e && areB G.nodes.length e.kids) = b := ⟨_, rfl⟩
          rw [hbN] at HNo HF2k HAk
          obtain ⟨kd, tg, tx, ks, pl⟩ := e
          simp only [Nd.row] at *
          have hadd : IntKind.i64.wrap ((t : Int) + (ks.length : Int)) = (t : Int) + (ks.length : Int) := IntWalk.i64_in _ (by omega)
          have Hbl := Lib.hid hbl
          have Hlt := Lib.hid hlt
          clear hbN he hk1 hk2 hk3 hbl hbw
          by_cases hov : 20000 < t + ks.length
          · have hov' : (20000 : Int) < (t : Int) + (ks.length : Int) := by omega
            have HR : Hid (r = false) := HF1k.out hov
            clear hov ht hlt hk
            go_wp2_with fail
            go_ret
            exact ⟨ret_bool HR.out.symm, below_then HbV.out Hbl.out⟩
          · have hov' : ¬ (20000 : Int) < (t : Int) + (ks.length : Int) := by omega
            have hovd := decide_eq_false hov'
            have HT2 : Hid (t + ks.length ≤ 20000) := by show _ ≤ _; omega
            clear hov ht hlt hk
            cases bN with
            | false =>
              have HR : Hid (r = false) := HF2k.out rfl
              go_wp2_with (go_at_call 47; refine HNo.out.mono ?_; rintro e w3 ⟨rfl, hb3⟩)
              go_ret
              exact ⟨ret_bool HR.out.symm, below_then HbV.out (below_then Hbl.out hb3)⟩
            | true =>
              have hmz : ∀ z : Int, z = k + 1 → G.nodes.length - (intOf (.int .i64 z)).toNat < G.nodes.length - (intOf (.int .i64 (k : Int))).toNat := by intro z hz; subst hz; have := Hlt.out; simp only [intOf]; omega
              go_wp2_with (go_at_call 47; refine HNo.out.mono ?_; rintro e w3 ⟨rfl, hb3⟩)
              exact ⟨⟨k + 1, Hlt.out, by simp, ⟨t + ks.length, by simp, HSk.out.symm, HT2.out⟩, Lib.hid (HAk.out hal.out (by first | rfl | trivial)), below_then Hbl.out hb3⟩, hmz _ rfl⟩
        · have hkn : k = G.nodes.length := by omega
          rw [hkn] at ht hal
          have HR : Hid (r = areB G.nodes.length G.roots) := HEnd.out hal.out (by omega)
          have HI : Hid (IntsAt wr wr.heap.size RA G.roots) := HRt.out wr (below_then HbV.out hbl)
          have Hbl := Lib.hid hbl
          clear ht hal HF1 HF2 HS HAll HEnd hbl htl
          subst hkn
          have hlt' : ¬ (G.nodes.length : Int) < (G.nodes.length : Int) := by omega
          go_wp2_with fail
          go_loop [6] (fun i => ∃ k : Nat, k ≤ G.roots.length ∧ i = .int .i64 (k : Int) ∧ Hid (areB G.nodes.length (G.roots.take k) = true)) (fun i => G.roots.length - (intOf i).toNat)
          case atStart => exact ⟨0, Nat.zero_le _, rfl, rfl⟩
          case round =>
            obtain ⟨k, hk, rfl, hm⟩ := hrel
            by_cases hlt : k < G.roots.length
            · obtain ⟨b, off, rfl, _, hc⟩ := HI.out (by omega)
              have hck := hc k hlt
              have hltr : (k : Int) < (G.roots.length : Int) := by omega
              have HT := Lib.hid (areB_take G.nodes.length G.roots hlt)
              have HF : Hid (nth G.roots k < 0 ∨ (G.nodes.length : Int) ≤ nth G.roots k → r = false) := fun h => HR.out.trans (areB_miss hlt h)
              obtain ⟨x, hx⟩ : ∃ x, nth G.roots k = x := ⟨_, rfl⟩
              rw [hx] at hck HT HF
              have Hlt := Lib.hid hlt
              clear hc hx hlt hk
              have hcs : x < 0 ∨ (¬ x < 0 ∧ (G.nodes.length : Int) ≤ x) ∨ (¬ x < 0 ∧ ¬ (G.nodes.length : Int) ≤ x) := by omega
              rcases hcs with h1 | ⟨h1, h2⟩ | ⟨h1, h2⟩
              · go_wp2_with fail
                go_ret
                exact ⟨ret_bool (HF.out (.inl h1)).symm, below_then HbV.out Hbl.out⟩
              · have h1' : decide (x < 0) = false := decide_eq_false h1
                go_wp2_with fail
                go_ret
                exact ⟨ret_bool (HF.out (.inr h2)).symm, below_then HbV.out Hbl.out⟩
              · have h1' : decide (x < 0) = false := decide_eq_false h1
                have h2' : decide ((G.nodes.length : Int) ≤ x) = false := decide_eq_false h2
                have HNx : Hid (areB G.nodes.length (G.roots.take (k + 1)) = true) := by show _ = _; rw [HT.out, hm.out]; simp; omega
                have hmz : ∀ z : Int, z = k + 1 → G.roots.length - (intOf (.int .i64 z)).toNat < G.roots.length - (intOf (.int .i64 (k : Int))).toNat := by intro z hz; subst hz; have := Hlt.out; simp only [intOf]; omega
                have HW : Hid (wrap64 ((k : Int) + 1) = k + 1) := IntWalk.wrap64_in _ (by have := Hlt.out; have := Hg2.out; omega)
                go_wp2_with fail
                first
                  | exact ⟨⟨k + 1, Hlt.out, by simp, HNx⟩, hmz _ rfl⟩
                  | exact ⟨⟨k + 1, Hlt.out, congrArg (Value.int .i64) (HW.out.trans (by simp)), HNx⟩, hmz _ HW.out⟩
            · obtain rfl : k = G.roots.length := by omega
              have hltr : ¬ (G.roots.length : Int) < (G.roots.length : Int) := by omega
              have HRr : Hid (r = true) := by
                have := hm.out
                rw [List.take_of_length_le (Nat.le_refl _)] at this
                exact HR.out.trans this
              go_wp2_with fail
              go_ret
              exact ⟨ret_bool HRr.out.symm, below_then HbV.out Hbl.out⟩
    · have g1' : ¬ (20000 : Int) < (G.nodes.length : Int) := by omega
      have g1d := decide_eq_false g1'
      have g2' : (20000 : Int) < (G.roots.length : Int) := by omega
      have HN2 : Hid (r = false) := HN.out.trans (by simp [g2])
      clear HN g1 g2
      go_enter Tryd.func19, Tryd.ntmps19
      go_wp2_with fail
      go_ret
      exact ⟨ret_bool HN2.out.symm, (Below.refl _ w).alloc (Nat.le_refl _) _⟩
  · have g1' : (20000 : Int) < (G.nodes.length : Int) := by omega
    have HN2 : Hid (r = false) := HN.out.trans (by simp [g1])
    clear HN g1
    go_enter Tryd.func19, Tryd.ntmps19
    go_wp2_with fail
    go_ret
    exact ⟨ret_bool HN2.out.symm, (Below.refl _ w).alloc (Nat.le_refl _) _⟩
set_option maxRecDepth 100000 in
theorem RMay_any (G : Gr) (v : Value) (root : Int) (w : World) (hG : GrAt w w.heap.size G v) (hok : G.okR) :
    Calls Tryd.prog 27 #[v, .int .i64 root] w fun r w' => r = .returned (.bool (decide (0 ≤ root) && decide (root < G.nodes.length) && rightB G)) ∧ Below w.heap.size w w' := by
  have hl := hok.nodes
  unfold maxLen at hl
  obtain ⟨b, hb⟩ : ∃ b, rightB G = b := ⟨_, rfl⟩
  have hR : Hid (∀ W, Below w.heap.size w W → Calls Tryd.prog 19 #[v] W fun r w' => r = .returned (.bool (rightB G)) ∧ Below W.heap.size W w') := fun W hW => RRight_any G v W ((hG.below hW (Nat.le_refl _)).more hW.size) hok
  rw [hb] at hR ⊢
  obtain ⟨NA, nc, RA, rc, rfl, _, _⟩ := hG.ex
  obtain ⟨V, hV, hbV, hrow, hsz⟩ := box2 w (.slice NA G.nodes.length nc) (.slice RA G.roots.length rc) 25
  have v0 : V.cell? ⟨w.heap.size, 0, none⟩ = some (.slice NA G.nodes.length nc) := Lib.cell_of_heap hrow 0
  have v1 : V.cell? ⟨w.heap.size, 1, none⟩ = some (.slice RA G.roots.length rc) := Lib.cell_of_heap hrow 1
  have HR0 := Lib.hid (hR.out V hbV)
  have HC : Hid (∀ W, Below V.heap.size V W → W.cell? ⟨w.heap.size, 0, none⟩ = some (.slice NA G.nodes.length nc)) := fun W h => Lib.cell_of_heap ((h.block w.heap.size (by omega)).trans hrow) 0
  have HbV := Lib.hid hbV
  clear hG hrow hsz hb hR hbV
  cases b with
  | false =>
    go_enter Tryd.func27, Tryd.ntmps27
    go_wp2_with (go_at_call 19; refine HR0.out.mono ?_; rintro e w3 ⟨rfl, hb3⟩; have q0 := HC.out w3 hb3)
    go_ret
    exact ⟨ret_bool (by simp), below_then HbV.out hb3⟩
  | true =>
    have hcs : root < 0 ∨ (0 ≤ root ∧ (G.nodes.length : Int) ≤ root) ∨ (0 ≤ root ∧ root < (G.nodes.length : Int)) := by omega
    rcases hcs with h1 | ⟨h1, h2⟩ | ⟨h1, h2⟩
    · have h1' : ¬ 0 ≤ root := by omega
      have h1d := decide_eq_false h1'
      go_enter Tryd.func27, Tryd.ntmps27
      go_wp2_with (go_at_call 19; refine HR0.out.mono ?_; rintro e w3 ⟨rfl, hb3⟩; have q0 := HC.out w3 hb3)
      go_ret
      exact ⟨ret_bool (by rw [h1d]; simp), below_then HbV.out hb3⟩
    · have h2' : ¬ root < (G.nodes.length : Int) := by omega
      have h2d := decide_eq_false h2'
      go_enter Tryd.func27, Tryd.ntmps27
      go_wp2_with (go_at_call 19; refine HR0.out.mono ?_; rintro e w3 ⟨rfl, hb3⟩; have q0 := HC.out w3 hb3)
      go_ret
      exact ⟨ret_bool (by rw [h2d]; simp), below_then HbV.out hb3⟩
    · go_enter Tryd.func27, Tryd.ntmps27
      go_wp2_with (go_at_call 19; refine HR0.out.mono ?_; rintro e w3 ⟨rfl, hb3⟩; have q0 := HC.out w3 hb3)
      go_ret
      exact ⟨ret_bool (by rw [decide_eq_true h1, decide_eq_true h2]; rfl), below_then HbV.out hb3⟩
end Go.Proofs.YtdcbngimgpdjoaaDoor
