/- The reference's text, node, Right and May (marginaliaref17). Conditions: texts are no longer than a million bytes. -/
import Derived.Test.YtdcbngimgpdjoaaDoorUtf4
import Derived.Test.YtdcbngimgpdjoaaDoorGr
namespace Go.Proofs.YtdcbngimgpdjoaaDoor
open Go.RowKit
set_option maxRecDepth 100000 in
theorem Rtext_any (s : ByteArray) (w : World) (hs : s.size ≤ 1000000) :
    Calls Tryd.prog 68 #[.string s] w fun e w' => e = .returned (.bool (textB s)) ∧ Below w.heap.size w w' := by
  have HT : Hid (Calls Tryd.prog 79 #[.string s] w fun e w' => ∃ u, e = .returned (.tuple #[u, .bool (Lib.validD s.data.toList)]) ∧ Below w.heap.size w w') := (Text_any s w hs).mono (by
    rintro e w' ⟨u, v, rfl, h1, _, h3⟩
    rw [h1]
    exact ⟨u, rfl, h3⟩)
  have hB : textB s = (Lib.validD s.data.toList && decide (s.size ≤ 262144)) := by rw [textB, Bool.and_comm]
  rw [hB]
  cases hv : Lib.validD s.data.toList with
  | false =>
    rw [hv] at HT
    clear hB hv
    go_enter Tryd.func68, Tryd.ntmps68
    go_wp2_with (go_at_call 79; refine HT.out.mono ?_; rintro e w1 ⟨u, rfl, hb⟩)
    go_ret
    exact ⟨by first | rfl | simp, hb⟩
  | true =>
    rw [hv] at HT
    clear hB hv
    go_enter Tryd.func68, Tryd.ntmps68
    go_wp2_with (go_at_call 79; refine HT.out.mono ?_; rintro e w1 ⟨u, rfl, hb⟩)
    go_ret
    exact ⟨ret_bool (by first | rfl | (simp; done) | (rw [Bool.eq_iff_iff]; simp; omega)), hb⟩
set_option maxRecDepth 100000 in
set_option maxHeartbeats 2000000 in
theorem Rnode_any (e : Nd) (K : Option Addr) (c n : Nat) (w : World) (h1 : e.tag.size ≤ 1000000) (h2 : e.text.size ≤ 1000000) (h3 : e.kids.length ≤ 1000000000000) (hI : IntsAt w w.heap.size K e.kids) :
    Calls Tryd.prog 47 #[.agg (e.row K c), .int .i64 (n : Int)] w fun r w' => r = .returned (.bool (nodeB e && areB n e.kids)) ∧ Below w.heap.size w w' := by
  obtain ⟨r, hr⟩ : ∃ r, (nodeB e && areB n e.kids) = r := ⟨_, rfl⟩
  have HN : Hid (r = ((decide (e.tag.size ≤ 1000) && !(e.tag.toList == [33]) && tagB e.tag && kindB e) && areB n e.kids)) := hr.symm
  unfold kindB at HN
  rw [hr]
  clear hr
  obtain ⟨kd, tg, tx, ks, pl⟩ := e
  simp only [Nd.row] at *
  obtain ⟨X, hX, hbX, hszX, hXc⟩ := box5 w (.int .i64 kd) (.string tg) (.string tx) (.slice K ks.length c) (.bool pl) 33
  have hIX : IntsAt X X.heap.size K ks := (hI.below hbX (Nat.le_refl _)).more hbX.size
  obtain ⟨v0, v1, v2, v3, v4⟩ := hXc X (Below.refl _ X)
  have HXc := Lib.hid hXc
  have HbX := Lib.hid hbX
  have HIX := Lib.hid hIX
  have hV := rValid_any tg X h1
  have HTx : Hid (∀ W, Calls Tryd.prog 68 #[.string tx] W fun r w' => r = .returned (.bool (textB tx)) ∧ Below W.heap.size W w') := fun W => Rtext_any tx W h2
  obtain ⟨b1, hb1⟩ : ∃ b, tagB tg = b := ⟨_, rfl⟩
  rw [hb1] at hV HN
  have HV := Lib.hid hV
  obtain ⟨b2, hb2⟩ : ∃ b, textB tx = b := ⟨_, rfl⟩
  rw [hb2] at HTx HN
  obtain ⟨q, hq⟩ : ∃ q, (tg.toList == [33]) = q := ⟨_, rfl⟩
  rw [hq] at HN
  have H3 := Lib.hid h3
  clear hV hb1 hb2 hXc hbX hIX hI hszX h2 h3
  cases b1 with
  | false =>
    have HN2 : Hid (r = false) := HN.out.trans (by simp)
    clear HN
    go_enter Tryd.func47, Tryd.ntmps47
    go_wp2_with (go_at_call 67; refine HV.out.mono ?_; rintro e w1 ⟨rfl, hb⟩; obtain ⟨x0, x1, x2, x3, x4⟩ := HXc.out w1 hb; have Hb := Lib.hid hb; clear hb)
    go_ret
    exact ⟨ret_bool HN2.out.symm, below_then HbX.out Hb.out⟩
  | true =>
    cases q with
    | true =>
      have HN2 : Hid (r = false) := HN.out.trans (by simp)
      clear HN
      go_enter Tryd.func47, Tryd.ntmps47
      go_wp2_with (go_at_call 67; refine HV.out.mono ?_; rintro e w1 ⟨rfl, hb⟩; obtain ⟨x0, x1, x2, x3, x4⟩ := HXc.out w1 hb; have Hb := Lib.hid hb; clear hb)
      go_ret
      exact ⟨ret_bool HN2.out.symm, below_then HbX.out Hb.out⟩
    | false =>
      by_cases g1 : tg.size ≤ 1000
      · have g1' : ¬ (1000 : Int) < (tg.size : Int) := by omega
        have g1d : decide ((1000 : Int) < (tg.size : Int)) = false := decide_eq_false g1'
        have HN2 : Hid (r = ((if kd = 1 then ks.length == 0 && b2 else if kd = 2 then tx.toList.isEmpty && !pl else if kd = 3 then tx.toList.isEmpty && !pl && (ks.length % 2 == 0) else false) && areB n ks)) := HN.out.trans (by simp [g1])
        clear HN g1 h1
        go_enter Tryd.func47, Tryd.ntmps47
        go_wp2_with (go_at_call 67; refine HV.out.mono ?_; rintro e w1 ⟨rfl, hb⟩; obtain ⟨x0, x1, x2, x3, x4⟩ := HXc.out w1 hb; have Hb := Lib.hid hb; clear hb)
        clear g1' g1d
        go_loop [5] (fun i => ∃ k : Nat, k ≤ ks.length ∧ i = .int .i64 (k : Int) ∧ Hid (areB n (ks.take k) = true)) (fun i => ks.length - (RowKit.intOf i).toNat)
        case atStart => exact ⟨0, Nat.zero_le _, rfl, rfl⟩
        case round =>
          obtain ⟨k, hk, rfl, hm⟩ := hrel
          by_cases hlt : k < ks.length
          · obtain ⟨b, off, rfl, hbw, hc⟩ := (HIX.out.below Hb.out (Nat.le_refl _)) (by omega)
            have hck := hc k hlt
            have hlt' : (k : Int) < (ks.length : Int) := by omega
            have HT := Lib.hid (areB_take n ks hlt)
            have HF : Hid (nth ks k < 0 ∨ (n : Int) ≤ nth ks k → r = false) := fun h => HN2.out.trans (by rw [areB_miss hlt h, Bool.and_false])
            obtain ⟨x, hx⟩ : ∃ x, nth ks k = x := ⟨_, rfl⟩
            rw [hx] at hck HT HF
            have Hlt := Lib.hid hlt
            clear hc hx hbw hlt hk
            have hcs : x < 0 ∨ (¬ x < 0 ∧ (n : Int) ≤ x) ∨ (¬ x < 0 ∧ ¬ (n : Int) ≤ x) := by omega
            rcases hcs with h1 | ⟨h1, h2⟩ | ⟨h1, h2⟩
            · go_wp2_with fail
              go_ret
              exact ⟨ret_bool (HF.out (.inl h1)).symm, below_then HbX.out Hb.out⟩
            · have h1' : decide (x < 0) = false := decide_eq_false h1
              go_wp2_with fail
              go_ret
              exact ⟨ret_bool (HF.out (.inr h2)).symm, below_then HbX.out Hb.out⟩
            · have h1' : decide (x < 0) = false := decide_eq_false h1
              have h2' : decide ((n : Int) ≤ x) = false := decide_eq_false h2
              have HNx : Hid (areB n (ks.take (k + 1)) = true) := by show _ = _; rw [HT.out, hm.out]; simp; omega
              have HW : Hid (wrap64 ((k : Int) + 1) = k + 1) := IntWalk.wrap64_in _ (by have := Hlt.out; have := H3.out; omega)
              have hmz : ∀ z : Int, z = k + 1 → ks.length - (RowKit.intOf (.int .i64 z)).toNat < ks.length - (RowKit.intOf (.int .i64 (k : Int))).toNat := by intro z hz; subst hz; have := Hlt.out; simp only [RowKit.intOf]; omega
              go_wp2_with fail
              exact ⟨⟨k + 1, Hlt.out, congrArg (Value.int .i64) (HW.out.trans (by simp)), HNx⟩, hmz _ HW.out⟩
          · obtain rfl : k = ks.length := by omega
            have hlt' : ¬ (ks.length : Int) < (ks.length : Int) := by omega
            have HN3 : Hid (r = (if kd = 1 then ks.length == 0 && b2 else if kd = 2 then tx.toList.isEmpty && !pl else if kd = 3 then tx.toList.isEmpty && !pl && (ks.length % 2 == 0) else false)) := HN2.out.trans (by
              have := hm.out
              rw [List.take_of_length_le (Nat.le_refl _)] at this
              rw [this, Bool.and_true])
            clear HN2 hm hlt hk
            obtain ⟨em, hem⟩ : ∃ em, tx.toList.isEmpty = em := ⟨_, rfl⟩
            rw [hem] at HN3
            by_cases e1 : kd = 1
            · subst e1
              have HN4 : Hid (r = (ks.length == 0 && b2)) := HN3.out.trans (by simp)
              clear HN3
              by_cases z : ks.length = 0
              · have z' : ((ks.length : Int) == 0) = true := beq_iff_eq.2 (by omega)
                have HN5 : Hid (r = b2) := HN4.out.trans (by simp [z])
                clear HN4 z
                go_wp2_with (go_at_call 68; refine (HTx.out w1).mono ?_; rintro e w2 ⟨rfl, hb2⟩)
                go_ret
                exact ⟨ret_bool HN5.out.symm, below_then HbX.out (below_then Hb.out hb2)⟩
              · have z' : ((ks.length : Int) == 0) = false := beq_eq_false_iff_ne.2 (by omega)
                have HN5 : Hid (r = false) := HN4.out.trans (by simp [z])
                clear HN4 z
                go_wp2_with fail
                go_ret
                exact ⟨ret_bool HN5.out.symm, below_then HbX.out Hb.out⟩
            · have e1' : (kd == 1) = false := beq_eq_false_iff_ne.2 e1
              by_cases e2 : kd = 2
              · subst e2
                have HN4 : Hid (r = (em && !pl)) := HN3.out.trans (by simp)
                clear HN3
                cases em
                all_goals
                  go_wp2_with fail
                  go_ret
                  exact ⟨ret_bool (by rw [HN4.out]; simp), below_then HbX.out Hb.out⟩
              · have e2' : (kd == 2) = false := beq_eq_false_iff_ne.2 e2
                by_cases e3 : kd = 3
                · subst e3
                  obtain ⟨m, hmm⟩ : ∃ m, ks.length % 2 = m := ⟨_, rfl⟩
                  have hmi : Int.tmod (ks.length : Int) 2 = (m : Int) := by rw [← hmm]; rfl
                  have HN4 : Hid (r = (em && !pl && (m == 0))) := HN3.out.trans (by simp [hmm])
                  clear HN3 hmm
                  cases em
                  all_goals
                    cases pl
                    all_goals
                      go_wp2_with fail
                      go_ret
                      exact ⟨ret_bool (by rw [HN4.out, Bool.eq_iff_iff]; simp; try omega), below_then HbX.out Hb.out⟩
                · have e3' : (kd == 3) = false := beq_eq_false_iff_ne.2 e3
                  have HN4 : Hid (r = false) := HN3.out.trans (by simp [e1, e2, e3])
                  clear HN3 e1 e2 e3
                  go_wp2_with fail
                  go_ret
                  exact ⟨ret_bool HN4.out.symm, below_then HbX.out Hb.out⟩
      · have g1' : (1000 : Int) < (tg.size : Int) := by omega
        have HN2 : Hid (r = false) := HN.out.trans (by simp [g1])
        clear HN g1
        go_enter Tryd.func47, Tryd.ntmps47
        go_wp2_with (go_at_call 67; refine HV.out.mono ?_; rintro e w1 ⟨rfl, hb⟩; obtain ⟨x0, x1, x2, x3, x4⟩ := HXc.out w1 hb; have Hb := Lib.hid hb; clear hb)
        go_ret
        exact ⟨ret_bool HN2.out.symm, below_then HbX.out Hb.out⟩
end Go.Proofs.YtdcbngimgpdjoaaDoor
