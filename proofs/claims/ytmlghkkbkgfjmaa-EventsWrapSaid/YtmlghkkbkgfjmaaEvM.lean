/- Rows of events, one behind the other. No condition. -/
import Derived.Test.YtmlghkkbkgfjmaaEvL
namespace Go.Proofs.Ytmlghkkbkgfjmaa
open Go.RowKit Go.ChangeShapes Go.WideShapes Go.ChangeAt Go.Deep
theorem Try.infoEvent : (Try.prog.info? 27).map (fun i => (i.zero, i.size, i.bytes)) = some (some (.agg #[.int .i64 0, .string ⟨#[]⟩, .string ⟨#[]⟩, .string ⟨#[]⟩, .int .i64 0, .bool false]), 6, 72) := by kernel_rfl
/-- 'append' of a row of events to a row that the call owns. -/
theorem wpList_append_evs {w : World} {ops : Array Oper} {rest : List Oper} {o : Oper} {a : Act} {Q : Exit → Act → World → Prop} (hgd : o.guard = none) (s x : Operand)
    (ho : o.op = .call { callee := .builtin .append, args := #[s, x], argTypes := #[22, 22] }) (base : Nat)
    (v : Value) (L M : List Ev) (hs : a.eval s = v) (hown : w.ownsRow base 27 6 v L.length (rows L))
    (A : Option Addr) (B c : Nat) (hx : a.eval x = .slice A M.length c) (hE : EvsAt w B A M) (hmc : M.length ≤ c) (hn : A = none → c = 0) (hL : L.length ≤ 100000) (hM : M.length ≤ 100000) (hbase : base ≤ w.heap.size)
    (h : ∀ v' w', w'.ownsRow base 27 6 v' (L ++ M).length (rows (L ++ M)) → w.grownBy w' v.ownBlock → wpList Try.prog ops Q rest (a.put o.dst v') w') : wpList Try.prog ops Q (o :: rest) a w := by
  obtain ⟨i0, hi, hz0, hz1, hz2⟩ := info_parts Try.infoEvent
  cases A with
  | none =>
    have hc0 := hn rfl
    have hm0 : M.length = 0 := by omega
    rw [hm0, hc0] at hx
    have hM0 : M = [] := List.length_eq_zero_iff.1 hm0
    subst hM0
    exact wpList_append_own_none hgd s x _ ho base _ i0 6 rfl hi v _ _ hs hown hx (h v w (by simpa using hown) (World.grownBy.refl _ _))
  | some ad =>
    refine wpList_append_own w hgd s x _ ho base _ i0 _ 6 72 rfl hi hz0 hz1 hz2 rfl (by decide) v _ _ hs hown ad _ c (rows M) hx (rows_len M) (evsAt_cells hE) (rows_one M) (by unfold maxLen; omega) (by omega) hbase ?_
    intro v' w' h1 h2 _
    exact h v' w' (by rw [List.length_append, rows_append]; exact h1) h2
theorem nodes_append (L M : List Ev) : nodesN (L ++ M) = nodesN L + nodesN M := by simp [nodesN]
theorem rightsB_append {L M : List Ev} (hL : rightsB L = true) (hM : rightsB M = true) : rightsB (L ++ M) = true := by
  simp only [rightsB, Bool.and_eq_true, List.all_append] at hL hM ⊢
  refine ⟨⟨hL.1, hM.1⟩, ?_⟩
  have e : kinds (L ++ M) = kinds L ++ kinds M := by simp [kinds]
  rw [e]
  exact Ev.docs_append _ _ _ (Nat.le_refl _) hL.2 hM.2
theorem depth_append {L M : List Ev} (hL : rightsB L = true) (hM : rightsB M = true) : depthB (L ++ M) = max (depthB L) (depthB M) := by
  rw [depthB, depthB, depthB, hL, hM, rightsB_append hL hM]
  simp only [if_true, topN]
  have e : kinds (L ++ M) = kinds L ++ kinds M := by simp [kinds]
  have l1 : ∀ N : List Ev, (kinds N).take N.length = kinds N := fun N => List.take_of_length_le (by simp [kinds])
  rw [l1, l1, l1, e, Ev.top_append]
  have hd : Ev.lev 0 (kinds L) = 0 := by
    simp only [rightsB, Bool.and_eq_true] at hL
    exact Ev.docs_lev _ _ (Nat.le_refl _) hL.2 0
  rw [hd]
set_option maxHeartbeats 2000000 in
theorem eventsParts_walk (A : Option Addr) (c : Nat) (L : List Ev) (hc : L.length ≤ c) (hm : c ≤ maxLen) (w : World) (hE : EvsAt w w.heap.size A L) (hok : ∀ x ∈ L, Ev.ok x) (hn : A = none → c = 0)
    (A' : Option Addr) (c' : Nat) (L' : List Ev) (hc' : L'.length ≤ c') (hm' : c' ≤ maxLen) (hE' : EvsAt w w.heap.size A' L') (hok' : ∀ x ∈ L', Ev.ok x) (hn' : A' = none → c' = 0) :
    Calls Try.prog 5 #[.slice A L.length c, .slice A' L'.length c'] w fun e w' => e = .returned (.bool true) ∧ Below w.heap.size w w' := by
  have hl : L.length ≤ 9223372036854775807 := by unfold maxLen at hm; omega
  have hl' : L'.length ≤ 9223372036854775807 := by unfold maxLen at hm'; omega
  clear hm hm'
  go_enter Try.func5, Try.ntmps5
  go_wp2_with fail
  refine (alive_any _).mono ?_
  rintro e w1 ⟨rfl, hb1⟩
  go_wp2_with fail
  refine (Big_any A c L w1 hl ((hE.below hb1 (Nat.le_refl _)).more hb1.size) hok).mono ?_
  rintro e w2 ⟨rfl, rfl⟩
  have hB2 := Big_any A' c' L' w1 hl' ((hE'.below hb1 (Nat.le_refl _)).more hb1.size) hok'
  cases hbig : bigB L with
  | true =>
    go_wp2_with fail
    go_ret
    exact ⟨rfl, hb1⟩
  | false =>
    have hs1 : L.length ≤ 300 := small_of hbig
    have HX : Hid (∀ w1, Below w.heap.size w w1 → EvsAt w1 w1.heap.size A L) := fun w1 h => (hE.below h (Nat.le_refl _)).more h.size
    have HX' : Hid (∀ w1, Below w.heap.size w w1 → EvsAt w1 w1.heap.size A' L') := fun w1 h => (hE'.below h (Nat.le_refl _)).more h.size
    clear hE hE' hok hok'
    go_wp2_with fail
    refine hB2.mono ?_
    rintro e w2 ⟨rfl, rfl⟩
    clear hB2
    cases hbig' : bigB L' with
    | true =>
      go_wp2_with fail
      go_ret
      exact ⟨rfl, hb1⟩
    | false =>
      have hs2 : L'.length ≤ 300 := small_of hbig'
      go_wp2_with fail
      refine (RRight_any A c L w1 (by omega) hc (HX.out _ hb1)).mono ?_
      rintro e w2 ⟨rfl, hb2⟩
      have hb2 := below_then hb1 hb2
      cases hrA : rightsB L with
      | false =>
        go_wp2_with fail
        go_ret
        exact ⟨rfl, hb2⟩
      | true =>
        go_wp2_with fail
        refine (RRight_any A' c' L' w2 (by omega) hc' (HX'.out _ hb2)).mono ?_
        rintro e w3 ⟨rfl, hb3⟩
        have hb3 := below_then hb2 hb3
        cases hrB : rightsB L' with
        | false =>
          go_wp2_with fail
          go_ret
          exact ⟨rfl, hb3⟩
        | true =>
          have HR := Lib.hid (rightsB_append hrA hrB)
          have HDp := Lib.hid (depth_append hrA hrB)
          have HN := Lib.hid (nodes_append L L')
          have HrA := Lib.hid hrA
          have HrB := Lib.hid hrB
          clear hrA hrB hbig hbig'
          go_wp2_with (first
            | (at_builtin; refine wpList_append_evs rfl _ _ rfl w3.heap.size _ [] L rfl ⟨rfl, .inl ⟨rfl, rfl⟩⟩ A _ c rfl (HX.out _ hb3) hc hn (by simp) (by omega) (Nat.le_refl _) ?_; intro v1 w4 hown1 hgrow1; rw [List.nil_append] at hown1; have hb4 := hb3.grown hgrow1 hb3.size (fun _ h => by cases h); have hz4 : w3.heap.size ≤ w4.heap.size := hgrow1.size; clear hgrow1)
            | (at_builtin; refine wpList_append_evs rfl _ _ rfl w3.heap.size v1 L L' rfl hown1 A' _ c' rfl (HX'.out _ hb4) hc' hn' (by omega) (by omega) hz4 ?_; intro v2 w5 hown2 hgrow2; have hb5 := hb4.grown hgrow2 hb4.size (fun _ h => Nat.le_trans hb3.size (hown1.lt _ h).1); clear hgrow2 hown1; obtain ⟨A2, c2, rfl, hc2, hE2⟩ := evsAt_own hown2; clear hown2))
          have hX2 : ∀ w6, Below w5.heap.size w5 w6 → EvsAt w6 w6.heap.size A2 (L ++ L') := fun w6 h => (hE2.below h (Nat.le_refl _)).more h.size
          have HX2 := Lib.hid hX2
          have hl2 : (L ++ L').length ≤ 100000 := by rw [List.length_append]; omega
          have HR2 : Hid (∀ w6, Below w5.heap.size w5 w6 → Calls Try.prog 10 #[.slice A2 (L.length + L'.length) c2] w6 fun e w' => e = .returned (.bool true) ∧ Below w6.heap.size w6 w') := fun w6 h => by
            have := Right_any A2 c2 (L ++ L') w6 hl2 (HX2.out _ h)
            rwa [HR.out, List.length_append] at this
          have HD2 : Hid (∀ w6, Below w5.heap.size w5 w6 → Calls Try.prog 11 #[.slice A2 (L.length + L'.length) c2] w6 fun e w' => e = .returned (.int .i64 (max (depthB L) (depthB L'))) ∧ Below w6.heap.size w6 w') := fun w6 h => by
            have := Depth_any A2 c2 (L ++ L') w6 hl2 (HX2.out _ h)
            rwa [HDp.out, List.length_append] at this
          have HN2 : Hid (∀ w6, Below w5.heap.size w5 w6 → Calls Try.prog 14 #[.slice A2 (L.length + L'.length) c2] w6 fun e w' => e = .returned (.int .i64 ((nodesN L + nodesN L' : Nat) : Int)) ∧ Below w6.heap.size w6 w') := fun w6 h => by
            have := Nodes_any A2 c2 (L ++ L') w6 (by omega) (HX2.out _ h)
            rwa [HN.out, List.length_append] at this
          have hn1 : nodesN L ≤ 300 := Nat.le_trans List.countP_le_length hs1
          have hn2 : nodesN L' ≤ 300 := Nat.le_trans List.countP_le_length hs2
          clear hX2 hl2 hE2 HR HDp HN HX2
          generalize hda : depthB L = da at *
          generalize hdb : depthB L' = db at *
          generalize hna : nodesN L = na at *
          generalize hnb : nodesN L' = nb at *
          have hD1 := fun w6 h => Depth_any A c L w6 (by omega) (HX.out w6 h)
          have hD2 := fun w6 h => Depth_any A' c' L' w6 (by omega) (HX'.out w6 h)
          have hN1 := fun w6 h => Nodes_any A c L w6 hl (HX.out w6 h)
          have hN2 := fun w6 h => Nodes_any A' c' L' w6 hl' (HX'.out w6 h)
          simp only [hda, hdb, hna, hnb] at hD1 hD2 hN1 hN2
          have HD1 := Lib.hid hD1
          have HD2' := Lib.hid hD2
          have HN1 := Lib.hid hN1
          have HN2' := Lib.hid hN2
          clear hD1 hD2 hN1 hN2 hda hdb hna hnb HX HX' hb1 hb2 hb3 hb4 hz4 HrA HrB
          have hmx : db > da ∧ max da db = db ∨ ¬ db > da ∧ max da db = da := by omega
          refine (HD1.out _ hb5).mono ?_
          rintro e w6 ⟨rfl, hk6⟩
          have hb6 := below_then hb5 hk6
          go_wp2_with fail
          refine (HD2'.out _ hb6).mono ?_
          rintro e w7 ⟨rfl, hk7⟩
          have hk7 := below_then hk6 hk7
          have hb7 := below_then hb5 hk7
          rcases hmx with ⟨h1, h2⟩ | ⟨h1, h2⟩
          · rw [h2] at HD2
            go_wp2_with fail
            refine (HD2'.out _ hb7).mono ?_
            rintro e w8 ⟨rfl, hk8⟩
            have hk8 := below_then hk7 hk8
            have hb8 := below_then hb5 hk8
            go_wp2_with fail
            refine (HR2.out _ hk8).mono ?_
            rintro e w9 ⟨rfl, hk9⟩
            have hk9 := below_then hk8 hk9
            go_wp2_with fail
            refine (HD2.out _ hk9).mono ?_
            rintro e w10 ⟨rfl, hk10⟩
            have hk10 := below_then hk9 hk10
            go_wp2_with fail
            refine (HN2.out _ hk10).mono ?_
            rintro e w11 ⟨rfl, hk11⟩
            have hk11 := below_then hk10 hk11
            go_wp2_with fail
            refine (HN1.out _ (below_then hb5 hk11)).mono ?_
            rintro e w12 ⟨rfl, hk12⟩
            have hk12 := below_then hk11 hk12
            go_wp2_with fail
            refine (HN2'.out _ (below_then hb5 hk12)).mono ?_
            rintro e w13 ⟨rfl, hk13⟩
            have hk13 := below_then hk12 hk13
            go_wp2_with fail
            go_ret
            exact ⟨ret_bool (by simp), below_then hb5 hk13⟩
          · rw [h2] at HD2
            go_wp2_with fail
            refine (HR2.out _ hk7).mono ?_
            rintro e w9 ⟨rfl, hk9⟩
            have hk9 := below_then hk7 hk9
            go_wp2_with fail
            refine (HD2.out _ hk9).mono ?_
            rintro e w10 ⟨rfl, hk10⟩
            have hk10 := below_then hk9 hk10
            go_wp2_with fail
            refine (HN2.out _ hk10).mono ?_
            rintro e w11 ⟨rfl, hk11⟩
            have hk11 := below_then hk10 hk11
            go_wp2_with fail
            refine (HN1.out _ (below_then hb5 hk11)).mono ?_
            rintro e w12 ⟨rfl, hk12⟩
            have hk12 := below_then hk11 hk12
            go_wp2_with fail
            refine (HN2'.out _ (below_then hb5 hk12)).mono ?_
            rintro e w13 ⟨rfl, hk13⟩
            have hk13 := below_then hk12 hk13
            go_wp2_with fail
            go_ret
            exact ⟨ret_bool (by simp), below_then hb5 hk13⟩
end Go.Proofs.Ytmlghkkbkgfjmaa
