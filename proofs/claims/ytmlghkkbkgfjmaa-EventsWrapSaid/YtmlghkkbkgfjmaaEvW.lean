/- The walk of the law that wraps a node. No condition. -/
import Derived.Test.YtmlghkkbkgfjmaaEvM
import Derived.Deep.RegionLaw
import Derived.Deep.Draws
namespace Go.Proofs.Ytmlghkkbkgfjmaa
open Go.RowKit Go.ChangeShapes Go.WideShapes Go.ChangeAt Go.Deep
theorem one_right {k : Int} (h : k = 3 ∨ k = 4 ∨ k = 5 ∨ k = 6) : rightB (Ev.one k) = true := by
  rcases h with rfl | rfl | rfl | rfl <;> decide +kernel
theorem wrap_facts {L : List Ev} (hr : rightsB L = true) (h3 : 3 ≤ L.length) (he : endI L 1 = (L.length : Int) - 1) :
    L = [evs L 0] ++ part L 1 (L.length - 2) ++ [evs L (L.length - 1)] ∧ (evs L 0).kind = 1 ∧ (evs L (L.length - 1)).kind = 2 ∧ Ev.node1 (kinds (part L 1 (L.length - 2)) ++ [2]) = some (part L 1 (L.length - 2)).length := by
  match L, h3 with
  | x :: r, h3 =>
    have hk : kinds (x :: r) = x.kind :: kinds r := rfl
    have hkl : (kinds r).length = r.length := by simp [kinds]
    simp only [List.length_cons] at h3
    simp only [rightsB, Bool.and_eq_true] at hr
    have hd := hr.2
    rw [hk, Ev.docs_cons] at hd
    simp only [Bool.and_eq_true, beq_iff_eq] at hd
    obtain ⟨hx, hd⟩ := hd
    have e1 : endI (x :: r) 1 = (match Ev.node1 (kinds r) with | some m => (1 : Int) + m | none => 1) := by
      rw [endI, if_neg (by simp only [List.length_cons]; omega)]
      rfl
    rw [e1] at he
    simp only [List.length_cons] at he
    cases hn : Ev.node1 (kinds r) with
    | none => rw [hn] at he; simp only at he; omega
    | some m =>
      rw [hn] at he hd
      simp only at he hd
      have hm : m = r.length - 1 := by omega
      have hne : r ≠ [] := by rintro rfl; simp at h3
      have hr0 : r.dropLast ++ [r.getLast hne] = r := List.dropLast_concat_getLast hne
      have hN : part (x :: r) 1 ((x :: r).length - 2) = r.dropLast := by
        simp only [part, List.length_cons, List.drop_succ_cons, List.drop_zero, List.dropLast_eq_take]
        congr 1
      have hy : evs (x :: r) ((x :: r).length - 1) = r.getLast hne := by
        have hlt : r.length - 1 < r.length := by omega
        rw [evs_eq (by simp), List.getLast_eq_getElem]
        simp only [List.length_cons, Nat.add_sub_cancel]
        obtain ⟨q, hq⟩ : ∃ q, r.length = q + 1 := ⟨r.length - 1, by omega⟩
        simp only [hq, List.getElem_cons_succ, Nat.add_sub_cancel]
      have hkr : kinds r = kinds r.dropLast ++ [(r.getLast hne).kind] := by
        conv => lhs; rw [← hr0]
        simp [kinds]
      have hkd : (kinds r.dropLast).length = m := by simp [kinds, hm]
      have hy2 : (r.getLast hne).kind = 2 := by
        rw [hkr, ← hkd, List.drop_left] at hd
        simp only [Bool.and_eq_true, beq_iff_eq] at hd
        exact hd.1
      rw [hN, hy]
      refine ⟨?_, ?_, hy2, ?_⟩
      · rw [show evs (x :: r) 0 = x from rfl, List.append_assoc, hr0]; rfl
      · exact hx
      · rw [hkr, hy2] at hn
        rw [hn, hm]; simp
section
variable {x y : Ev} {N : List Ev} (hx : x.kind = 1) (hy : y.kind = 2) (h : Ev.node1 (kinds N ++ [2]) = some N.length) (hR : rightsB ([x] ++ N ++ [y]) = true)
include hx hy in
theorem wrap_kinds (k : Int) : kinds ([x, Ev.one k] ++ N ++ N ++ [Ev.one (k + 1), y]) = [1, k] ++ kinds N ++ kinds N ++ [k + 1, 2] := by simp [kinds, hx, hy, Ev.one]
include h in
theorem nodeK : Ev.node1 (kinds N ++ [2]) = some (kinds N).length := by rw [h]; simp [kinds]
include hx hy h hR
theorem wrap_right (k : Int) (hk : k = 3 ∨ k = 5) : rightsB ([x, Ev.one k] ++ N ++ N ++ [Ev.one (k + 1), y]) = true := by
  have h0 := hR
  simp only [rightsB, Bool.and_eq_true, List.all_append, List.all_cons, List.all_nil, Bool.and_true] at h0 ⊢
  obtain ⟨⟨⟨a1, a2⟩, a3⟩, _⟩ := h0
  have o1 : rightB (Ev.one k) = true := one_right (by omega)
  have o2 : rightB (Ev.one (k + 1)) = true := one_right (by omega)
  refine ⟨⟨⟨⟨⟨a1, o1⟩, a2⟩, a2⟩, o2, a3⟩, ?_⟩
  rw [wrap_kinds hx hy]
  exact Ev.wrap_docs (nodeK h) k hk
omit hR in
theorem wrap_not : rightsB ([x, Ev.one 5] ++ N ++ [Ev.one 6, y]) = false := by
  have e : kinds ([x, Ev.one 5] ++ N ++ [Ev.one 6, y]) = [1, 5] ++ kinds N ++ [6, 2] := by simp [kinds, hx, hy, Ev.one]
  rw [rightsB, e, Ev.wrap_odd (nodeK h), Bool.and_false]
theorem wrap_depth (k : Int) (hk : k = 3 ∨ k = 5) : depthB ([x, Ev.one k] ++ N ++ N ++ [Ev.one (k + 1), y]) = depthB ([x] ++ N ++ [y]) + 1 := by
  rw [depthB, depthB, wrap_right hx hy h hR k hk, hR]
  simp only [if_true, topN]
  have l1 : ∀ M : List Ev, (kinds M).take M.length = kinds M := fun M => List.take_of_length_le (by simp [kinds])
  have e : kinds ([x] ++ N ++ [y]) = [1] ++ kinds N ++ [2] := by simp [kinds, hx, hy]
  rw [l1, l1, wrap_kinds hx hy, e]
  exact Ev.wrap_top (nodeK h) k hk
omit hR in
theorem wrap_end (k : Int) (hk : k = 3 ∨ k = 5) : endI ([x, Ev.one k] ++ N ++ N ++ [Ev.one (k + 1), y]) 1 = (N.length : Int) + N.length + 3 := by
  have hn := Ev.wrap_node (nodeK h) k hk
  have e : (kinds ([x, Ev.one k] ++ N ++ N ++ [Ev.one (k + 1), y])).drop 1 = [k] ++ kinds N ++ kinds N ++ [k + 1, 2] := by rw [wrap_kinds hx hy]; rfl
  rw [endI, if_neg (by simp; omega)]
  rw [show (1 : Int).toNat = 1 from rfl, e, hn]
  simp [kinds]; omega
end
/-- 'append' of a row of events, as a step of a region that draws. -/
theorem step_append_evs {w : World} {ops : Array Oper} {o : Oper} {a : Act} {K : Act → World → Prop} {Q : Exit → Act → World → Prop} {E : Prop} (hgd : o.guard = none) (s x : Operand)
    (ho : o.op = .call { callee := .builtin .append, args := #[s, x], argTypes := #[22, 22] }) (base : Nat)
    (v : Value) (L M : List Ev) (hs : a.eval s = v) (hown : w.ownsRow base 27 6 v L.length (rows L))
    (ad : Addr) (B c : Nat) (hx : a.eval x = .slice (some ad) M.length c) (hE : EvsAt w B (some ad) M) (hL : L.length ≤ 100000) (hM : M.length ≤ 100000) (hbase : base ≤ w.heap.size)
    (h : ∀ v' w', w'.ownsRow base 27 6 v' (L ++ M).length (rows (L ++ M)) → w.grownBy w' v.ownBlock → K (a.put o.dst v') w') :
    if Region.wanted o (yielded ops a.tmps) = true then Oper.wp Try.prog o a w K Q else E := by
  obtain ⟨i0, hi, hz0, hz1, hz2⟩ := info_parts Try.infoEvent
  have hw : Region.wanted o (yielded ops a.tmps) = true := by simp [Region.wanted, hgd]
  rw [if_pos hw]
  refine wp_append_own w s x _ ho base _ i0 _ 6 72 rfl hi hz0 hz1 hz2 rfl (by decide) v _ _ hs hown ad _ c (rows M) hx (rows_len M) (evsAt_cells hE) (rows_one M) (by unfold maxLen; omega) (by omega) hbase ?_
  intro v' w' h1 h2 _
  exact h v' w' (by rw [List.length_append, rows_append]; exact h1) h2
set_option maxRecDepth 100000 in
set_option maxHeartbeats 4000000 in
theorem eventsWrap_walk (A : Option Addr) (c : Nat) (L : List Ev) (hc : L.length ≤ c) (hm : c ≤ maxLen) (w : World) (hE : EvsAt w w.heap.size A L) (hok : ∀ x ∈ L, Ev.ok x) (_hn : A = none → c = 0) (mp : Bool) :
    Calls Try.prog 3 #[.slice A L.length c, .bool mp] w fun e w' => e = .returned (.bool true) ∧ Below w.heap.size w w' := by
  have hl : L.length ≤ 9223372036854775807 := by unfold maxLen at hm; omega
  clear hm
  go_enter Try.func3, Try.ntmps3
  go_wp2_with fail
  refine (alive_any _).mono ?_
  rintro e w1 ⟨rfl, hb1⟩
  go_wp2_with fail
  refine (Big_any A c L w1 hl ((hE.below hb1 (Nat.le_refl _)).more hb1.size) hok).mono ?_
  rintro e w2 ⟨rfl, rfl⟩
  cases hbig : bigB L with
  | true =>
    go_wp2_with fail
    go_ret
    exact ⟨rfl, hb1⟩
  | false =>
    have hs1 : L.length ≤ 300 := small_of hbig
    have HX : Hid (∀ w1, Below w.heap.size w w1 → EvsAt w1 w1.heap.size A L) := fun w1 h => (hE.below h (Nat.le_refl _)).more h.size
    clear hok hbig
    go_wp2_with fail
    refine (RRight_any A c L w1 (by omega) hc (HX.out _ hb1)).mono ?_
    rintro e w2 ⟨rfl, hb2⟩
    have hb2 := below_then hb1 hb2
    cases hrA : rightsB L with
    | false =>
      go_wp2_with fail
      go_ret
      exact ⟨rfl, hb2⟩
    | true =>
      have hlen : L.length < 3 ∨ 3 ≤ L.length := by omega
      rcases hlen with hlen | hlen
      · have hlen' : (L.length : Int) < 3 := by omega
        go_wp2_with fail
        go_ret
        exact ⟨rfl, hb2⟩
      · have hlen' : ¬ (L.length : Int) < 3 := by omega
        go_wp2_with fail
        refine (REnd_any A c L 1 w2 (by omega) hc (HX.out _ hb2)).mono ?_
        rintro e w3 ⟨rfl, hb3⟩
        have hb3 := below_then hb2 hb3
        have hend : ¬ endI L 1 = (L.length : Int) - 1 ∨ endI L 1 = (L.length : Int) - 1 := by omega
        rcases hend with hend | hend
        · have hen : (endI L 1 != (L.length : Int) - 1) = true := bne_iff_ne.2 hend
          go_wp2_with fail
          go_ret
          exact ⟨rfl, hb3⟩
        · obtain ⟨f1, f2, f3, f4⟩ := wrap_facts hrA hlen hend
          have hLl := hs1
          have hNl : (part L 1 (L.length - 2)).length = L.length - 2 := part_length (by omega)
          have hrA' := hrA
          rw [f1] at hrA'
          obtain ⟨b, off, rfl, hbw, hcE⟩ := hE (by omega)
          obtain ⟨m, hm⟩ : ∃ m : Nat, L.length = m + 1 := ⟨L.length - 1, by omega⟩
          have hm1 : L.length - 1 = m := by omega
          rw [hm1] at f1 f3 hrA'
          have HN : Hid (∀ w4, Below w.heap.size w w4 → EvsAt w4 w4.heap.size (some ⟨b, off + 1 * 6, none⟩) (part L 1 (L.length - 2))) := fun w4 h4 => EvsAt.part (Nat.lt_of_lt_of_le hbw h4.size) (fun k hk => (hcE k hk).below h4 hbw) (by omega)
          have HA : Hid (∀ w4, Below w.heap.size w w4 → EvAt w4 b off (evs L 0)) := fun w4 h4 => by have := (hcE 0 (by omega)).below h4 hbw; simpa using this
          have HY : Hid (∀ w4, Below w.heap.size w w4 → EvAt w4 b (off + m * 6) (evs L m)) := fun w4 h4 => (hcE m (by omega)).below h4 hbw
          have HD1 := Lib.hid (wrap_right f2 f3 f4 hrA')
          have HD2 := Lib.hid (wrap_not f2 f3 f4)
          have HD3 := Lib.hid (wrap_depth f2 f3 f4 hrA')
          have HD4 := Lib.hid (wrap_end f2 f3 f4)
          have HF := Lib.hid (congrArg depthB f1)
          have HLl := Lib.hid hNl
          have HNm : Hid ((part L 1 (L.length - 2)).length = m - 1) := Lib.hid (by omega)
          have HM := Lib.hid hm
          clear f1 f2 f3 f4 hrA hrA' hcE hNl hm hm1 _hn hE
          generalize evs L 0 = x at *
          generalize evs L m = y at *
          generalize part L 1 (L.length - 2) = N at *
          obtain ⟨kd, tx, tg, an, sy, fl⟩ := x
          obtain ⟨kd', tx', tg', an', sy', fl'⟩ := y
          have hck : ¬ c = 1 := by omega
          cases mp with
          | false =>
            obtain ⟨M, hM⟩ : ∃ M, ([⟨kd, tx, tg, an, sy, fl⟩, Ev.one 3] ++ N ++ N ++ [Ev.one 4, ⟨kd', tx', tg', an', sy', fl'⟩] : List Ev) = M := ⟨_, rfl⟩
            have m1 := HD1.out 3 (by omega)
            have m2 := HD3.out 3 (by omega)
            have m3 := HD4.out 3 (by omega)
            simp only [Int.reduceAdd] at m1 m2 m3
            have m4 : M.length = N.length + N.length + 4 := by rw [← hM]; simp; omega
            rw [hM] at m1 m2 m3
            have M1 := Lib.hid m1
            have M2 := Lib.hid m2
            have M3 := Lib.hid m3
            have M4 := Lib.hid m4
            clear m1 m2 m3 m4 HD1 HD3 HD4
            obtain ⟨c0, c1, c2, c3, c4, c5⟩ := HA.out _ hb3
            go_wp2_with fail
            have g0 : IntKind.i64.wrap ((L.length : Int) - 1) = (m : Int) := by rw [IntWalk.i64_in _ (by omega)]; have := HM.out; omega
            have g1 : (1 : Int) ≤ (m : Int) := by have := HM.out; omega
            have g2 : (m : Int) ≤ (c : Int) := by have := HM.out; omega
            have g3 : ((L.length : Int) - 1).toNat = m := by have := HM.out; omega
            have g4 : (0 : Int) ≤ (L.length : Int) - 1 := by omega
            have g5 : (L.length : Int) - 1 < (L.length : Int) := by omega
            clear hend
            have own0 := own_new w3 [⟨kd, tx, tg, an, sy, fl⟩, Ev.one 3] w3.heap.size (Nat.le_refl _) (by simp [maxLen])
            have e0 : (rows [⟨kd, tx, tg, an, sy, fl⟩, Ev.one 3]).toArray = #[.int .i64 kd, .string tx, .string tg, .string an, .int .i64 sy, .bool fl, .int .i64 3, .string ⟨#[]⟩, .string ⟨#[]⟩, .string ⟨#[]⟩, .int .i64 0, .bool false] := rfl
            rw [e0] at own0
            have hbV : Below w.heap.size w _ := hb3.alloc hb3.size (.cells #[.int .i64 kd, .string tx, .string tg, .string an, .int .i64 sy, .bool fl, .int .i64 3, .string ⟨#[]⟩, .string ⟨#[]⟩, .string ⟨#[]⟩, .int .i64 0, .bool false] 27)
            obtain ⟨V, hV⟩ : ∃ V, w3.alloc (.cells #[.int .i64 kd, .string tx, .string tg, .string an, .int .i64 sy, .bool fl, .int .i64 3, .string ⟨#[]⟩, .string ⟨#[]⟩, .string ⟨#[]⟩, .int .i64 0, .bool false] 27) = V := ⟨_, rfl⟩
            rw [hV] at own0 hbV ⊢
            have OWN0 := Lib.hid own0
            clear hV e0 own0 c0 c1 c2 c3 c4 c5
            have hzV : w3.heap.size ≤ V.heap.size := OWN0.out.2.elim (fun h => by cases h.1) (fun ⟨g, _, _, _, hg, hb, _⟩ => Nat.le_of_lt (Nat.lt_of_le_of_lt hg (Array.getElem?_eq_some_iff.1 hb).1))
            go_region_law (first
              | (refine step_append_evs rfl (.tmp 47) (.tmp 51) rfl w3.heap.size (.slice (some ⟨w3.heap.size, 0, none⟩) 2 2) [⟨kd, tx, tg, an, sy, fl⟩, Ev.one 3] N (by simp [Act.eval, Act.put]) OWN0.out.drew ⟨b, off + 6, none⟩ _ (c - 1) (by simp [Act.eval, Act.put, HNm.out]) (HN.out V.drew hbV.drew) (by simp) (by have := HLl.out; omega) hzV ?_; intro v1 V1 hown1 hgrow1)
              | (refine step_append_evs rfl (.tmp 52) (.tmp 56) rfl w3.heap.size v1 _ N (by simp [Act.eval]) hown1 ⟨b, off + 6, none⟩ _ (c - 1) (by simp [Act.eval, HNm.out]) (HN.out V1 (hbV.drew.grown hgrow1 (Nat.le_trans hb3.size hzV) (fun _ h => Nat.le_trans hb3.size (OWN0.out.lt _ h).1))) (by have := HLl.out; simp; omega) (by have := HLl.out; omega) (Nat.le_trans hzV hgrow1.size) ?_; intro v2 V2 hown2 hgrow2))
            have hbV1 := hbV.drew.grown hgrow1 (Nat.le_trans hb3.size hzV) (fun _ h => Nat.le_trans hb3.size (OWN0.out.lt _ h).1)
            have hzV1 : w3.heap.size ≤ V1.heap.size := Nat.le_trans hzV hgrow1.size
            have hbV2 := hbV1.grown hgrow2 (Nat.le_trans hb3.size hzV1) (fun _ h => Nat.le_trans hb3.size (hown1.lt _ h).1)
            have hzV2 : w3.heap.size ≤ V2.heap.size := Nat.le_trans hzV1 hgrow2.size
            have OWN2 := Lib.hid hown2
            clear hown2 hgrow2 hgrow1 hown1 hbV1 hzV1 hbV OWN0
            obtain ⟨c0, c1, c2, c3, c4, c5⟩ := HY.out _ hbV2
            simp only at c0 c1 c2 c3 c4 c5
            have g6 : (m : Int) < (L.length : Int) := by have := HM.out; omega
            clear g3 g4 g5
            go_wp2_with (at_builtin; go_loud (refine wpList_append_evs rfl _ _ rfl w3.heap.size v2 ([⟨kd, tx, tg, an, sy, fl⟩, Ev.one 3] ++ N ++ N) [Ev.one 4, ⟨kd', tx', tg', an', sy', fl'⟩] rfl (OWN2.out.alloc _) (some ⟨V2.heap.size, 0, none⟩) _ 2 rfl (new_evs V2 [Ev.one 4, ⟨kd', tx', tg', an', sy', fl'⟩] rfl) (by simp) (by simp) (by have := HLl.out; simp; omega) (by simp) (by simp; omega) ?_); intro v3 V3 hown3 hgrow3; have hbV3 := (hbV2.alloc hbV2.size _).grown hgrow3 (by have := hbV2.size; simp; omega) (fun _ h => Nat.le_trans hb3.size (OWN2.out.lt _ h).1); have hzV3 : w3.heap.size ≤ V3.heap.size := Nat.le_trans hzV2 (Nat.le_trans (by simp) hgrow3.size); clear hgrow3 OWN2 c0 c1 c2 c3 c4 c5; rw [hM] at hown3; obtain ⟨A3, cp3, rfl, hc3, hE3⟩ := evsAt_own hown3; have HE3 := Lib.hid hE3; clear hown3 hE3 hc3; obtain ⟨c0, c1, c2, c3, c4, c5⟩ := HA.out _ hbV3; simp only at c0 c1 c2 c3 c4 c5)
            have g7 : 0 < L.length := by omega
            have hsz3 := hbV3.size
            go_region_law (refine step_append_evs rfl (.tmp 73) (.tmp 77) rfl V3.heap.size (.slice (some ⟨V3.heap.size, 0, none⟩) 2 2) [⟨kd, tx, tg, an, sy, fl⟩, Ev.one 5] N (by simp [Act.eval]) (own_new V3.drew [⟨kd, tx, tg, an, sy, fl⟩, Ev.one 5] V3.heap.size (Nat.le_refl _) (by simp [maxLen])) ⟨b, off + 6, none⟩ _ (c - 1) (by simp [Act.eval, HNm.out]) (HN.out _ (hbV3.drew.alloc hsz3 _)) (by simp) (by have := HLl.out; omega) (by simp) ?_; intro v4 V4 hown4 hgrow4)
            have hk4 : Below V3.heap.size V3 V4 := ((Below.refl _ V3).drew.alloc (Nat.le_refl _) _).grown hgrow4 (by simp) (fun _ h => by cases h; exact Nat.le_refl _)
            have hbV4 := below_then hbV3 (hk4.mono (Nat.le_refl _))
            have OWN4 := Lib.hid hown4
            have hz4 := hk4.size
            clear hown4 hgrow4 g7 c0 c1 c2 c3 c4 c5
            obtain ⟨c0, c1, c2, c3, c4, c5⟩ := HY.out _ hbV4
            simp only at c0 c1 c2 c3 c4 c5
            obtain ⟨O, hO⟩ : ∃ O, ([⟨kd, tx, tg, an, sy, fl⟩, Ev.one 5] ++ N ++ [Ev.one 6, ⟨kd', tx', tg', an', sy', fl'⟩] : List Ev) = O := ⟨_, rfl⟩
            have o1 := HD2.out
            have o2 : O.length = N.length + 4 := by rw [← hO]; simp
            rw [hO] at o1
            have O1 := Lib.hid o1
            have O2 := Lib.hid o2
            clear o1 o2
            go_wp2_with (at_builtin; refine wpList_append_evs rfl _ _ rfl V3.heap.size v4 ([⟨kd, tx, tg, an, sy, fl⟩, Ev.one 5] ++ N) [Ev.one 6, ⟨kd', tx', tg', an', sy', fl'⟩] rfl (OWN4.out.alloc _) (some ⟨V4.heap.size, 0, none⟩) _ 2 rfl (new_evs V4 [Ev.one 6, ⟨kd', tx', tg', an', sy', fl'⟩] rfl) (by simp) (by simp) (by have := HLl.out; simp; omega) (by simp) (by simp; omega) ?_; intro v5 V5 hown5 hgrow5; have hk5 := (hk4.alloc hz4 _).grown hgrow5 (by simp; omega) (fun _ h => (OWN4.out.lt _ h).1); have hbV5 := below_then hbV3 (hk5.mono (Nat.le_refl _)); clear hgrow5 OWN4 c0 c1 c2 c3 c4 c5; rw [hO] at hown5; obtain ⟨A5, cp5, rfl, hc5, hE5⟩ := evsAt_own hown5; have HE5 := Lib.hid hE5; clear hown5 hE5 hc5)
            have hml : M.length ≤ 100000 := by rw [M4.out]; have := HLl.out; omega
            have hol : O.length ≤ 100000 := by rw [O2.out]; have := HLl.out; omega
            have hdL := M2.out.trans (congrArg (· + 1) HF.out.symm)
            have hdb : 0 ≤ depthB L ∧ depthB L ≤ 300 := by
              have := topN_bound L L.length
              unfold depthB; split <;> omega
            obtain ⟨dl, hdl⟩ : ∃ dl, depthB L = dl := ⟨_, rfl⟩
            rw [hdl] at hdL hdb
            have HM4 : Hid ((M.length : Int) = (N.length : Int) + N.length + 4) := by show _ = _; rw [M4.out]; omega
            have hnl := HLl.out
            have R1 := Right_any A3 cp3 M V5 hml ((HE3.out.below hk5 (Nat.le_refl _)).more hk5.size)
            rw [M1.out] at R1
            refine R1.mono ?_
            rintro e w6 ⟨rfl, hl6⟩
            clear R1
            have hk6 : Below V3.heap.size V3 w6 := hk5.trans (hl6.mono hk5.size)
            have hm6 := hbV5.trans (hl6.mono hbV5.size)
            go_wp2_with fail
            have R2 := Depth_any A3 cp3 M w6 hml ((HE3.out.below hk6 (Nat.le_refl _)).more hk6.size)
            rw [hdL] at R2
            refine R2.mono ?_
            rintro e w7 ⟨rfl, hl7⟩
            clear R2
            have hl7' := below_then hl6 hl7
            have hk7 : Below V3.heap.size V3 w7 := hk5.trans (hl7'.mono hk5.size)
            have hm7 := hbV5.trans (hl7'.mono hbV5.size)
            go_wp2_with fail
            have R3 := Depth_any (some ⟨b, off, none⟩) c L w7 (by omega) (HX.out _ hm7)
            rw [hdl] at R3
            refine R3.mono ?_
            rintro e w8 ⟨rfl, hl8⟩
            clear R3
            have hl8' := below_then hl7' hl8
            have hk8 : Below V3.heap.size V3 w8 := hk5.trans (hl8'.mono hk5.size)
            have hm8 := hbV5.trans (hl8'.mono hbV5.size)
            go_wp2_with fail
            have R4 := End_any A3 cp3 M 1 w8 hml ((HE3.out.below hk8 (Nat.le_refl _)).more hk8.size)
            rw [M3.out, show (N.length : Int) + N.length + 3 = (M.length : Int) - 1 by have := HM4.out; omega] at R4
            refine R4.mono ?_
            rintro e w9 ⟨rfl, hl9⟩
            clear R4
            have hl9' := below_then hl8' hl9
            have hm9 := hbV5.trans (hl9'.mono hbV5.size)
            clear g0
            go_wp2_with fail
            have R5 := Right_any A5 cp5 O w9 hol ((HE5.out.below hl9' (Nat.le_refl _)).more hl9'.size)
            rw [O1.out] at R5
            refine R5.mono ?_
            rintro e w10 ⟨rfl, hl10⟩
            clear R5
            have hm10 := hm9.trans (hl10.mono hm9.size)
            go_wp2_with fail
            go_ret
            exact ⟨rfl, hm10⟩
          | true =>
            obtain ⟨M, hM⟩ : ∃ M, ([⟨kd, tx, tg, an, sy, fl⟩, Ev.one 5] ++ N ++ N ++ [Ev.one 6, ⟨kd', tx', tg', an', sy', fl'⟩] : List Ev) = M := ⟨_, rfl⟩
            have m1 := HD1.out 5 (by omega)
            have m2 := HD3.out 5 (by omega)
            have m3 := HD4.out 5 (by omega)
            simp only [Int.reduceAdd] at m1 m2 m3
            have m4 : M.length = N.length + N.length + 4 := by rw [← hM]; simp; omega
            rw [hM] at m1 m2 m3
            have M1 := Lib.hid m1
            have M2 := Lib.hid m2
            have M3 := Lib.hid m3
            have M4 := Lib.hid m4
            clear m1 m2 m3 m4 HD1 HD3 HD4
            obtain ⟨c0, c1, c2, c3, c4, c5⟩ := HA.out _ hb3
            go_wp2_with fail
            have g0 : IntKind.i64.wrap ((L.length : Int) - 1) = (m : Int) := by rw [IntWalk.i64_in _ (by omega)]; have := HM.out; omega
            have g1 : (1 : Int) ≤ (m : Int) := by have := HM.out; omega
            have g2 : (m : Int) ≤ (c : Int) := by have := HM.out; omega
            have g3 : ((L.length : Int) - 1).toNat = m := by have := HM.out; omega
            have g4 : (0 : Int) ≤ (L.length : Int) - 1 := by omega
            have g5 : (L.length : Int) - 1 < (L.length : Int) := by omega
            clear hend
            have own0 := own_new w3 [⟨kd, tx, tg, an, sy, fl⟩, Ev.one 5] w3.heap.size (Nat.le_refl _) (by simp [maxLen])
            have e0 : (rows [⟨kd, tx, tg, an, sy, fl⟩, Ev.one 5]).toArray = #[.int .i64 kd, .string tx, .string tg, .string an, .int .i64 sy, .bool fl, .int .i64 5, .string ⟨#[]⟩, .string ⟨#[]⟩, .string ⟨#[]⟩, .int .i64 0, .bool false] := rfl
            rw [e0] at own0
            have hbV : Below w.heap.size w _ := hb3.alloc hb3.size (.cells #[.int .i64 kd, .string tx, .string tg, .string an, .int .i64 sy, .bool fl, .int .i64 5, .string ⟨#[]⟩, .string ⟨#[]⟩, .string ⟨#[]⟩, .int .i64 0, .bool false] 27)
            obtain ⟨V, hV⟩ : ∃ V, w3.alloc (.cells #[.int .i64 kd, .string tx, .string tg, .string an, .int .i64 sy, .bool fl, .int .i64 5, .string ⟨#[]⟩, .string ⟨#[]⟩, .string ⟨#[]⟩, .int .i64 0, .bool false] 27) = V := ⟨_, rfl⟩
            rw [hV] at own0 hbV ⊢
            have OWN0 := Lib.hid own0
            clear hV e0 own0 c0 c1 c2 c3 c4 c5
            have hzV : w3.heap.size ≤ V.heap.size := OWN0.out.2.elim (fun h => by cases h.1) (fun ⟨g, _, _, _, hg, hb, _⟩ => Nat.le_of_lt (Nat.lt_of_le_of_lt hg (Array.getElem?_eq_some_iff.1 hb).1))
            go_region_law (first
              | (refine step_append_evs rfl (.tmp 47) (.tmp 51) rfl w3.heap.size (.slice (some ⟨w3.heap.size, 0, none⟩) 2 2) [⟨kd, tx, tg, an, sy, fl⟩, Ev.one 5] N (by simp [Act.eval, Act.put]) OWN0.out.drew ⟨b, off + 6, none⟩ _ (c - 1) (by simp [Act.eval, Act.put, HNm.out]) (HN.out V.drew hbV.drew) (by simp) (by have := HLl.out; omega) hzV ?_; intro v1 V1 hown1 hgrow1)
              | (refine step_append_evs rfl (.tmp 52) (.tmp 56) rfl w3.heap.size v1 _ N (by simp [Act.eval]) hown1 ⟨b, off + 6, none⟩ _ (c - 1) (by simp [Act.eval, HNm.out]) (HN.out V1 (hbV.drew.grown hgrow1 (Nat.le_trans hb3.size hzV) (fun _ h => Nat.le_trans hb3.size (OWN0.out.lt _ h).1))) (by have := HLl.out; simp; omega) (by have := HLl.out; omega) (Nat.le_trans hzV hgrow1.size) ?_; intro v2 V2 hown2 hgrow2))
            have hbV1 := hbV.drew.grown hgrow1 (Nat.le_trans hb3.size hzV) (fun _ h => Nat.le_trans hb3.size (OWN0.out.lt _ h).1)
            have hzV1 : w3.heap.size ≤ V1.heap.size := Nat.le_trans hzV hgrow1.size
            have hbV2 := hbV1.grown hgrow2 (Nat.le_trans hb3.size hzV1) (fun _ h => Nat.le_trans hb3.size (hown1.lt _ h).1)
            have hzV2 : w3.heap.size ≤ V2.heap.size := Nat.le_trans hzV1 hgrow2.size
            have OWN2 := Lib.hid hown2
            clear hown2 hgrow2 hgrow1 hown1 hbV1 hzV1 hbV OWN0
            obtain ⟨c0, c1, c2, c3, c4, c5⟩ := HY.out _ hbV2
            simp only at c0 c1 c2 c3 c4 c5
            have g6 : (m : Int) < (L.length : Int) := by have := HM.out; omega
            clear g3 g4 g5
            go_wp2_with (at_builtin; go_loud (refine wpList_append_evs rfl _ _ rfl w3.heap.size v2 ([⟨kd, tx, tg, an, sy, fl⟩, Ev.one 5] ++ N ++ N) [Ev.one 6, ⟨kd', tx', tg', an', sy', fl'⟩] rfl (OWN2.out.alloc _) (some ⟨V2.heap.size, 0, none⟩) _ 2 rfl (new_evs V2 [Ev.one 6, ⟨kd', tx', tg', an', sy', fl'⟩] rfl) (by simp) (by simp) (by have := HLl.out; simp; omega) (by simp) (by simp; omega) ?_); intro v3 V3 hown3 hgrow3; have hbV3 := (hbV2.alloc hbV2.size _).grown hgrow3 (by have := hbV2.size; simp; omega) (fun _ h => Nat.le_trans hb3.size (OWN2.out.lt _ h).1); have hzV3 : w3.heap.size ≤ V3.heap.size := Nat.le_trans hzV2 (Nat.le_trans (by simp) hgrow3.size); clear hgrow3 OWN2 c0 c1 c2 c3 c4 c5; rw [hM] at hown3; obtain ⟨A3, cp3, rfl, hc3, hE3⟩ := evsAt_own hown3; have HE3 := Lib.hid hE3; clear hown3 hE3 hc3; obtain ⟨c0, c1, c2, c3, c4, c5⟩ := HA.out _ hbV3; simp only at c0 c1 c2 c3 c4 c5)
            have g7 : 0 < L.length := by omega
            have hsz3 := hbV3.size
            go_region_law (refine step_append_evs rfl (.tmp 73) (.tmp 77) rfl V3.heap.size (.slice (some ⟨V3.heap.size, 0, none⟩) 2 2) [⟨kd, tx, tg, an, sy, fl⟩, Ev.one 5] N (by simp [Act.eval]) (own_new V3.drew [⟨kd, tx, tg, an, sy, fl⟩, Ev.one 5] V3.heap.size (Nat.le_refl _) (by simp [maxLen])) ⟨b, off + 6, none⟩ _ (c - 1) (by simp [Act.eval, HNm.out]) (HN.out _ (hbV3.drew.alloc hsz3 _)) (by simp) (by have := HLl.out; omega) (by simp) ?_; intro v4 V4 hown4 hgrow4)
            have hk4 : Below V3.heap.size V3 V4 := ((Below.refl _ V3).drew.alloc (Nat.le_refl _) _).grown hgrow4 (by simp) (fun _ h => by cases h; exact Nat.le_refl _)
            have hbV4 := below_then hbV3 (hk4.mono (Nat.le_refl _))
            have OWN4 := Lib.hid hown4
            have hz4 := hk4.size
            clear hown4 hgrow4 g7 c0 c1 c2 c3 c4 c5
            obtain ⟨c0, c1, c2, c3, c4, c5⟩ := HY.out _ hbV4
            simp only at c0 c1 c2 c3 c4 c5
            obtain ⟨O, hO⟩ : ∃ O, ([⟨kd, tx, tg, an, sy, fl⟩, Ev.one 5] ++ N ++ [Ev.one 6, ⟨kd', tx', tg', an', sy', fl'⟩] : List Ev) = O := ⟨_, rfl⟩
            have o1 := HD2.out
            have o2 : O.length = N.length + 4 := by rw [← hO]; simp
            rw [hO] at o1
            have O1 := Lib.hid o1
            have O2 := Lib.hid o2
            clear o1 o2
            go_wp2_with (at_builtin; refine wpList_append_evs rfl _ _ rfl V3.heap.size v4 ([⟨kd, tx, tg, an, sy, fl⟩, Ev.one 5] ++ N) [Ev.one 6, ⟨kd', tx', tg', an', sy', fl'⟩] rfl (OWN4.out.alloc _) (some ⟨V4.heap.size, 0, none⟩) _ 2 rfl (new_evs V4 [Ev.one 6, ⟨kd', tx', tg', an', sy', fl'⟩] rfl) (by simp) (by simp) (by have := HLl.out; simp; omega) (by simp) (by simp; omega) ?_; intro v5 V5 hown5 hgrow5; have hk5 := (hk4.alloc hz4 _).grown hgrow5 (by simp; omega) (fun _ h => (OWN4.out.lt _ h).1); have hbV5 := below_then hbV3 (hk5.mono (Nat.le_refl _)); clear hgrow5 OWN4 c0 c1 c2 c3 c4 c5; rw [hO] at hown5; obtain ⟨A5, cp5, rfl, hc5, hE5⟩ := evsAt_own hown5; have HE5 := Lib.hid hE5; clear hown5 hE5 hc5)
            have hml : M.length ≤ 100000 := by rw [M4.out]; have := HLl.out; omega
            have hol : O.length ≤ 100000 := by rw [O2.out]; have := HLl.out; omega
            have hdL := M2.out.trans (congrArg (· + 1) HF.out.symm)
            have hdb : 0 ≤ depthB L ∧ depthB L ≤ 300 := by
              have := topN_bound L L.length
              unfold depthB; split <;> omega
            obtain ⟨dl, hdl⟩ : ∃ dl, depthB L = dl := ⟨_, rfl⟩
            rw [hdl] at hdL hdb
            have HM4 : Hid ((M.length : Int) = (N.length : Int) + N.length + 4) := by show _ = _; rw [M4.out]; omega
            have hnl := HLl.out
            have R1 := Right_any A3 cp3 M V5 hml ((HE3.out.below hk5 (Nat.le_refl _)).more hk5.size)
            rw [M1.out] at R1
            refine R1.mono ?_
            rintro e w6 ⟨rfl, hl6⟩
            clear R1
            have hk6 : Below V3.heap.size V3 w6 := hk5.trans (hl6.mono hk5.size)
            have hm6 := hbV5.trans (hl6.mono hbV5.size)
            go_wp2_with fail
            have R2 := Depth_any A3 cp3 M w6 hml ((HE3.out.below hk6 (Nat.le_refl _)).more hk6.size)
            rw [hdL] at R2
            refine R2.mono ?_
            rintro e w7 ⟨rfl, hl7⟩
            clear R2
            have hl7' := below_then hl6 hl7
            have hk7 : Below V3.heap.size V3 w7 := hk5.trans (hl7'.mono hk5.size)
            have hm7 := hbV5.trans (hl7'.mono hbV5.size)
            go_wp2_with fail
            have R3 := Depth_any (some ⟨b, off, none⟩) c L w7 (by omega) (HX.out _ hm7)
            rw [hdl] at R3
            refine R3.mono ?_
            rintro e w8 ⟨rfl, hl8⟩
            clear R3
            have hl8' := below_then hl7' hl8
            have hk8 : Below V3.heap.size V3 w8 := hk5.trans (hl8'.mono hk5.size)
            have hm8 := hbV5.trans (hl8'.mono hbV5.size)
            go_wp2_with fail
            have R4 := End_any A3 cp3 M 1 w8 hml ((HE3.out.below hk8 (Nat.le_refl _)).more hk8.size)
            rw [M3.out, show (N.length : Int) + N.length + 3 = (M.length : Int) - 1 by have := HM4.out; omega] at R4
            refine R4.mono ?_
            rintro e w9 ⟨rfl, hl9⟩
            clear R4
            have hl9' := below_then hl8' hl9
            have hm9 := hbV5.trans (hl9'.mono hbV5.size)
            clear g0
            go_wp2_with fail
            have R5 := Right_any A5 cp5 O w9 hol ((HE5.out.below hl9' (Nat.le_refl _)).more hl9'.size)
            rw [O1.out] at R5
            refine R5.mono ?_
            rintro e w10 ⟨rfl, hl10⟩
            clear R5
            have hm10 := hm9.trans (hl10.mono hm9.size)
            go_wp2_with fail
            go_ret
            exact ⟨rfl, hm10⟩
end Go.Proofs.Ytmlghkkbkgfjmaa
