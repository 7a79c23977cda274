/- The reference's May, and the law LegalTells. Conditions: utf8's tables lie in the world; a text is no longer than a million bytes. -/
import Derived.Test.YtnofdlpifpjlbaaDoorLgR
import Derived.Test.YtnofdlpifpjlbaaDoorLgL
namespace Go.Proofs.YtnofdlpifpjlbaaDoor
open Go.RowKit
theorem empty_text {s : ByteArray} (h : s.size = 0) : s = ⟨#[]⟩ := by
  cases s with
  | mk d => rw [Array.eq_empty_of_size_eq_zero (show d.size = 0 from h)]
theorem Dec.len0 {s : ByteArray} {l : List Int} (h : Dec s s.size l) : l.length = 0 ↔ s.size = 0 := by
  constructor
  · intro h0
    obtain rfl : l = [] := List.eq_nil_of_length_eq_zero h0
    have hh : ∀ (i : Nat) (m : List Int), Dec s i m → m = [] → i = 0 := by
      intro i m hd hm
      cases hd with
      | nil => rfl
      | step _ _ _ => simp at hm
    exact hh _ _ h rfl
  · intro h0
    have := h.valid.2.2
    omega
set_option maxRecDepth 100000 in
set_option maxHeartbeats 4000000 in
theorem RMay_any (style : Int) (s : ByteArray) (flow : Bool) (l : List Int) (w : World) (hs : s.size ≤ 1000000) (hD : Lib.validD s.data.toList = true → Dec s s.size l) :
    Calls Tryd.prog 12 #[.int .i64 style, .string s, .bool flow] w fun e w' => e = .returned (.bool (Lib.validD s.data.toList && mayB style s l flow)) ∧ Below w.heap.size w w' := by
  have hX := Text_any s w hs
  obtain ⟨b, hb⟩ : ∃ b, Lib.validD s.data.toList = b := ⟨_, rfl⟩
  cases b with
  | false =>
    have HT : Hid (Calls Tryd.prog 7 #[.string s] w fun e w' => ∃ u, e = .returned (.tuple #[u, .bool false]) ∧ Below w.heap.size w w') := hX.mono (by
      rintro e w' ⟨u, v, rfl, hv, _, hB⟩; exact ⟨u, by rw [hv, hb], hB⟩)
    rw [hb]
    clear hX hD hb
    go_enter Tryd.func12, Tryd.ntmps12
    go_wp2_with (go_at_call 7; refine HT.out.mono ?_; rintro e w1 ⟨u, rfl, hb1⟩; have Hbc := Lib.hid hb1; clear hb1)
    go_ret
    exact ⟨rfl, Hbc.out⟩
  | true =>
    have hd := hD hb
    have HL : Hid (l.length ≤ 1000000) := by have := hd.valid.2.2; show _ ≤ _; omega
    have HT : Hid (Calls Tryd.prog 7 #[.string s] w fun e w' => ∃ A c, e = .returned (.tuple #[.slice A l.length c, .bool true]) ∧ IntsAt w' w'.heap.size A l ∧ Below w.heap.size w w') := hX.mono (by
      rintro e w' ⟨u, v, rfl, hv, hh, hB⟩
      have hv2 : v = true := by rw [hv, hb]
      obtain ⟨A, c, m, rfl, hm, hI⟩ := hh hv2
      obtain rfl := hm.one hd
      exact ⟨A, c, by rw [hv2], hI, hB⟩)
    have HB : Hid (∀ W A c, IntsAt W W.heap.size A l → Calls Tryd.prog 26 #[.slice A l.length c, .bool true] W fun e w' => e = .returned (.bool (begB l true)) ∧ Below W.heap.size W w') := fun W A c h => (RBegins_any A c l true W (by have := HL.out; omega) h).mono (by rintro e w' ⟨h1, h2⟩; exact ⟨h1, by first | exact h2 | (subst h2; exact Below.refl _ _)⟩)
    have HE : Hid (∀ W A c, IntsAt W W.heap.size A l → Calls Tryd.prog 27 #[.slice A l.length c, .bool true] W fun e w' => e = .returned (.int .i64 (endN l true)) ∧ Below W.heap.size W w') := fun W A c h => (REnd_any A c l true W (by have := HL.out; omega) h).mono (by rintro e w' ⟨h1, h2⟩; exact ⟨h1, by first | exact h2 | (subst h2; exact Below.refl _ _)⟩)
    have HS : Hid (∀ W A c, IntsAt W W.heap.size A l → Calls Tryd.prog 29 #[.slice A l.length c] W fun e w' => e = .returned (.bool (singleB l)) ∧ W = w') := fun W A c h => RSingle_any A c l W HL.out h
    have HF : Hid (∀ W A c, IntsAt W W.heap.size A l → Calls Tryd.prog 31 #[.slice A l.length c] W fun e w' => e = .returned (.bool (foldableB l)) ∧ W = w') := fun W A c h => Rfoldable_any A c l W HL.out h
    have HP1 : Hid (∀ W, Calls Tryd.prog 28 #[.string s, .string ⟨#[45, 45, 45]⟩] W fun e w' => e = .returned (.bool (startsB s [45, 45, 45])) ∧ W = w') := fun W => rbegins_any s 45 45 45 W hs
    have HP2 : Hid (∀ W, Calls Tryd.prog 28 #[.string s, .string ⟨#[46, 46, 46]⟩] W fun e w' => e = .returned (.bool (startsB s [46, 46, 46])) ∧ W = w') := fun W => rbegins_any s 46 46 46 W hs
    have HL0 := Lib.hid hd.len0
    have hcs : style = 1 ∨ style = 2 ∨ style = 3 ∨ style = 4 ∨ style = 5 ∨ (style ≠ 1 ∧ style ≠ 2 ∧ style ≠ 3 ∧ style ≠ 4 ∧ style ≠ 5) := by omega
    rw [hb]
    obtain ⟨R, hR⟩ : ∃ R, (true && mayB style s l flow) = R := ⟨_, rfl⟩
    rw [hR]
    clear hX hD hb hd
    rcases hcs with rfl | rfl | rfl | hst
    · obtain ⟨n, hn⟩ : ∃ n, endN l true = n := ⟨_, rfl⟩
      have HR : Hid (R = (begB l true && decide (n = l.length) && singleB l && !startsB s [45, 45, 45] && !startsB s [46, 46, 46])) := by show _ = _; rw [← hR, ← hn]; rfl
      rw [hn] at HE
      obtain ⟨b1, h1⟩ : ∃ b, begB l true = b := ⟨_, rfl⟩
      rw [h1] at HB HR
      obtain ⟨b2, h2⟩ : ∃ b, singleB l = b := ⟨_, rfl⟩
      rw [h2] at HS HR
      obtain ⟨b3, h3⟩ : ∃ b, startsB s [45, 45, 45] = b := ⟨_, rfl⟩
      rw [h3] at HP1 HR
      obtain ⟨b4, h4⟩ : ∃ b, startsB s [46, 46, 46] = b := ⟨_, rfl⟩
      rw [h4] at HP2 HR
      clear hR hn h1 h2 h3 h4 HF
      have hcs : (n = l.length ∧ ((n : Int) != (l.length : Int)) = false) ∨ (n ≠ l.length ∧ ((n : Int) != (l.length : Int)) = true) := by
        by_cases h : n = l.length
        · exact .inl ⟨h, by rw [bne_eq_false_iff_eq]; omega⟩
        · exact .inr ⟨h, bne_iff_ne.2 (by omega)⟩
      rcases hcs with ⟨hE, hne⟩ | ⟨hE, hne⟩
      all_goals rcases (show b1 = false ∨ (b1 = true ∧ b3 = true) ∨ (b1 = true ∧ b3 = false ∧ b4 = true) ∨ (b1 = true ∧ b3 = false ∧ b4 = false) by cases b1 <;> cases b3 <;> cases b4 <;> simp) with rfl | ⟨rfl, rfl⟩ | ⟨rfl, rfl, rfl⟩ | ⟨rfl, rfl, rfl⟩
      all_goals
        have HR2 := Lib.hid (HR.out.trans (by simp only [hE]; rfl))
        clear HR hE
        go_enter Tryd.func12, Tryd.ntmps12
        go_wp2_with (first
          | (go_at_call 28; with_reducible refine (HP1.out _).mono ?_; rintro e wn ⟨rfl, rfl⟩)
          | (go_at_call 28; with_reducible refine (HP2.out _).mono ?_; rintro e wn ⟨rfl, rfl⟩)
          | (go_at_call 29; refine (HS.out _ A c HI.out).mono ?_; rintro e wn ⟨rfl, rfl⟩)
          | (go_at_call 27; refine (HE.out _ A c HI.out).mono ?_; rintro e wn ⟨rfl, hbn⟩; have HIn := Lib.hid ((HI.out.below hbn (Nat.le_refl _)).more hbn.size); have Hbn := Lib.hid (below_two Hbc.out hbn); clear HI Hbc hbn; have HI := HIn; have Hbc := Hbn; clear HIn Hbn)
          | (go_at_call 26; refine (HB.out _ A c HI.out).mono ?_; rintro e wn ⟨rfl, hbn⟩; have HIn := Lib.hid ((HI.out.below hbn (Nat.le_refl _)).more hbn.size); have Hbn := Lib.hid (below_two Hbc.out hbn); clear HI Hbc hbn; have HI := HIn; have Hbc := Hbn; clear HIn Hbn)
          | (go_at_call 7; with_reducible refine HT.out.mono ?_; rintro e w1 ⟨A, c, rfl, hI1, hb1⟩; have HI := Lib.hid hI1; have Hbc := Lib.hid hb1; clear hI1 hb1))
        go_ret
        exact ⟨ret_bool (by rw [HR2.out]; first | rfl | simp), Hbc.out⟩
    · have HR : Hid (R = singleB l) := by show _ = _; rw [← hR]; rfl
      clear hR HE HB HP1 HP2 HF
      go_enter Tryd.func12, Tryd.ntmps12
      go_wp2_with (first
        | (go_at_call 29; refine (HS.out _ A c HI.out).mono ?_; rintro e wn ⟨rfl, rfl⟩)
        | (go_at_call 7; with_reducible refine HT.out.mono ?_; rintro e w1 ⟨A, c, rfl, hI1, hb1⟩; have HI := Lib.hid hI1; have Hbc := Lib.hid hb1; clear hI1 hb1))
      go_ret
      exact ⟨ret_bool HR.out.symm, Hbc.out⟩
    · have HR : Hid (R = true) := by show _ = _; rw [← hR]; rfl
      clear hR HE HB HP1 HP2 HF HS
      go_enter Tryd.func12, Tryd.ntmps12
      go_wp2_with (go_at_call 7; with_reducible refine HT.out.mono ?_; rintro e w1 ⟨A, c, rfl, hI1, hb1⟩; have HI := Lib.hid hI1; have Hbc := Lib.hid hb1; clear hI1 hb1)
      go_ret
      exact ⟨ret_bool HR.out.symm, Hbc.out⟩
    · clear HE HB HP1 HP2 HS
      have hfl0 : flow = true ∨ (flow = false ∧ s.size = 0) ∨ (flow = false ∧ s.size ≠ 0) := by
        cases flow
        · exact (Nat.eq_zero_or_pos s.size).elim (fun h => .inr (.inl ⟨rfl, h⟩)) (fun h => .inr (.inr ⟨rfl, by omega⟩))
        · exact .inl rfl
      have hst2 : ((style = 4 ∨ style = 5) ∧ (flow = true ∨ (flow = false ∧ s.size = 0) ∨ (flow = false ∧ s.size ≠ 0))) ∨ (style ≠ 1 ∧ style ≠ 2 ∧ style ≠ 3 ∧ style ≠ 4 ∧ style ≠ 5) := by
        rcases hst with h | h | h
        · left; exact ⟨.inl h, hfl0⟩
        · left; exact ⟨.inr h, hfl0⟩
        · exact .inr h
      clear hst hfl0
      rcases hst2 with ⟨hst, hfl⟩ | ⟨e1, e2, e3, e4, e5⟩
      · rcases hfl with rfl | ⟨rfl, h0⟩ | ⟨rfl, h0⟩
        · have HR : Hid (R = false) := by show _ = _; rw [← hR]; rcases hst with rfl | rfl <;> simp [mayB, literalB]
          clear hR HF
          rcases hst with rfl | rfl
          all_goals
            go_enter Tryd.func12, Tryd.ntmps12
            go_wp2_with (go_at_call 7; with_reducible refine HT.out.mono ?_; rintro e w1 ⟨A, c, rfl, hI1, hb1⟩; have HI := Lib.hid hI1; have Hbc := Lib.hid hb1; clear hI1 hb1)
            go_ret
            exact ⟨ret_bool HR.out.symm, Hbc.out⟩
        · have HR : Hid (R = false) := by show _ = _; rw [← hR]; have := HL0.out.2 h0; rcases hst with rfl | rfl <;> simp [mayB, literalB, this]
          have hE : s.toList.isEmpty = true := by rw [empty_str]; simp [h0]
          clear hR HF h0
          rcases hst with rfl | rfl
          all_goals
            go_enter Tryd.func12, Tryd.ntmps12
            go_wp2_with (go_at_call 7; with_reducible refine HT.out.mono ?_; rintro e w1 ⟨A, c, rfl, hI1, hb1⟩; have HI := Lib.hid hI1; have Hbc := Lib.hid hb1; clear hI1 hb1)
            go_ret
            exact ⟨ret_bool HR.out.symm, Hbc.out⟩
        · have HR : Hid (R = (l.all okLit && (decide (style = 4) || foldableB l))) := by
            show _ = _
            rw [← hR]
            have : 0 < l.length := by have := HL0.out; omega
            rcases hst with rfl | rfl <;> simp [mayB, literalB, this]
          have hE : s.toList.isEmpty = false := by rw [empty_str]; simp [h0]
          clear hR h0
          obtain ⟨fb, hfb⟩ : ∃ b, foldableB l = b := ⟨_, rfl⟩
          rw [hfb] at HF HR
          clear hfb
          have HFL : Hid (∀ k, k < l.length → okLit (nth l k) = false → R = false) := fun k hk h => by rw [HR.out, all_miss hk h]; rfl
          have HTR : Hid (l.all okLit = true → R = (decide (style = 4) || fb)) := fun h => by rw [HR.out, h]; rfl
          clear HR
          rcases hst with rfl | rfl
          all_goals
            go_enter Tryd.func12, Tryd.ntmps12
            go_wp2_with (go_at_call 7; with_reducible refine HT.out.mono ?_; rintro e w1 ⟨A, c, rfl, hI1, hb1⟩; have HI := Lib.hid hI1; have Hbc := Lib.hid hb1; clear hI1 hb1)
            go_loop [9] (fun i => ∃ k : Nat, k ≤ l.length ∧ i = .int .i64 k ∧ Hid ((l.take k).all okLit = true)) (fun i => l.length - (intOf i).toNat)
            case atStart => exact ⟨0, Nat.zero_le _, rfl, rfl⟩
            case round =>
              obtain ⟨k, hk, rfl, hm⟩ := hrel
              by_cases hlt : k < l.length
              · obtain ⟨b, off, rfl, hbw, hc⟩ := HI.out (by omega)
                have hck := hc k hlt
                have hlt' : (k : Int) < (l.length : Int) := by omega
                have HTk : Hid ((l.take (k + 1)).all okLit = (true && okLit (nth l k))) := by show _ = _; rw [all_take hlt, hm.out]
                have HFk : Hid (okLit (nth l k) = false → R = false) := HFL.out k hlt
                obtain ⟨x, hx⟩ : ∃ x, nth l k = x := ⟨_, rfl⟩
                rw [hx] at hck HTk HFk
                have HP := Lib.hid (RPrint_any x w1)
                clear hc hx
                obtain ⟨p, hp⟩ : ∃ p, printB x = p := ⟨_, rfl⟩
                rw [hp] at HP
                have HSx : Hid (okLit x = (p && x != 13 && x != 65279)) := by show _ = _; rw [← hp]; rfl
                clear hp
                have Hlt := Lib.hid hlt
                have hmz : ∀ z : Int, z = k + 1 → l.length - (intOf (.int .i64 z)).toNat < l.length - (intOf (.int .i64 (k : Int))).toNat := by intro z hz; subst hz; have := Hlt.out; simp only [intOf]; omega
                have hW : wrap64 ((k : Int) + 1) = k + 1 := IntWalk.wrap64_in _ (by have := HL.out; omega)
                have hcs : p = false ∨ (p = true ∧ x = 13) ∨ (p = true ∧ x = 65279) ∨ (p = true ∧ x ≠ 13 ∧ x ≠ 65279) := by cases p <;> simp; omega
                rcases hcs with rfl | ⟨rfl, rfl⟩ | ⟨rfl, rfl⟩ | ⟨rfl, h2, h3⟩
                iterate 3
                  · have HRf := Lib.hid (HFk.out (HSx.out.trans (by simp)))
                    go_wp2_with (go_at_call 30; refine HP.out.mono ?_; rintro e w' ⟨rfl, rfl⟩)
                    go_ret
                    exact ⟨ret_bool HRf.out.symm, Hbc.out⟩
                · have g2 : (x == 13) = false := beq_eq_false_iff_ne.2 h2
                  have g3 : (x == 65279) = false := beq_eq_false_iff_ne.2 h3
                  have HN : Hid ((l.take (k + 1)).all okLit = true) := by show _ = _; rw [HTk.out, HSx.out]; simp [h2, h3]
                  clear h2 h3 hk hlt
                  go_wp2_with (go_at_call 30; refine HP.out.mono ?_; rintro e w' ⟨rfl, rfl⟩)
                  first
                    | exact ⟨⟨k + 1, Hlt.out, by simp, HN⟩, hmz _ rfl⟩
                    | exact ⟨⟨k + 1, Hlt.out, congrArg (Value.int .i64) (hW.trans (by simp)), HN⟩, hmz _ hW⟩
              · obtain rfl : k = l.length := by omega
                have HRk := Lib.hid (HTR.out (by have := hm.out; rwa [List.take_of_length_le (Nat.le_refl _)] at this))
                clear hk hlt
                go_wp2_with (go_at_call 31; refine (HF.out _ A c HI.out).mono ?_; rintro e w' ⟨rfl, rfl⟩)
                go_ret
                exact ⟨ret_bool (by rw [HRk.out]; simp), Hbc.out⟩
      · have HR : Hid (R = false) := by show _ = _; rw [← hR]; simp [mayB, e1, e2, e3, e4, e5]
        have g1 : (style == 1) = false := beq_eq_false_iff_ne.2 e1
        have g2 : (style == 2) = false := beq_eq_false_iff_ne.2 e2
        have g3 : (style == 3) = false := beq_eq_false_iff_ne.2 e3
        have g4 : (style == 4) = false := beq_eq_false_iff_ne.2 e4
        have g5 : (style == 5) = false := beq_eq_false_iff_ne.2 e5
        clear hR e1 e2 e3 e4 e5 HF
        go_enter Tryd.func12, Tryd.ntmps12
        go_wp2_with (go_at_call 7; with_reducible refine HT.out.mono ?_; rintro e w1 ⟨A, c, rfl, hI1, hb1⟩; have HI := Lib.hid hI1; have Hbc := Lib.hid hb1; clear hI1 hb1)
        go_ret
        exact ⟨ret_bool HR.out.symm, Hbc.out⟩
set_option maxRecDepth 100000 in
set_option maxHeartbeats 4000000 in
theorem legalTells_walk (w : World) (hT : Tabs w) (style : Int) (_ws : (Lit.int .i64 style).wf = true) (s : ByteArray) (hsm : s.size ≤ maxLen) (flow : Bool) :
    Calls Tryd.prog 5 #[.int .i64 style, .string s, .bool flow] w fun e w' => e = .returned (.bool true) ∧ Below w.heap.size w w' := by
  have HA := Lib.hid (alive_any w hT)
  unfold maxLen at hsm
  by_cases hs : s.size ≤ 500
  · have hd : ¬ (500 : Int) < (s.size : Int) := by omega
    have hd2 : decide ((500 : Int) < (s.size : Int)) = false := decide_eq_false hd
    obtain ⟨l, hD⟩ : ∃ l, Lib.validD s.data.toList = true → Dec s s.size l := by
      cases h : Lib.validD s.data.toList with
      | false => exact ⟨[], fun h => by cases h⟩
      | true => exact (dec_ex s h).imp fun l hl _ => hl
    have HM : Hid (∀ W, Below w.heap.size w W → Calls Tryd.prog 8 #[.int .i64 style, .string s, .bool flow] W fun e w' => e = .returned (.bool (Lib.validD s.data.toList && mayB style s l flow)) ∧ Below W.heap.size W w') := fun W hW => May_any style s flow l W (by omega) (hT.below hW) hD
    have HR : Hid (∀ W, Calls Tryd.prog 12 #[.int .i64 style, .string s, .bool flow] W fun e w' => e = .returned (.bool (Lib.validD s.data.toList && mayB style s l flow)) ∧ Below W.heap.size W w') := fun W => RMay_any style s flow l W (by omega) hD
    have HC : Hid (∀ W, Calls Tryd.prog 11 #[.string s] W fun e w' => e = .returned (.int .i64 (chompI s)) ∧ W = w') := fun W => Chomp_any s W (by omega)
    have HD : Hid (∀ W, Calls Tryd.prog 13 #[.string s] W fun e w' => e = .returned (.int .i64 (chompI s)) ∧ W = w') := fun W => RChomp_any s W (by omega)
    have HI : Hid (∀ W, Calls Tryd.prog 14 #[.string s] W fun e w' => e = .returned (.bool (indB s)) ∧ W = w') := fun W => Indicator_any s W (by omega)
    have HJ : Hid (∀ W, Calls Tryd.prog 15 #[.string s] W fun e w' => e = .returned (.bool (indB s)) ∧ W = w') := fun W => RIndicator_any s W (by omega)
    obtain ⟨m, hm⟩ : ∃ b, (Lib.validD s.data.toList && mayB style s l flow) = b := ⟨_, rfl⟩
    rw [hm] at HM HR
    obtain ⟨cI, hc⟩ : ∃ b, chompI s = b := ⟨_, rfl⟩
    rw [hc] at HC HD
    obtain ⟨ib, hi⟩ : ∃ b, indB s = b := ⟨_, rfl⟩
    rw [hi] at HI HJ
    clear hm hc hi hD hT hs hsm
    go_enter Tryd.func5, Tryd.ntmps5
    go_wp2_with (first
      | (go_at_call 14; refine (HI.out _).mono ?_; rintro e wn ⟨rfl, rfl⟩)
      | (go_at_call 15; refine (HJ.out _).mono ?_; rintro e wn ⟨rfl, rfl⟩)
      | (go_at_call 11; refine (HC.out _).mono ?_; rintro e wn ⟨rfl, rfl⟩)
      | (go_at_call 13; refine (HD.out _).mono ?_; rintro e wn ⟨rfl, rfl⟩)
      | (go_at_call 8; refine (HM.out _ Hbc.out).mono ?_; rintro e wn ⟨rfl, hbn⟩; have Hbn := Lib.hid (below_two Hbc.out hbn); clear Hbc hbn; have Hbc := Hbn; clear Hbn)
      | (go_at_call 12; refine (HR.out _).mono ?_; rintro e wn ⟨rfl, hbn⟩; have Hbn := Lib.hid (below_two Hbc.out hbn); clear Hbc hbn; have Hbc := Hbn; clear Hbn)
      | (go_at_call 6; refine HA.out.mono ?_; rintro e w1 ⟨rfl, hb1⟩; have Hbc := Lib.hid hb1; clear hb1))
    all_goals go_ret
    all_goals exact ⟨ret_bool (by first | rfl | simp), Hbc.out⟩
  · have hd : (500 : Int) < (s.size : Int) := by omega
    have hd2 : decide ((500 : Int) < (s.size : Int)) = true := decide_eq_true hd
    clear hs hsm hT
    go_enter Tryd.func5, Tryd.ntmps5
    go_wp2_with (go_at_call 6; refine HA.out.mono ?_; rintro e w1 ⟨rfl, hb1⟩; have Hb1 := Lib.hid hb1; clear hb1)
    go_ret
    exact ⟨rfl, Hb1.out⟩
end Go.Proofs.YtnofdlpifpjlbaaDoor
