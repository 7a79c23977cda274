/- How a text may be written, how it is chomped, whether it says where it stands: legal's three functions. Conditions: utf8's tables lie in the world; a text is no longer than a million bytes. -/
import Derived.Test.YtnofdlpifpjlbaaDoorLgI
import Derived.Test.YtnofdlpifpjlbaaDoorPlainS
namespace Go.Proofs.YtnofdlpifpjlbaaDoor
open Go.RowKit
/-- The tables of utf8 lie in this world. -/
def Tabs (w : World) : Prop := Lib.Utf8Tabs (laysValid_ren.g 3) (laysValid_ren.g 4) w
theorem Tabs.below {w w' : World} (h : Tabs w) (hb : Below w.heap.size w w') : Tabs w' := Utf8Tabs_below h hb
theorem valid_any (s : ByteArray) (w : World) (hT : Tabs w) (hs : s.size ≤ 1000000) :
    Calls Tryd.prog 17 #[.string s] w fun e w' => e = .returned (.bool (Lib.validD s.data.toList)) ∧ Below w.heap.size w w' := by
  have hV : Calls Tryd.prog 17 #[.string s] w _ := Any.utf8_ValidString laysValid s w (by omega) hT
  refine hV.mono ?_
  rintro e w' ⟨rfl, hb⟩
  exact ⟨rfl, hb⟩
theorem below_two {a b c : World} (h : Below a.heap.size a b) (h' : Below b.heap.size b c) : Below a.heap.size a c := h.trans (h'.mono h.size)
/-- A text that is valid has its code points. -/
theorem dec_ex (s : ByteArray) (hv : Lib.validD s.data.toList = true) : ∃ l, Dec s s.size l := by
  have H : ∀ (n i : Nat) (l : List Int), s.size - i ≤ n → Dec s i l → ∃ l', Dec s s.size l' := by
    intro n
    induction n with
    | zero =>
      intro i l h hd
      have := hd.valid.1
      obtain rfl : i = s.size := by omega
      exact ⟨l, hd⟩
    | succ n ih =>
      intro i l h hd
      have := hd.valid.1
      by_cases hi : i < s.size
      · have hn := hd.go hv hi
        exact ih _ _ (by omega) (.step hd hi hn)
      · obtain rfl : i = s.size := by omega
        exact ⟨l, hd⟩
  exact H _ 0 [] (Nat.le_refl _) .nil
def plainlyB (s : ByteArray) (l : List Int) : Bool := begB l true && decide (endN l true = l.length) && singleB l && !startsB s [45, 45, 45] && !startsB s [46, 46, 46]
set_option maxRecDepth 100000 in
set_option maxHeartbeats 1000000 in
theorem plainly_any (A : Option Addr) (c : Nat) (s : ByteArray) (l : List Int) (w : World) (hl : l.length ≤ 1000000) (hI : IntsAt w w.heap.size A l) :
    Calls Tryd.prog 19 #[.string s, .slice A l.length c] w fun e w' => e = .returned (.bool (plainlyB s l)) ∧ Below w.heap.size w w' := by
  have HI : Hid (∀ W, Below w.heap.size w W → IntsAt W W.heap.size A l) := fun W hW => (hI.below hW (Nat.le_refl _)).more hW.size
  have HB := Lib.hid (Begins_any A c l true w (by omega) hI)
  have HE : Hid (∀ W, Below w.heap.size w W → Calls Tryd.prog 36 #[.slice A l.length c, .bool true] W fun e w' => e = .returned (.int .i64 (endN l true)) ∧ Below W.heap.size W w') := fun W hW => End_any A c l true W (by omega) (HI.out W hW)
  have HS : Hid (∀ W, Below w.heap.size w W → Calls Tryd.prog 20 #[.slice A l.length c] W fun e w' => e = .returned (.bool (singleB l)) ∧ W = w') := fun W hW => Single_any A c l W (by omega) (HI.out W hW)
  have HP1 : Hid (∀ W, Calls Tryd.prog 37 #[.string s, .string ⟨#[45, 45, 45]⟩] W fun e w' => e = .returned (.bool (startsB s [45, 45, 45])) ∧ W = w') := fun W => (strings_HasPrefix s ⟨#[45, 45, 45]⟩ W).mono (by rintro e w' ⟨rfl, rfl⟩; exact ⟨rfl, rfl⟩)
  have HP2 : Hid (∀ W, Calls Tryd.prog 37 #[.string s, .string ⟨#[46, 46, 46]⟩] W fun e w' => e = .returned (.bool (startsB s [46, 46, 46])) ∧ W = w') := fun W => (strings_HasPrefix s ⟨#[46, 46, 46]⟩ W).mono (by rintro e w' ⟨rfl, rfl⟩; exact ⟨rfl, rfl⟩)
  obtain ⟨R, hR⟩ : ∃ R, plainlyB s l = R := ⟨_, rfl⟩
  have HR : Hid (R = (begB l true && decide (endN l true = l.length) && singleB l && !startsB s [45, 45, 45] && !startsB s [46, 46, 46])) := by show _ = _; rw [← hR]; rfl
  rw [hR]
  obtain ⟨n, hn⟩ : ∃ n, endN l true = n := ⟨_, rfl⟩
  rw [hn] at HE HR
  obtain ⟨b1, h1⟩ : ∃ b, begB l true = b := ⟨_, rfl⟩
  rw [h1] at HB HR
  obtain ⟨b2, h2⟩ : ∃ b, singleB l = b := ⟨_, rfl⟩
  rw [h2] at HS HR
  obtain ⟨b3, h3⟩ : ∃ b, startsB s [45, 45, 45] = b := ⟨_, rfl⟩
  rw [h3] at HP1 HR
  obtain ⟨b4, h4⟩ : ∃ b, startsB s [46, 46, 46] = b := ⟨_, rfl⟩
  rw [h4] at HP2 HR
  clear hR hn h1 h2 h3 h4 hI
  cases b1 with
  | false =>
    go_enter Tryd.func19, Tryd.ntmps19
    go_wp2_with (go_at_call 35; refine HB.out.mono ?_; rintro e w1 ⟨rfl, hb1⟩; have Hb1 := Lib.hid hb1; clear hb1)
    go_ret
    exact ⟨ret_bool (by rw [HR.out]; simp), Hb1.out⟩
  | true =>
    by_cases hE : n = l.length
    · have hne : ((n : Int) != (l.length : Int)) = false := by rw [bne_eq_false_iff_eq]; omega
      have heq : ((n : Int) == (l.length : Int)) = true := beq_iff_eq.2 (by omega)
      have HR2 : Hid (R = (b2 && !b3 && !b4)) := by show _ = _; rw [HR.out]; simp [hE]
      clear hE
      go_enter Tryd.func19, Tryd.ntmps19
      cases b2 with
      | false =>
        go_wp2_with (first
          | (go_at_call 35; refine HB.out.mono ?_; rintro e w1 ⟨rfl, hb1⟩; have Hb1 := Lib.hid hb1; clear hb1)
          | (go_at_call 36; refine (HE.out w1 Hb1.out).mono ?_; rintro e w2 ⟨rfl, hb2⟩; have Hb2 := Lib.hid (below_two Hb1.out hb2); clear hb2)
          | (go_at_call 20; refine (HS.out w2 Hb2.out).mono ?_; rintro e w3 ⟨rfl, rfl⟩))
        go_ret
        exact ⟨ret_bool (by rw [HR2.out]; simp), Hb2.out⟩
      | true =>
        cases b3 with
        | true =>
          go_wp2_with (first
            | (go_at_call 35; refine HB.out.mono ?_; rintro e w1 ⟨rfl, hb1⟩; have Hb1 := Lib.hid hb1; clear hb1)
            | (go_at_call 36; refine (HE.out w1 Hb1.out).mono ?_; rintro e w2 ⟨rfl, hb2⟩; have Hb2 := Lib.hid (below_two Hb1.out hb2); clear hb2)
            | (go_at_call 20; refine (HS.out w2 Hb2.out).mono ?_; rintro e w3 ⟨rfl, rfl⟩)
            | (go_at_call 37; refine (HP1.out w2).mono ?_; rintro e w3 ⟨rfl, rfl⟩))
          go_ret
          exact ⟨ret_bool (by rw [HR2.out]; simp), Hb2.out⟩
        | false =>
          go_wp2_with (first
            | (go_at_call 35; refine HB.out.mono ?_; rintro e w1 ⟨rfl, hb1⟩; have Hb1 := Lib.hid hb1; clear hb1)
            | (go_at_call 36; refine (HE.out w1 Hb1.out).mono ?_; rintro e w2 ⟨rfl, hb2⟩; have Hb2 := Lib.hid (below_two Hb1.out hb2); clear hb2)
            | (go_at_call 20; refine (HS.out w2 Hb2.out).mono ?_; rintro e w3 ⟨rfl, rfl⟩)
            | (go_at_call 37; refine (HP1.out w2).mono ?_; rintro e w3 ⟨rfl, rfl⟩)
            | (go_at_call 37; refine (HP2.out w2).mono ?_; rintro e w3 ⟨rfl, rfl⟩))
          go_ret
          exact ⟨ret_bool (by rw [HR2.out]; simp), Hb2.out⟩
    · have hne : ((n : Int) != (l.length : Int)) = true := bne_iff_ne.2 (by omega)
      have heq : ((n : Int) == (l.length : Int)) = false := beq_eq_false_iff_ne.2 (by omega)
      have HR2 : Hid (R = false) := by show _ = _; rw [HR.out]; simp [hE]
      clear hE
      go_enter Tryd.func19, Tryd.ntmps19
      go_wp2_with (first
        | (go_at_call 35; refine HB.out.mono ?_; rintro e w1 ⟨rfl, hb1⟩; have Hb1 := Lib.hid hb1; clear hb1)
        | (go_at_call 36; refine (HE.out w1 Hb1.out).mono ?_; rintro e w2 ⟨rfl, hb2⟩; have Hb2 := Lib.hid (below_two Hb1.out hb2); clear hb2))
      go_ret
      exact ⟨ret_bool (by rw [HR2.out]), Hb2.out⟩
set_option maxRecDepth 100000 in
set_option maxHeartbeats 2000000 in
theorem May_any (style : Int) (s : ByteArray) (flow : Bool) (l : List Int) (w : World) (hs : s.size ≤ 1000000) (hT : Tabs w) (hD : Lib.validD s.data.toList = true → Dec s s.size l) :
    Calls Tryd.prog 8 #[.int .i64 style, .string s, .bool flow] w fun e w' => e = .returned (.bool (Lib.validD s.data.toList && mayB style s l flow)) ∧ Below w.heap.size w w' := by
  have hV := valid_any s w hT hs
  obtain ⟨b, hb⟩ : ∃ b, Lib.validD s.data.toList = b := ⟨_, rfl⟩
  rw [hb] at hV ⊢
  have HV := Lib.hid hV
  cases b with
  | false =>
    clear hV hD hT hb
    go_enter Tryd.func8, Tryd.ntmps8
    go_wp2_with (go_at_call 17; refine HV.out.mono ?_; rintro e w1 ⟨rfl, hb1⟩; have Hb1 := Lib.hid hb1; clear hb1)
    go_ret
    exact ⟨rfl, Hb1.out⟩
  | true =>
    have hd := hD hb
    have HL : Hid (l.length ≤ 1000000) := by have := hd.valid.2.2; show _ ≤ _; omega
    have HP : Hid (∀ W, Calls Tryd.prog 18 #[.string s] W fun e w' => ∃ A c, e = .returned (.slice A l.length c) ∧ IntsAt w' w'.heap.size A l ∧ Below W.heap.size W w') := fun W => (lpoints_any s W hs hb).mono (by
      rintro e w' ⟨A, c, m, rfl, hm, hI, hB⟩
      obtain rfl := hm.one hd
      exact ⟨A, c, rfl, hI, hB⟩)
    have HF : Hid (∀ W, Calls Tryd.prog 22 #[.string s] W fun e w' => e = .returned (.bool (foldableB l)) ∧ Below W.heap.size W w') := fun W => by
      rw [← fold_bytes hd]; exact folded_any s W hs
    have HQ : Hid (∀ W A c, IntsAt W W.heap.size A l → Calls Tryd.prog 19 #[.string s, .slice A l.length c] W fun e w' => e = .returned (.bool (plainlyB s l)) ∧ Below W.heap.size W w') := fun W A c h => plainly_any A c s l W HL.out h
    have HS : Hid (∀ W A c, IntsAt W W.heap.size A l → Calls Tryd.prog 20 #[.slice A l.length c] W fun e w' => e = .returned (.bool (singleB l)) ∧ W = w') := fun W A c h => Single_any A c l W (by have := HL.out; omega) h
    have HT : Hid (∀ W A c, IntsAt W W.heap.size A l → Calls Tryd.prog 21 #[.slice A l.length c, .bool flow] W fun e w' => e = .returned (.bool (literalB l flow)) ∧ W = w') := fun W A c h => Literal_any A c l flow W (by have := HL.out; omega) h
    have hcs : style = 1 ∨ style = 2 ∨ style = 3 ∨ style = 4 ∨ style = 5 ∨ (style ≠ 1 ∧ style ≠ 2 ∧ style ≠ 3 ∧ style ≠ 4 ∧ style ≠ 5) := by omega
    obtain ⟨R, hR⟩ : ∃ R, (true && mayB style s l flow) = R := ⟨_, rfl⟩
    rw [hR]
    clear hV hD hT hb hd
    rcases hcs with rfl | rfl | rfl | rfl | rfl | ⟨e1, e2, e3, e4, e5⟩
    · have HR : Hid (plainlyB s l = R) := by show _ = _; rw [← hR]; rfl
      clear hR
      go_enter Tryd.func8, Tryd.ntmps8
      go_wp2_with (first
        | (go_at_call 17; refine HV.out.mono ?_; rintro e w1 ⟨rfl, hb1⟩; have Hb1 := Lib.hid hb1; clear hb1)
        | (go_at_call 18; refine (HP.out w1).mono ?_; rintro e w2 ⟨A, c, rfl, hI, hb2⟩; have HI := Lib.hid hI; have Hb2 := Lib.hid (below_two Hb1.out hb2); clear hI hb2)
        | (go_at_call 19; refine (HQ.out w2 A c HI.out).mono ?_; rintro e w3 ⟨rfl, hb3⟩; have Hb3 := Lib.hid (below_two Hb2.out hb3); clear hb3))
      go_ret
      exact ⟨ret_bool HR.out, Hb3.out⟩
    · have HR : Hid (singleB l = R) := by show _ = _; rw [← hR]; rfl
      clear hR
      go_enter Tryd.func8, Tryd.ntmps8
      go_wp2_with (first
        | (go_at_call 17; refine HV.out.mono ?_; rintro e w1 ⟨rfl, hb1⟩; have Hb1 := Lib.hid hb1; clear hb1)
        | (go_at_call 18; refine (HP.out w1).mono ?_; rintro e w2 ⟨A, c, rfl, hI, hb2⟩; have HI := Lib.hid hI; have Hb2 := Lib.hid (below_two Hb1.out hb2); clear hI hb2)
        | (go_at_call 20; refine (HS.out w2 A c HI.out).mono ?_; rintro e w3 ⟨rfl, rfl⟩))
      go_ret
      exact ⟨ret_bool HR.out, Hb2.out⟩
    · have HR : Hid (true = R) := by show _ = _; rw [← hR]; rfl
      clear hR
      go_enter Tryd.func8, Tryd.ntmps8
      go_wp2_with (first
        | (go_at_call 17; refine HV.out.mono ?_; rintro e w1 ⟨rfl, hb1⟩; have Hb1 := Lib.hid hb1; clear hb1)
        | (go_at_call 18; refine (HP.out w1).mono ?_; rintro e w2 ⟨A, c, rfl, hI, hb2⟩; have HI := Lib.hid hI; have Hb2 := Lib.hid (below_two Hb1.out hb2); clear hI hb2))
      go_ret
      exact ⟨ret_bool HR.out, Hb2.out⟩
    · have HR : Hid (literalB l flow = R) := by show _ = _; rw [← hR]; rfl
      clear hR
      go_enter Tryd.func8, Tryd.ntmps8
      go_wp2_with (first
        | (go_at_call 17; refine HV.out.mono ?_; rintro e w1 ⟨rfl, hb1⟩; have Hb1 := Lib.hid hb1; clear hb1)
        | (go_at_call 18; refine (HP.out w1).mono ?_; rintro e w2 ⟨A, c, rfl, hI, hb2⟩; have HI := Lib.hid hI; have Hb2 := Lib.hid (below_two Hb1.out hb2); clear hI hb2)
        | (go_at_call 21; refine (HT.out w2 A c HI.out).mono ?_; rintro e w3 ⟨rfl, rfl⟩))
      go_ret
      exact ⟨ret_bool HR.out, Hb2.out⟩
    · have HR : Hid ((literalB l flow && foldableB l) = R) := by show _ = _; rw [← hR]; rfl
      clear hR
      obtain ⟨b, hb⟩ : ∃ b, literalB l flow = b := ⟨_, rfl⟩
      rw [hb] at HT HR
      clear hb
      cases b with
      | false =>
        go_enter Tryd.func8, Tryd.ntmps8
        go_wp2_with (first
          | (go_at_call 17; refine HV.out.mono ?_; rintro e w1 ⟨rfl, hb1⟩; have Hb1 := Lib.hid hb1; clear hb1)
          | (go_at_call 18; refine (HP.out w1).mono ?_; rintro e w2 ⟨A, c, rfl, hI, hb2⟩; have HI := Lib.hid hI; have Hb2 := Lib.hid (below_two Hb1.out hb2); clear hI hb2)
          | (go_at_call 21; refine (HT.out w2 A c HI.out).mono ?_; rintro e w3 ⟨rfl, rfl⟩))
        go_ret
        exact ⟨ret_bool (by rw [← HR.out]; rfl), Hb2.out⟩
      | true =>
        go_enter Tryd.func8, Tryd.ntmps8
        go_wp2_with (first
          | (go_at_call 17; refine HV.out.mono ?_; rintro e w1 ⟨rfl, hb1⟩; have Hb1 := Lib.hid hb1; clear hb1)
          | (go_at_call 18; refine (HP.out w1).mono ?_; rintro e w2 ⟨A, c, rfl, hI, hb2⟩; have HI := Lib.hid hI; have Hb2 := Lib.hid (below_two Hb1.out hb2); clear hI hb2)
          | (go_at_call 21; refine (HT.out w2 A c HI.out).mono ?_; rintro e w3 ⟨rfl, rfl⟩)
          | (go_at_call 22; refine (HF.out w2).mono ?_; rintro e w3 ⟨rfl, hb3⟩; have Hb3 := Lib.hid (below_two Hb2.out hb3); clear hb3))
        go_ret
        exact ⟨ret_bool (by rw [← HR.out]; rfl), Hb3.out⟩
    · have HR : Hid (false = R) := by show _ = _; rw [← hR]; simp [mayB, e1, e2, e3, e4, e5]
      have g1 : (style == 1) = false := beq_eq_false_iff_ne.2 e1
      have g2 : (style == 2) = false := beq_eq_false_iff_ne.2 e2
      have g3 : (style == 3) = false := beq_eq_false_iff_ne.2 e3
      have g4 : (style == 4) = false := beq_eq_false_iff_ne.2 e4
      have g5 : (style == 5) = false := beq_eq_false_iff_ne.2 e5
      clear hR e1 e2 e3 e4 e5
      go_enter Tryd.func8, Tryd.ntmps8
      go_wp2_with (first
        | (go_at_call 17; refine HV.out.mono ?_; rintro e w1 ⟨rfl, hb1⟩; have Hb1 := Lib.hid hb1; clear hb1)
        | (go_at_call 18; refine (HP.out w1).mono ?_; rintro e w2 ⟨A, c, rfl, hI, hb2⟩; have HI := Lib.hid hI; have Hb2 := Lib.hid (below_two Hb1.out hb2); clear hI hb2))
      go_ret
      exact ⟨ret_bool HR.out, Hb2.out⟩
end Go.Proofs.YtnofdlpifpjlbaaDoor
