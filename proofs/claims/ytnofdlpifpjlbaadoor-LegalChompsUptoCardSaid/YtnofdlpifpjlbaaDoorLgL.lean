/- The laws LegalLess and LegalTells. Conditions: utf8's tables lie in the world. -/
import Derived.Test.YtnofdlpifpjlbaaDoorLgC
namespace Go.Proofs.YtnofdlpifpjlbaaDoor
open Go.RowKit
def exA : ByteArray := ⟨#[97, 32, 98]⟩
def exB : ByteArray := ⟨#[97, 58, 32, 98]⟩
theorem Dec.ascii1 {s : ByteArray} {i : Nat} {l : List Int} {b : Nat} (h : Dec s i l) (hi : i < s.size) (hb : (s.get! i).toNat = b) (hlt : b < 128) : Dec s (i + 1) (l ++ [(b : Int)]) := by
  have hp := pt_ascii (s := s) (i := i) (by omega)
  have := Dec.step h hi (by rw [hp]; simp)
  rw [hp, hb] at this
  exact this
theorem dec_a : Dec exA exA.size [97, 32, 98] := Dec.ascii1 (b := 98) (l := [97, 32]) (Dec.ascii1 (b := 32) (l := [97]) (Dec.ascii1 (b := 97) (l := []) .nil (by decide) rfl (by decide)) (by decide) rfl (by decide)) (by decide) rfl (by decide)
theorem dec_b : Dec exB exB.size [97, 58, 32, 98] := Dec.ascii1 (b := 98) (l := [97, 58, 32]) (Dec.ascii1 (b := 32) (l := [97, 58]) (Dec.ascii1 (b := 58) (l := [97]) (Dec.ascii1 (b := 97) (l := []) .nil (by decide) rfl (by decide)) (by decide) rfl (by decide)) (by decide) rfl (by decide)) (by decide) rfl (by decide)
theorem may_a : (Lib.validD exA.data.toList && mayB 1 exA [97, 32, 98] true) = true := by rw [dec_a.full]; kernel_rfl
theorem may_b : (Lib.validD exB.data.toList && mayB 1 exB [97, 58, 32, 98] false) = false := by rw [dec_b.full]; kernel_rfl
theorem may_one (w : World) (hT : Tabs w) : Calls Tryd.prog 8 #[.int .i64 1, .string ⟨#[97, 32, 98]⟩, .bool true] w fun e w' => e = .returned (.bool true) ∧ Below w.heap.size w w' :=
  (May_any 1 exA true [97, 32, 98] w (of_decide_eq_true rfl) hT (fun _ => dec_a)).mono fun e w' h => ⟨h.1.trans (by rw [may_a]), h.2⟩
theorem may_two (w : World) (hT : Tabs w) : Calls Tryd.prog 8 #[.int .i64 1, .string ⟨#[97, 58, 32, 98]⟩, .bool false] w fun e w' => e = .returned (.bool false) ∧ Below w.heap.size w w' :=
  (May_any 1 exB false [97, 58, 32, 98] w (of_decide_eq_true rfl) hT (fun _ => dec_b)).mono fun e w' h => ⟨h.1.trans (by rw [may_b]), h.2⟩
theorem chomp_one (w : World) : Calls Tryd.prog 11 #[.string ⟨#[97]⟩] w fun e w' => e = .returned (.int .i64 1) ∧ w = w' :=
  (Chomp_any ⟨#[97]⟩ w (of_decide_eq_true rfl)).mono fun e w' h => ⟨h.1.trans (by rw [show chompI ⟨#[97]⟩ = 1 by kernel_rfl]), h.2⟩
set_option maxRecDepth 100000 in
set_option maxHeartbeats 1000000 in
theorem alive_any (w : World) (hT : Tabs w) : Calls Tryd.prog 6 #[] w fun e w' => e = .returned (.bool true) ∧ Below w.heap.size w w' := by
  have h1 := may_one w hT
  have h2 : Hid (∀ W, Below w.heap.size w W → Calls Tryd.prog 8 #[.int .i64 1, .string ⟨#[97, 58, 32, 98]⟩, .bool false] W fun e w' => e = .returned (.bool false) ∧ Below W.heap.size W w') := fun W hW => may_two W (hT.below hW)
  have h3 : Hid (∀ W, Calls Tryd.prog 11 #[.string ⟨#[97]⟩] W fun e w' => e = .returned (.int .i64 1) ∧ W = w') := fun W => chomp_one W
  have H1 := Lib.hid h1
  clear hT h1
  go_enter Tryd.func6, Tryd.ntmps6
  go_wp2_with (first
    | (go_at_call 8; refine (h2.out w1 Hb1.out).mono ?_; rintro e w2 ⟨rfl, hb2⟩; have Hb2 := Lib.hid (below_two Hb1.out hb2); clear hb2)
    | (go_at_call 8; refine H1.out.mono ?_; rintro e w1 ⟨rfl, hb1⟩; have Hb1 := Lib.hid hb1; clear hb1)
    | (go_at_call 11; refine (h3.out w2).mono ?_; rintro e w3 ⟨rfl, rfl⟩))
  go_ret
  exact ⟨rfl, Hb2.out⟩
theorem imp_cases {a b : Bool} (h : a = true → b = true) : (a = false ∧ b = false) ∨ (a = false ∧ b = true) ∨ (a = true ∧ b = true) := by cases a <;> cases b <;> simp_all
set_option maxRecDepth 100000 in
set_option maxHeartbeats 8000000 in
theorem legalLess_walk (w : World) (hT : Tabs w) (style : Int) (_ws : (Lit.int .i64 style).wf = true) (s : ByteArray) (hsm : s.size ≤ maxLen) :
    Calls Tryd.prog 3 #[.int .i64 style, .string s] w fun e w' => e = .returned (.bool true) ∧ Below w.heap.size w w' := by
  have HA := Lib.hid (alive_any w hT)
  unfold maxLen at hsm
  by_cases hs : s.size ≤ 500
  · have hd : ¬ (500 : Int) < (s.size : Int) := by omega
    have hd2 : decide ((500 : Int) < (s.size : Int)) = false := decide_eq_false hd
    obtain ⟨l, hD⟩ : ∃ l, Lib.validD s.data.toList = true → Dec s s.size l := by
      cases h : Lib.validD s.data.toList with
      | false => exact ⟨[], fun h => by cases h⟩
      | true => exact (dec_ex s h).imp fun l hl _ => hl
    have HT : Hid (∀ W, Calls Tryd.prog 7 #[.string s] W fun e w' => ∃ u, e = .returned (.tuple #[u, .bool (Lib.validD s.data.toList)]) ∧ Below W.heap.size W w') := fun W => (Text_any s W (by omega)).mono (by
      rintro e w' ⟨u, v, rfl, hv, _, hb⟩; exact ⟨u, by rw [hv], hb⟩)
    have HM : ∀ (st : Int) (fl b : Bool), (Lib.validD s.data.toList && mayB st s l fl) = b → ∀ W, Below w.heap.size w W → Calls Tryd.prog 8 #[.int .i64 st, .string s, .bool fl] W fun e w' => e = .returned (.bool b) ∧ Below W.heap.size W w' := fun st fl b hb W hW => by
      rw [← hb]; exact May_any st s fl l W (by omega) (hT.below hW) hD
    obtain ⟨ok, hok⟩ : ∃ b, Lib.validD s.data.toList = b := ⟨_, rfl⟩
    obtain ⟨a, ha⟩ : ∃ b, (Lib.validD s.data.toList && mayB style s l true) = b := ⟨_, rfl⟩
    obtain ⟨b, hb⟩ : ∃ b, (Lib.validD s.data.toList && mayB style s l false) = b := ⟨_, rfl⟩
    obtain ⟨m5, h5⟩ : ∃ b, (Lib.validD s.data.toList && mayB 5 s l false) = b := ⟨_, rfl⟩
    obtain ⟨m4, h4⟩ : ∃ b, (Lib.validD s.data.toList && mayB 4 s l false) = b := ⟨_, rfl⟩
    obtain ⟨m1, h1⟩ : ∃ b, (Lib.validD s.data.toList && mayB 1 s l true) = b := ⟨_, rfl⟩
    obtain ⟨m2, h2⟩ : ∃ b, (Lib.validD s.data.toList && mayB 2 s l true) = b := ⟨_, rfl⟩
    have h3 : (Lib.validD s.data.toList && mayB 3 s l true) = ok := by rw [← hok]; exact Bool.and_true _
    have Ia : a = true → b = true := by
      rw [← ha, ← hb]; simp only [Bool.and_eq_true]; exact fun h => ⟨h.1, may_less h.2⟩
    have I5 : m5 = true → m4 = true := by
      rw [← h5, ← h4]; simp only [Bool.and_eq_true]; exact fun h => ⟨h.1, may_folded _ h.2⟩
    have I1 : m1 = true → m2 = true := by
      rw [← h1, ← h2]; simp only [Bool.and_eq_true]; exact fun h => ⟨h.1, may_plain _ h.2⟩
    have Ha := Lib.hid (HM _ _ _ ha)
    have Hb := Lib.hid (HM _ _ _ hb)
    have H5 := Lib.hid (HM _ _ _ h5)
    have H4 := Lib.hid (HM _ _ _ h4)
    have H1 := Lib.hid (HM _ _ _ h1)
    have H2 := Lib.hid (HM _ _ _ h2)
    have H3 := Lib.hid (HM _ _ _ h3)
    rw [hok] at HT
    clear HM ha hb h5 h4 h1 h2 h3 hok hD hT hs hsm
    rcases imp_cases Ia with ⟨rfl, rfl⟩ | ⟨rfl, rfl⟩ | ⟨rfl, rfl⟩
    all_goals rcases imp_cases I5 with ⟨rfl, rfl⟩ | ⟨rfl, rfl⟩ | ⟨rfl, rfl⟩
    all_goals rcases imp_cases I1 with ⟨rfl, rfl⟩ | ⟨rfl, rfl⟩ | ⟨rfl, rfl⟩
    all_goals clear Ia I5 I1
    all_goals
      go_enter Tryd.func3, Tryd.ntmps3
      go_wp2_with (first
        | (go_at_call 8; with_reducible refine (H3.out _ Hbc.out).mono ?_; rintro e wn ⟨rfl, hbn⟩; have Hbn := Lib.hid (below_two Hbc.out hbn); clear Hbc hbn; have Hbc := Hbn; clear Hbn)
        | (go_at_call 8; with_reducible refine (H2.out _ Hbc.out).mono ?_; rintro e wn ⟨rfl, hbn⟩; have Hbn := Lib.hid (below_two Hbc.out hbn); clear Hbc hbn; have Hbc := Hbn; clear Hbn)
        | (go_at_call 8; with_reducible refine (H1.out _ Hbc.out).mono ?_; rintro e wn ⟨rfl, hbn⟩; have Hbn := Lib.hid (below_two Hbc.out hbn); clear Hbc hbn; have Hbc := Hbn; clear Hbn)
        | (go_at_call 8; with_reducible refine (H4.out _ Hbc.out).mono ?_; rintro e wn ⟨rfl, hbn⟩; have Hbn := Lib.hid (below_two Hbc.out hbn); clear Hbc hbn; have Hbc := Hbn; clear Hbn)
        | (go_at_call 8; with_reducible refine (H5.out _ Hbc.out).mono ?_; rintro e wn ⟨rfl, hbn⟩; have Hbn := Lib.hid (below_two Hbc.out hbn); clear Hbc hbn; have Hbc := Hbn; clear Hbn)
        | (go_at_call 8; with_reducible refine (Hb.out _ Hbc.out).mono ?_; rintro e wn ⟨rfl, hbn⟩; have Hbn := Lib.hid (below_two Hbc.out hbn); clear Hbc hbn; have Hbc := Hbn; clear Hbn)
        | (go_at_call 8; with_reducible refine (Ha.out _ Hbc.out).mono ?_; rintro e wn ⟨rfl, hbn⟩; have Hbn := Lib.hid (below_two Hbc.out hbn); clear Hbc hbn; have Hbc := Hbn; clear Hbn)
        | (go_at_call 7; with_reducible refine (HT.out _).mono ?_; rintro e wn ⟨u, rfl, hbn⟩; have Hbn := Lib.hid (below_two Hbc.out hbn); clear Hbc hbn; have Hbc := Hbn; clear Hbn)
        | (go_at_call 6; refine HA.out.mono ?_; rintro e w1 ⟨rfl, hb1⟩; have Hbc := Lib.hid hb1; clear hb1))
      go_ret
      exact ⟨rfl, Hbc.out⟩
  · have hd : (500 : Int) < (s.size : Int) := by omega
    have hd2 : decide ((500 : Int) < (s.size : Int)) = true := decide_eq_true hd
    clear hs hsm hT
    go_enter Tryd.func3, Tryd.ntmps3
    go_wp2_with (go_at_call 6; refine HA.out.mono ?_; rintro e w1 ⟨rfl, hb1⟩; have Hb1 := Lib.hid hb1; clear hb1)
    go_ret
    exact ⟨rfl, Hb1.out⟩
end Go.Proofs.YtnofdlpifpjlbaaDoor
