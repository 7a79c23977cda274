/- What the functions of plain, and the reference's, return: for every list, in every world in which it lies. Condition: a list is no longer than an int. -/
import Derived.Test.YtnofdlpifpjlbaaDoorChars
import Derived.Test.YtnofdlpifpjlbaaDoorPlainP
namespace Go.Proofs.YtnofdlpifpjlbaaDoor
open Go.RowKit
set_option maxHeartbeats 1000000 in
theorem psafe_any (c : Int) (flow : Bool) (w : World) : Calls Tryd.prog 56 #[.int .i64 c, .bool flow] w fun e w' => e = .returned (.bool (safeB c flow)) ∧ Below w.heap.size w w' := by
  have hc := Flow_any c w
  go_enter Tryd.func56, Tryd.ntmps56
  go_wp2_with (first | (go_at_call 38; refine (Print_any _ _).mono ?_; rintro e w' ⟨rfl, rfl⟩) | (go_at_call 47; refine (Blank_any _ _).mono ?_; rintro e w' ⟨rfl, rfl⟩) | (go_at_call 62; refine hc.mono ?_; rintro e w' ⟨rfl, hb⟩))
  all_goals (go_ret; exact ⟨ret_bool (by rw [Bool.eq_iff_iff]; simp_all [safeB]), by first | exact Below.refl _ _ | assumption⟩)
set_option maxHeartbeats 1000000 in
theorem rsafe_any (c : Int) (flow : Bool) (w : World) : Calls Tryd.prog 42 #[.int .i64 c, .bool flow] w fun e w' => e = .returned (.bool (safeB c flow)) ∧ w = w' := by
  go_enter Tryd.func42, Tryd.ntmps42
  go_wp2_with (first | (go_at_call 30; refine (RPrint_any _ _).mono ?_; rintro e w' ⟨rfl, rfl⟩) | (go_at_call 46; refine (RBlank_any _ _).mono ?_; rintro e w' ⟨rfl, rfl⟩) | (go_at_call 54; refine (RFlow_any _ _).mono ?_; rintro e w' ⟨rfl, rfl⟩))
  all_goals (go_ret; exact ⟨ret_bool (by rw [Bool.eq_iff_iff]; simp_all [safeB]), rfl⟩)
set_option maxHeartbeats 400000 in
theorem pSafe_any (A : Option Addr) (c : Nat) (l : List Int) (i : Nat) (flow : Bool) (w : World) (hl : l.length ≤ 9223372036854775807) (hI : IntsAt w w.heap.size A l) :
    Calls Tryd.prog 48 #[.slice A l.length c, .int .i64 i, .bool flow] w fun e w' => e = .returned (.bool (safeAt l i flow)) ∧ Below w.heap.size w w' := by
  by_cases hi : i < l.length
  · obtain ⟨b, off, rfl, _, hc⟩ := hI (by omega)
    have hci := hc i hi
    clear hc
    have hi' : (i : Int) < (l.length : Int) := by omega
    have hs := psafe_any (nth l i) flow w
    have HE : Hid (safeAt l i flow = safeB (nth l i) flow) := Lib.hid (by simp [safeAt, hi])
    go_enter Tryd.func48, Tryd.ntmps48
    go_wp2_with (go_at_call 56; refine hs.mono ?_; rintro e w' ⟨rfl, hb⟩)
    go_ret
    exact ⟨ret_bool HE.out.symm, hb⟩
  · have hi' : ¬ (i : Int) < (l.length : Int) := by omega
    have hd : decide ((i : Int) < (l.length : Int)) = false := decide_eq_false hi'
    have HE : Hid (safeAt l i flow = false) := Lib.hid (by simp [safeAt, hi])
    go_enter Tryd.func48, Tryd.ntmps48
    go_wp2_with fail
    go_ret
    exact ⟨ret_bool HE.out.symm, Below.refl _ _⟩
set_option maxHeartbeats 400000 in
theorem rsafeAt_any (A : Option Addr) (c : Nat) (l : List Int) (i : Nat) (flow : Bool) (w : World) (hl : l.length ≤ 9223372036854775807) (hI : IntsAt w w.heap.size A l) :
    Calls Tryd.prog 43 #[.slice A l.length c, .int .i64 i, .bool flow] w fun e w' => e = .returned (.bool (safeAt l i flow)) ∧ w = w' := by
  by_cases hi : i < l.length
  · obtain ⟨b, off, rfl, _, hc⟩ := hI (by omega)
    have hci := hc i hi
    clear hc
    have hi' : (i : Int) < (l.length : Int) := by omega
    have hs := rsafe_any (nth l i) flow w
    have HE : Hid (safeAt l i flow = safeB (nth l i) flow) := Lib.hid (by simp [safeAt, hi])
    go_enter Tryd.func43, Tryd.ntmps43
    go_wp2_with (go_at_call 42; refine hs.mono ?_; rintro e w' ⟨rfl, rfl⟩)
    go_ret
    exact ⟨ret_bool HE.out.symm, rfl⟩
  · have hi' : ¬ (i : Int) < (l.length : Int) := by omega
    have hd : decide ((i : Int) < (l.length : Int)) = false := decide_eq_false hi'
    have HE : Hid (safeAt l i flow = false) := Lib.hid (by simp [safeAt, hi])
    go_enter Tryd.func43, Tryd.ntmps43
    go_wp2_with fail
    go_ret
    exact ⟨ret_bool HE.out.symm, rfl⟩
theorem begB_no {l : List Int} {flow : Bool} (h : safeAt l 0 flow = false) : begB l flow = false := by simp [begB, h]
theorem begB_sign {l : List Int} {flow : Bool} (h : safeAt l 0 flow = true) (hc : (nth l 0 == 45) = true ∨ (nth l 0 == 63) = true ∨ (nth l 0 == 58) = true) : begB l flow = safeAt l 1 flow := by
  have hc' : nth l 0 = 45 ∨ nth l 0 = 63 ∨ nth l 0 = 58 := by simpa using hc
  simp [begB, h, hc']
theorem begB_else {l : List Int} {flow : Bool} (h : safeAt l 0 flow = true) (h1 : (nth l 0 == 45) = false) (h2 : (nth l 0 == 63) = false) (h3 : (nth l 0 == 58) = false) : begB l flow = !signB (nth l 0) := by
  have hc' : ¬ (nth l 0 = 45 ∨ nth l 0 = 63 ∨ nth l 0 = 58) := by simp at h1 h2 h3; simp [h1, h2, h3]
  simp [begB, h, hc']
theorem safeAt_lt {l : List Int} {i : Nat} {flow : Bool} (h : safeAt l i flow = true) : i < l.length := by simp only [safeAt, Bool.and_eq_true, decide_eq_true_eq] at h; exact h.1
set_option maxHeartbeats 1000000 in
theorem Begins_any (A : Option Addr) (c : Nat) (l : List Int) (flow : Bool) (w : World) (hl : l.length ≤ 9223372036854775807) (hI : IntsAt w w.heap.size A l) :
    Calls Tryd.prog 35 #[.slice A l.length c, .bool flow] w fun e w' => e = .returned (.bool (begB l flow)) ∧ Below w.heap.size w w' := by
  have h0 := pSafe_any A c l 0 flow w hl hI
  cases hs : safeAt l 0 flow with
  | false =>
    rw [hs] at h0
    have HE : Hid (begB l flow = false) := Lib.hid (begB_no hs)
    clear hs
    go_enter Tryd.func35, Tryd.ntmps35
    go_wp2_with (go_at_call 48; refine h0.mono ?_; rintro e w' ⟨rfl, hb⟩)
    go_ret
    exact ⟨ret_bool HE.out.symm, hb⟩
  | true =>
    rw [hs] at h0
    have hp := safeAt_lt hs
    have HS := Lib.hid hs
    clear hs
    have hp' : (0 : Int) < (l.length : Int) := by omega
    go_enter Tryd.func35, Tryd.ntmps35
    go_wp2_with fail
    refine h0.mono ?_
    rintro e w1 ⟨rfl, hb1⟩
    have hI1 := hI.below hb1 (Nat.le_refl _)
    obtain ⟨b, off, rfl, hbw, hc⟩ := hI1 hp
    have hc0 : w1.cell? ⟨b, off, none⟩ = some (.int .i64 (nth l 0)) := by simpa using hc 0 hp
    clear hc
    have h1 := pSafe_any (some ⟨b, off, none⟩) c l 1 flow w1 hl (hI1.more hb1.size)
    have hS := Sign_any (nth l 0) w1
    go_wp2_with (first | (go_at_call 48; refine h1.mono ?_; rintro e w2 ⟨rfl, hb2⟩) | (go_at_call 49; refine hS.mono ?_; rintro e w2 ⟨rfl, hb2⟩))
    · go_ret
      exact ⟨ret_bool (begB_sign HS.out (.inl (by assumption))).symm, below_then hb1 hb2⟩
    · go_ret
      exact ⟨ret_bool (begB_sign HS.out (.inr (.inl (by assumption)))).symm, below_then hb1 hb2⟩
    · go_ret
      exact ⟨ret_bool (begB_sign HS.out (.inr (.inr (by assumption)))).symm, below_then hb1 hb2⟩
    · go_ret
      exact ⟨ret_bool (begB_else HS.out (by assumption) (by assumption) (by assumption)).symm, below_then hb1 hb2⟩
set_option maxHeartbeats 1000000 in
theorem RBegins_any (A : Option Addr) (c : Nat) (l : List Int) (flow : Bool) (w : World) (hl : l.length ≤ 9223372036854775807) (hI : IntsAt w w.heap.size A l) :
    Calls Tryd.prog 26 #[.slice A l.length c, .bool flow] w fun e w' => e = .returned (.bool (begB l flow)) ∧ Below w.heap.size w w' := by
  cases l with
  | nil =>
    go_enter Tryd.func26, Tryd.ntmps26
    go_wp2_with fail
    go_ret
    exact ⟨rfl, Below.refl _ _⟩
  | cons x r =>
    obtain ⟨l, hl'⟩ : ∃ l, l = x :: r := ⟨_, rfl⟩
    have hp : 0 < l.length := by rw [hl']; simp
    rw [← hl'] at hl hI ⊢
    clear hl'
    obtain ⟨b, off, rfl, hbw, hc⟩ := hI hp
    have hc0 : w.cell? ⟨b, off, none⟩ = some (.int .i64 (nth l 0)) := by simpa using hc 0 hp
    clear hc
    have hn0 : ((l.length : Int) == 0) = false := beq_eq_false_iff_ne.2 (by omega)
    have hp' : (0 : Int) < (l.length : Int) := by omega
    have h0 := rsafe_any (nth l 0) flow w
    have h1 := rsafeAt_any (some ⟨b, off, none⟩) c l 1 flow w hl hI
    have hS := RSign_any (nth l 0) w
    have HE : Hid (safeAt l 0 flow = safeB (nth l 0) flow) := Lib.hid (by simp [safeAt, hp])
    cases hs : safeB (nth l 0) flow with
    | false =>
      rw [hs] at h0 HE
      clear hs
      go_enter Tryd.func26, Tryd.ntmps26
      go_wp2_with (go_at_call 42; refine h0.mono ?_; rintro e w2 ⟨rfl, rfl⟩)
      go_ret
      exact ⟨ret_bool (begB_no HE.out).symm, Below.refl _ _⟩
    | true =>
      rw [hs] at h0 HE
      clear hs
      go_enter Tryd.func26, Tryd.ntmps26
      go_wp2_with (first | (go_at_call 42; refine h0.mono ?_; rintro e w2 ⟨rfl, rfl⟩) | (go_at_call 43; refine h1.mono ?_; rintro e w2 ⟨rfl, rfl⟩) | (go_at_call 44; refine hS.mono ?_; rintro e w2 ⟨rfl, rfl⟩))
      · go_ret
        exact ⟨ret_bool (begB_sign HE.out (.inl (beq_iff_eq.2 (by assumption)))).symm, Below.refl _ _⟩
      · go_ret
        exact ⟨ret_bool (begB_sign HE.out (.inr (.inl (beq_iff_eq.2 (by assumption))))).symm, Below.refl _ _⟩
      · go_ret
        have h : ((nth l 0 == 45) = true ∨ (nth l 0 == 63) = true) ∨ (nth l 0 == 58) = true := by assumption
        exact ⟨ret_bool (begB_sign HE.out (or_assoc.1 h)).symm, Below.refl _ _⟩
      · go_ret
        have h : ((nth l 0 == 45) = false ∧ (nth l 0 == 63) = false) ∧ (nth l 0 == 58) = false := by assumption
        exact ⟨ret_bool (begB_else HE.out h.1.1 h.1.2 h.2).symm, Below.refl _ _⟩
theorem trim_step {l : List Int} {k n : Nat} (hk : 0 < k) (h : trimN l k = n) (hb : blankB (nth l (k - 1)) = true) : trimN l (k - 1) = n := by
  obtain ⟨j, rfl⟩ : ∃ j, k = j + 1 := ⟨k - 1, by omega⟩
  simp only [Nat.add_sub_cancel] at hb ⊢
  simpa [trimN, hb] using h
theorem trim_stop {l : List Int} {k : Nat} (hk : 0 < k) (hb : blankB (nth l (k - 1)) = false) : trimN l k = k := by
  obtain ⟨j, rfl⟩ : ∃ j, k = j + 1 := ⟨k - 1, by omega⟩
  simp only [Nat.add_sub_cancel] at hb
  simp [trimN, hb]
theorem hit_eq {l : List Int} {flow : Bool} {i : Nat} {c : Int} {b1 b2 b3 : Bool} (hc : nth l i = c) (h1 : safeAt l (i + 1) flow = b1) (h2 : blankB (nth l (i - 1)) = b2) (h3 : flowB c = b3) :
    hit l flow i = ((c == 58 && !b1) || (c == 35 && decide (0 < i) && b2) || (flow && b3)) := by
  subst hc h1 h2 h3
  rfl
theorem stop_all {l : List Int} {flow : Bool} {k : Nat} (hk : k ≤ l.length) (hlt : ¬ k < l.length) (h : ∀ j, j < k → hit l flow j = false) : l.length = stopN l flow := by
  obtain rfl : k = l.length := by omega
  exact stop_eq (Nat.le_refl _) h (fun h => absurd h (by omega))
theorem hit_next {l : List Int} {flow : Bool} {k : Nat} (h : ∀ j, j < k → hit l flow j = false) (hk : hit l flow k = false) : ∀ j, j < k + 1 → hit l flow j = false := fun j hj => by
  by_cases e : j = k
  · rw [e]; exact hk
  · exact h j (by omega)
set_option maxHeartbeats 2000000 in
theorem Rstop_same (A : Option Addr) (c : Nat) (l : List Int) (flow : Bool) (w : World) (hl : l.length ≤ 9223372036854775807) (hI : IntsAt w w.heap.size A l) :
    Calls Tryd.prog 45 #[.slice A l.length c, .bool flow] w fun e w' => e = .returned (.int .i64 (stopN l flow)) ∧ w = w' := by
  go_enter Tryd.func45, Tryd.ntmps45
  go_wp2_with fail
  go_loop [5] (fun i => ∃ k : Nat, k ≤ l.length ∧ i = .int .i64 k ∧ Hid (∀ j, j < k → hit l flow j = false)) (fun i => l.length - (intOf i).toNat)
  case atStart => exact ⟨0, Nat.zero_le _, rfl, fun j hj => by omega⟩
  case round =>
    obtain ⟨k, hk, rfl, hm⟩ := hrel
    by_cases hlt : k < l.length
    · obtain ⟨b, off, rfl, hbw, hc⟩ := hI (by omega)
      have hck := hc k hlt
      have hlt' : (k : Int) < (l.length : Int) := by omega
      have hcp : 0 < k → w.cell? ⟨b, off + (k - 1), none⟩ = some (.int .i64 (nth l (k - 1))) := fun h => hc (k - 1) (by omega)
      clear hc
      have hS := rsafeAt_any (some ⟨b, off, none⟩) c l (k + 1) flow w hl hI
      have hB := RBlank_any (nth l (k - 1)) w
      obtain ⟨x, hx⟩ : ∃ x, nth l k = x := ⟨_, rfl⟩
      rw [hx] at hck
      obtain ⟨b1, h1⟩ : ∃ b1, safeAt l (k + 1) flow = b1 := ⟨_, rfl⟩
      obtain ⟨b2, h2⟩ : ∃ b2, blankB (nth l (k - 1)) = b2 := ⟨_, rfl⟩
      obtain ⟨b3, h3⟩ : ∃ b3, flowB x = b3 := ⟨_, rfl⟩
      have HE := Lib.hid (hit_eq hx h1 h2 h3)
      rw [h1] at hS
      rw [h2] at hB
      have hF := RFlow_any x w
      rw [h3] at hF
      clear h1 h2 h3 hx
      have hk0 : ¬ 0 < k ∨ 0 < k := by omega
      have hx3 : x = 58 ∨ x = 35 ∨ (¬ x = 58 ∧ ¬ x = 35) := by omega
      rcases hx3 with rfl | rfl | ⟨e58, e35⟩
      · cases b1 <;> cases flow <;> cases b3
        all_goals
          go_wp2_with (first | (go_at_call 43; refine hS.mono ?_; rintro e w' ⟨rfl, rfl⟩) | (go_at_call 54; refine hF.mono ?_; rintro e w' ⟨rfl, rfl⟩))
          first
            | (go_ret; exact ⟨ret_int (by rw [stop_eq hk hm.out (fun _ => HE.out.trans (by simp))]), rfl⟩)
            | (go_round
               case rel => exact ⟨k + 1, by omega, by go_num, hit_next hm.out (HE.out.trans (by simp))⟩
               case measure => simp [intOf]; omega)
      · rcases hk0 with hk0 | hk0
        · have hk1 : ¬ (0 : Int) < (k : Int) := by omega
          have hk2 : decide ((0 : Int) < (k : Int)) = false := decide_eq_false hk1
          cases flow <;> cases b3
          all_goals
            go_wp2_with (go_at_call 54; refine hF.mono ?_; rintro e w' ⟨rfl, rfl⟩)
            first
              | (go_ret; exact ⟨ret_int (by rw [stop_eq hk hm.out (fun _ => HE.out.trans (by simp [hk0]))]), rfl⟩)
              | (go_round
                 case rel => exact ⟨k + 1, by omega, by go_num, hit_next hm.out (HE.out.trans (by simp [hk0]))⟩
                 case measure => simp [intOf]; omega)
        · have hcp' := hcp hk0
          have hk1 : (0 : Int) < (k : Int) := by omega
          have hk2 : (0 : Int) ≤ (k : Int) - 1 := by omega
          have hk3 : (k : Int) - 1 < (l.length : Int) := by omega
          have hk4 : ((k : Int) - 1).toNat = k - 1 := by omega
          cases b2 <;> cases flow <;> cases b3
          all_goals
            go_wp2_with (first | (go_at_call 46; refine hB.mono ?_; rintro e w' ⟨rfl, rfl⟩) | (go_at_call 54; refine hF.mono ?_; rintro e w' ⟨rfl, rfl⟩))
            first
              | (go_ret; exact ⟨ret_int (by rw [stop_eq hk hm.out (fun _ => HE.out.trans (by simp [hk0]))]), rfl⟩)
              | (go_round
                 case rel => exact ⟨k + 1, by omega, by go_num, hit_next hm.out (HE.out.trans (by simp))⟩
                 case measure => simp [intOf]; omega)
      · have e58' : (x == 58) = false := beq_eq_false_iff_ne.2 e58
        have e35' : (x == 35) = false := beq_eq_false_iff_ne.2 e35
        cases flow <;> cases b3
        all_goals
          go_wp2_with (go_at_call 54; refine hF.mono ?_; rintro e w' ⟨rfl, rfl⟩)
          first
            | (go_ret; exact ⟨ret_int (by rw [stop_eq hk hm.out (fun _ => HE.out.trans (by simp))]), rfl⟩)
            | (go_round
               case rel => exact ⟨k + 1, by omega, by go_num, hit_next hm.out (HE.out.trans (by simp [e58, e35]))⟩
               case measure => simp [intOf]; omega)
    · go_wp2_with fail
      go_ret
      exact ⟨ret_int (by rw [stop_all hk hlt hm.out]), rfl⟩
theorem Rstop_any (A : Option Addr) (c : Nat) (l : List Int) (flow : Bool) (w : World) (hl : l.length ≤ 9223372036854775807) (hI : IntsAt w w.heap.size A l) :
    Calls Tryd.prog 45 #[.slice A l.length c, .bool flow] w fun e w' => e = .returned (.int .i64 (stopN l flow)) ∧ Below w.heap.size w w' :=
  (Rstop_same A c l flow w hl hI).mono fun _ _ h => ⟨h.1, h.2 ▸ Below.refl _ _⟩
set_option maxHeartbeats 400000 in
theorem REnd_any (A : Option Addr) (c : Nat) (l : List Int) (flow : Bool) (w : World) (hl : l.length ≤ 9223372036854775807) (hI : IntsAt w w.heap.size A l) :
    Calls Tryd.prog 27 #[.slice A l.length c, .bool flow] w fun e w' => e = .returned (.int .i64 (endN l flow)) ∧ Below w.heap.size w w' := by
  have hst := Rstop_any A c l flow w hl hI
  have hle := (stop_spec l flow).1
  go_enter Tryd.func27, Tryd.ntmps27
  go_wp2_with fail
  refine hst.mono ?_
  rintro e w1 ⟨rfl, hb1⟩
  go_wp2_with fail
  have hI1 := hI.below hb1 (Nat.le_refl _)
  clear hst
  go_loop [5] (fun i => ∃ k : Nat, k ≤ l.length ∧ i = .int .i64 k ∧ Hid (trimN l k = endN l flow)) (fun i => (intOf i).toNat)
  case atStart => exact ⟨_, hle, rfl, rfl⟩
  case round =>
    obtain ⟨k, hk, rfl, hm⟩ := hrel
    by_cases h0 : 0 < k
    · obtain ⟨b, off, rfl, hbw, hc⟩ := hI1 (by omega)
      have hck := hc (k - 1) (by omega)
      clear hc
      have hB := RBlank_any (nth l (k - 1)) w1
      have hk0 : (0 : Int) < (k : Int) := by omega
      have hk1 : (0 : Int) ≤ (k : Int) - 1 := by omega
      have hk2 : (k : Int) - 1 < (l.length : Int) := by omega
      have hk3 : ((k : Int) - 1).toNat = k - 1 := by omega
      cases hbl : blankB (nth l (k - 1)) with
      | true =>
        rw [hbl] at hB
        have HB := Lib.hid hbl
        clear hbl
        go_wp2_with (go_at_call 46; refine hB.mono ?_; rintro e w' ⟨rfl, rfl⟩)
        go_round
        case rel => exact ⟨k - 1, by omega, by go_num, trim_step h0 hm.out HB.out⟩
        case measure => simp [intOf]; omega
      | false =>
        rw [hbl] at hB
        have HB := Lib.hid hbl
        clear hbl
        go_wp2_with (go_at_call 46; refine hB.mono ?_; rintro e w' ⟨rfl, rfl⟩)
        go_ret
        exact ⟨ret_int (by rw [← hm.out, trim_stop h0 HB.out]), hb1⟩
    · obtain rfl : k = 0 := by omega
      go_wp2_with fail
      go_ret
      exact ⟨ret_int (by rw [← hm.out]; rfl), hb1⟩
end Go.Proofs.YtnofdlpifpjlbaaDoor
