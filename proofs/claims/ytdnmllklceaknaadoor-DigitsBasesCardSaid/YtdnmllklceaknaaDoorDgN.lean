/- The walks of the laws on small numbers and of the laws of sums. No condition. -/
import Derived.Test.YtdnmllklceaknaaDoorDgM
namespace Go.Proofs.YtdnmllklceaknaaDoor
open Go.RowKit
open Dig
set_option maxRecDepth 100000 in
set_option maxHeartbeats 2000000 in
theorem digitsSmall_walk (a : Int) (_wa : (Lit.int .i64 a).wf = true) (b : Int) (_wb : (Lit.int .i64 b).wf = true) (n : Int) (_wn : (Lit.int .i64 n).wf = true) (w : World) :
    Calls Tryd.prog 6 #[.int .i64 a, .int .i64 b, .int .i64 n] w fun e w' => e = .returned (.bool true) ∧ Below w.heap.size w w' := by
  go_enter Tryd.func6, Tryd.ntmps6
  go_wp2_with fail
  refine (alive4_any _).mono ?_
  rintro e w1 ⟨rfl, hb1⟩
  by_cases hin : 0 ≤ a ∧ a ≤ 1099511627776 ∧ 0 ≤ b ∧ b ≤ 1099511627776 ∧ 0 ≤ n ∧ n ≤ 1000000
  · obtain ⟨a1, a2, b1, b2, n1, n2⟩ := hin
    obtain ⟨x, rfl⟩ : ∃ x : Nat, a = x := ⟨a.toNat, by omega⟩
    obtain ⟨y, rfl⟩ : ∃ y : Nat, b = y := ⟨b.toNat, by omega⟩
    obtain ⟨m, rfl⟩ : ∃ m : Nat, n = m := ⟨n.toNat, by omega⟩
    have hxs : (decS x).size ≤ 13 := decS_len (k := 12) (by have : (10:Nat)^(12+1) = 10000000000000 := by decide
                                                            omega)
    have hys : (decS y).size ≤ 13 := decS_len (k := 12) (by have : (10:Nat)^(12+1) = 10000000000000 := by decide
                                                            omega)
    have hxv : valS (decS x) = x := valS_dec (by omega)
    have hyv : valS (decS y) = y := valS_dec (by omega)
    have hmx : (decS x).size ≤ maxLen := by unfold maxLen; omega
    have hmy : (decS y).size ≤ maxLen := by unfold maxLen; omega
    obtain ⟨p, hp⟩ : ∃ p, x * m = p := ⟨_, rfl⟩
    have hpb : p ≤ 1099511627776000000 := by rw [← hp]; exact Nat.le_trans (Nat.mul_le_mul (show x ≤ 1099511627776 by omega) (show m ≤ 1000000 by omega)) (by decide)
    have hpi : (x : Int) * (m : Int) = (p : Int) := by rw [← hp]; simp
    have hAdd := fun w => Add_any (decS x) (decS y) w hmx hmy
    rw [hxv, hyv] at hAdd
    have hLess := fun w => Less_any (decS x) (decS y) w hmx hmy
    rw [hxv, hyv, lessS_dec] at hLess
    have hTim := fun w => Times_any (decS x) m w hmx
    rw [times_in (by omega), hxv, hp] at hTim
    have HAdd := Lib.hid hAdd
    have HLess := Lib.hid hLess
    have HTim := Lib.hid hTim
    have hD1 := fun w => Digits_any x w (by omega)
    have hD2 := fun w => Digits_any y w (by omega)
    have hD3 := fun w => Digits_any (x + y) w (by omega)
    have hD4 := fun w => Digits_any p w (by omega)
    have HD1 := Lib.hid hD1
    have HD2 := Lib.hid hD2
    have HD3 := Lib.hid hD3
    have HD4 := Lib.hid hD4
    have d1 : decide ((x : Int) < 0) = false := decide_eq_false (by omega)
    have d2 : decide ((1099511627776 : Int) < (x : Int)) = false := decide_eq_false (by omega)
    have d3 : decide ((y : Int) < 0) = false := decide_eq_false (by omega)
    have d4 : decide ((1099511627776 : Int) < (y : Int)) = false := decide_eq_false (by omega)
    have d5 : decide ((m : Int) < 0) = false := decide_eq_false (by omega)
    have d6 : decide ((1000000 : Int) < (m : Int)) = false := decide_eq_false (by omega)
    clear hAdd hLess hTim hD1 hD2 hD3 hD4 hxs hys hxv hyv hmx hmy hp
    go_wp2_with fail
    refine (HD1.out _).mono ?_
    rintro e w2 ⟨rfl, hb2⟩
    have hb2 := below_then hb1 hb2
    go_wp2_with fail
    refine (HD2.out _).mono ?_
    rintro e w3 ⟨rfl, hb3⟩
    have hb3 := below_then hb2 hb3
    go_wp2_with fail
    refine (HAdd.out _).mono ?_
    rintro e w4 ⟨rfl, hb4⟩
    have hb4 := below_then hb3 hb4
    go_wp2_with fail
    have hq := HD3.out w4
    rw [show ((x + y : Nat) : Int) = (x : Int) + (y : Int) by omega] at hq
    refine hq.mono ?_
    clear hq
    rintro e w5 ⟨rfl, hb5⟩
    have hb5 := below_then hb4 hb5
    go_wp2_with fail
    refine (HLess.out _).mono ?_
    rintro e w6 ⟨rfl, hb6⟩
    have hb6 := below_then hb5 hb6
    rcases Nat.lt_or_ge x y with hxy | hxy
    · have hx1 : (x : Int) < (y : Int) := by omega
      have hx2 : decide ((x : Int) < (y : Int)) = true := decide_eq_true hx1
      rw [decide_eq_true hxy]
      clear hxy
      go_wp2_with fail
      refine (HTim.out _).mono ?_
      rintro e w7 ⟨rfl, hb7⟩
      have hb7 := below_then hb6 hb7
      go_wp2_with fail
      refine (HD4.out _).mono ?_
      rintro e w8 ⟨rfl, hb8⟩
      have hb8 := below_then hb7 hb8
      go_wp2_with fail
      go_ret
      exact ⟨rfl, hb8⟩
    · have hx1 : ¬ (x : Int) < (y : Int) := by omega
      have hxn : ¬ x < y := by omega
      have hx2 : decide ((x : Int) < (y : Int)) = false := decide_eq_false hx1
      rw [decide_eq_false (Nat.not_lt.2 hxy)]
      clear hxy
      go_wp2_with fail
      refine (HTim.out _).mono ?_
      rintro e w7 ⟨rfl, hb7⟩
      have hb7 := below_then hb6 hb7
      go_wp2_with fail
      refine (HD4.out _).mono ?_
      rintro e w8 ⟨rfl, hb8⟩
      have hb8 := below_then hb7 hb8
      go_wp2_with fail
      go_ret
      exact ⟨ret_bool (by simp), hb8⟩
  · have hout : a < 0 ∨ (¬ a < 0 ∧ 1099511627776 < a) ∨ (¬ a < 0 ∧ ¬ 1099511627776 < a ∧ b < 0) ∨ (¬ a < 0 ∧ ¬ 1099511627776 < a ∧ ¬ b < 0 ∧ 1099511627776 < b) ∨
      (¬ a < 0 ∧ ¬ 1099511627776 < a ∧ ¬ b < 0 ∧ ¬ 1099511627776 < b ∧ n < 0) ∨ (¬ a < 0 ∧ ¬ 1099511627776 < a ∧ ¬ b < 0 ∧ ¬ 1099511627776 < b ∧ ¬ n < 0 ∧ 1000000 < n) := by omega
    clear hin
    rcases hout with h1 | ⟨h1, h2⟩ | ⟨h1, h2, h3⟩ | ⟨h1, h2, h3, h4⟩ | ⟨h1, h2, h3, h4, h5⟩ | ⟨h1, h2, h3, h4, h5, h6⟩
    all_goals
      go_wp2_with fail
      go_ret
      exact ⟨rfl, hb1⟩
theorem pow_small {n k : Nat} (h : n < 10 ^ (k + 1)) (hk : k + 1 ≤ 5000) : valS (decS n) = n ∧ (decS n).size ≤ maxLen := by
  have := decS_len h
  exact ⟨valS_dec (by omega), by unfold maxLen; omega⟩
set_option maxRecDepth 100000 in
set_option maxHeartbeats 4000000 in
theorem digitsLaws_walk (a : ByteArray) (ha : a.size ≤ maxLen) (b : ByteArray) (hb : b.size ≤ maxLen) (c : ByteArray) (hc : c.size ≤ maxLen) (n : Int) (_wn : (Lit.int .i64 n).wf = true) (w : World) :
    Calls Tryd.prog 7 #[.string a, .string b, .string c, .int .i64 n] w fun e w' => e = .returned (.bool true) ∧ Below w.heap.size w w' := by
  have HA : Hid (a.size ≤ maxLen) := ha
  have HB : Hid (b.size ≤ maxLen) := hb
  have HC : Hid (c.size ≤ maxLen) := hc
  unfold maxLen at ha hb hc
  go_enter Tryd.func7, Tryd.ntmps7
  go_wp2_with fail
  refine (alive4_any _).mono ?_
  rintro e w1 ⟨rfl, hb1⟩
  by_cases hin : (a.size : Int) ≤ 100 ∧ (b.size : Int) ≤ 100 ∧ (c.size : Int) ≤ 100 ∧ 0 ≤ n ∧ n ≤ 30
  · obtain ⟨h1, h2, h3, h4, h5⟩ := hin
    obtain ⟨m, rfl⟩ : ∃ m : Nat, n = m := ⟨n.toNat, by omega⟩
    have hp : ∀ s : ByteArray, (s.size : Int) ≤ 100 → valS s < 10 ^ 100 := fun s h => Nat.lt_of_lt_of_le (valS_lt s) (Nat.pow_le_pow_right (by decide) (by omega))
    have hA := hp a h1
    have hB := hp b h2
    have hC := hp c h3
    clear hp
    have hten : (10 : Nat) ^ (104 + 1) = 100000 * 10 ^ 100 := by rw [show 104 + 1 = 5 + 100 from rfl, Nat.pow_add]
    have hAB := pow_small (n := valS a + valS b) (k := 104) (by omega) (by omega)
    have hBC := pow_small (n := valS b + valS c) (k := 104) (by omega) (by omega)
    have HP : Hid (∀ k, k ≤ 30 → valS (decS (valS a * k)) = valS a * k ∧ (decS (valS a * k)).size ≤ maxLen) := fun k hk => by
      refine pow_small (k := 104) ?_ (by omega)
      have : valS a * k ≤ valS a * 30 := Nat.mul_le_mul_left _ hk
      omega
    have HAB := fun w => Add_any a b w HA.out HB.out
    have HBA := fun w => Add_any b a w HB.out HA.out
    rw [Nat.add_comm] at HBA
    have HSC := fun w => Add_any (decS (valS a + valS b)) c w hAB.2 HC.out
    rw [hAB.1] at HSC
    have HBC := fun w => Add_any b c w HB.out HC.out
    have HABC := fun w => Add_any a (decS (valS b + valS c)) w HA.out hBC.2
    rw [hBC.1, ← Nat.add_assoc] at HABC
    have HT := fun w => Times_any a m w HA.out
    rw [times_in (by omega)] at HT
    have HL1 := fun w => Less_any (decS (valS a + valS b)) a w hAB.2 HA.out
    rw [hAB.1, lessS_dec, decide_eq_false (by omega)] at HL1
    have HL2 := fun w => Less_any (decS (valS a + valS b)) b w hAB.2 HB.out
    rw [hAB.1, lessS_dec, decide_eq_false (by omega)] at HL2
    have HZ := fun w => Add_any a ⟨#[48]⟩ w HA.out (by decide)
    rw [show valS ⟨#[48]⟩ = 0 from by decide +kernel, Nat.add_zero] at HZ
    have HO := fun w => Times_any a 1 w HA.out
    rw [show (1 : Int) = ((1 : Nat) : Int) from rfl, times_in (by omega), Nat.mul_one] at HO
    rw [show ((1 : Nat) : Int) = 1 from rfl] at HO
    have HS : Hid (∀ k, k + 1 ≤ 30 → ∀ w, Calls Tryd.prog 12 #[.string (decS (valS a * k)), .string a] w fun e w' => e = .returned (.string (decS (valS a * (k + 1)))) ∧ Below w.heap.size w w') := fun k hk w => by
      have h := Add_any (decS (valS a * k)) a w (HP.out k (by omega)).2 HA.out
      rwa [(HP.out k (by omega)).1, ← Nat.mul_succ] at h
    have Z0 : Hid ((⟨#[48]⟩ : ByteArray) = decS (valS a * 0)) := by show _ = _; rw [Nat.mul_zero]; decide +kernel
    generalize valS a = A at *
    generalize valS b = B at *
    generalize valS c = C at *
    have KAB := Lib.hid HAB
    have KBA := Lib.hid HBA
    have KSC := Lib.hid HSC
    have KBC := Lib.hid HBC
    have KABC := Lib.hid HABC
    have KT := Lib.hid HT
    have KL1 := Lib.hid HL1
    have KL2 := Lib.hid HL2
    have KZ := Lib.hid HZ
    have KO := Lib.hid HO
    clear HAB HBA HSC HBC HABC HT HL1 HL2 HZ HO hten hAB hBC hA hB hC
    have d1 : decide ((100 : Int) < (a.size : Int)) = false := decide_eq_false (by omega)
    have d2 : decide ((100 : Int) < (b.size : Int)) = false := decide_eq_false (by omega)
    have d3 : decide ((100 : Int) < (c.size : Int)) = false := decide_eq_false (by omega)
    have d4 : decide ((m : Int) < 0) = false := decide_eq_false (by omega)
    have d5 : decide ((30 : Int) < (m : Int)) = false := decide_eq_false (by omega)
    have hm30 : m ≤ 30 := by omega
    go_wp2_with fail
    refine (KAB.out _).mono ?_
    rintro e w2 ⟨rfl, hb2⟩
    have hb2 := below_then hb1 hb2
    go_wp2_with fail
    go_loopw [11, 12] (fun p i wr => ∃ k : Nat, k ≤ m ∧ i = .int .i64 k ∧ p = .string (decS (A * k)) ∧ Below w.heap.size w wr) (fun _ i _ => m - (intOf i).toNat)
    case atStart => exact ⟨0, Nat.zero_le _, rfl, by rw [← Z0.out], hb2⟩
    case round =>
      clear hb1 hb2
      obtain ⟨k, hk, rfl, rfl, hbl⟩ := hrel
      by_cases hlt : k < m
      · have hlt' : (k : Int) < (m : Int) := by omega
        have KS := Lib.hid (HS.out k (by omega))
        go_wp2_with (go_at_call 12; refine (KS.out _).mono ?_; rintro e w3 ⟨rfl, hb3⟩)
        go_roundw
        case rel => exact ⟨k + 1, by omega, by go_num, rfl, hbl.trans (hb3.mono hbl.size)⟩
        case measure => simp [intOf]; omega
      · obtain rfl : k = m := by omega
        go_wp2_with fail
        refine (KBA.out _).mono ?_
        rintro e w3 ⟨rfl, hb3⟩
        have hb3 := below_then hbl hb3
        go_wp2_with fail
        refine (KSC.out _).mono ?_
        rintro e w4 ⟨rfl, hb4⟩
        have hb4 := below_then hb3 hb4
        go_wp2_with fail
        refine (KBC.out _).mono ?_
        rintro e w5 ⟨rfl, hb5⟩
        have hb5 := below_then hb4 hb5
        go_wp2_with fail
        refine (KABC.out _).mono ?_
        rintro e w6 ⟨rfl, hb6⟩
        have hb6 := below_then hb5 hb6
        go_wp2_with fail
        refine (KT.out _).mono ?_
        rintro e w7 ⟨rfl, hb7⟩
        have hb7 := below_then hb6 hb7
        go_wp2_with fail
        refine (KL1.out _).mono ?_
        rintro e w8 ⟨rfl, hb8⟩
        have hb8 := below_then hb7 hb8
        go_wp2_with fail
        refine (KL2.out _).mono ?_
        rintro e w9 ⟨rfl, hb9⟩
        have hb9 := below_then hb8 hb9
        go_wp2_with fail
        refine (KZ.out _).mono ?_
        rintro e w10 ⟨rfl, hb10⟩
        have hb10 := below_then hb9 hb10
        go_wp2_with fail
        refine (KO.out _).mono ?_
        rintro e w11 ⟨rfl, hb11⟩
        have hb11 := below_then hb10 hb11
        go_wp2_with fail
        go_ret
        exact ⟨rfl, hb11⟩
  · have hout : (100 : Int) < (a.size : Int) ∨ (¬ (100 : Int) < (a.size : Int) ∧ (100 : Int) < (b.size : Int)) ∨ (¬ (100 : Int) < (a.size : Int) ∧ ¬ (100 : Int) < (b.size : Int) ∧ (100 : Int) < (c.size : Int)) ∨
      (¬ (100 : Int) < (a.size : Int) ∧ ¬ (100 : Int) < (b.size : Int) ∧ ¬ (100 : Int) < (c.size : Int) ∧ n < 0) ∨ (¬ (100 : Int) < (a.size : Int) ∧ ¬ (100 : Int) < (b.size : Int) ∧ ¬ (100 : Int) < (c.size : Int) ∧ ¬ n < 0 ∧ 30 < n) := by omega
    clear hin
    rcases hout with h1 | ⟨h1, h2⟩ | ⟨h1, h2, h3⟩ | ⟨h1, h2, h3, h4⟩ | ⟨h1, h2, h3, h4, h5⟩
    all_goals
      go_wp2_with fail
      go_ret
      exact ⟨rfl, hb1⟩
end Go.Proofs.YtdnmllklceaknaaDoor
