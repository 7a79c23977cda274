/- The walks of products and of the order. No condition but that a text is no longer than an int. -/
import Derived.Test.YtdnmllklceaknaaDoorDg6
namespace Go.Proofs.YtdnmllklceaknaaDoor
open Go.RowKit
open Dig
def timesS (s : ByteArray) (n : Int) : ByteArray := if 0 ≤ n ∧ n ≤ 1000000 then decS (valS s * n.toNat) else ⟨#[48]⟩
/-- The order of two decimal texts, as their lengths and their bytes tell it. -/
def lessS (a b : ByteArray) : Bool := decide (a.size < b.size) || (a.size == b.size && Op.bytesLess a.toList b.toList)
theorem times_out {s : ByteArray} {n : Int} (h : n < 0 ∨ 1000000 < n) : timesS s n = ⟨#[48]⟩ := by rw [timesS, if_neg (by omega)]
theorem times_in {s : ByteArray} {n : Nat} (h : n ≤ 1000000) : timesS s n = decS (valS s * n) := by rw [timesS, if_pos (by omega)]; simp
set_option maxHeartbeats 400000 in
theorem Times_any (s : ByteArray) (n : Int) (w : World) (hs : s.size ≤ maxLen) :
    Calls Tryd.prog 16 #[.string s, .int .i64 n] w fun e w' => e = .returned (.string (timesS s n)) ∧ Below w.heap.size w w' := by
  go_enter Tryd.func16, Tryd.ntmps16
  by_cases h1 : n < 0
  · have e := Lib.hid (times_out (s := s) (.inl h1))
    go_wp2_with fail
    go_ret
    exact ⟨by rw [e.out]; rfl, Below.refl _ _⟩
  · by_cases h2 : 1000000 < n
    · have e := Lib.hid (times_out (s := s) (.inr h2))
      go_wp2_with fail
      go_ret
      exact ⟨by rw [e.out]; rfl, Below.refl _ _⟩
    · obtain ⟨m, rfl⟩ : ∃ m : Nat, n = m := ⟨n.toNat, by omega⟩
      have e := Lib.hid (times_in (s := s) (n := m) (by omega))
      go_wp2_with fail
      refine (of_any s w hs).mono ?_
      rintro e w1 ⟨v, rfl, hown, hb1⟩
      obtain ⟨A, c, rfl, _, hI, _⟩ := hown.form
      have hlen := ofL_len s
      have hok := ofL_ok s
      clear hown
      go_wp2_with fail
      refine (times_any A c (ofL s) m 0 w1 (by omega) hok (by omega) (by omega) hI).mono ?_
      rintro e w2 ⟨v, rfl, r, hown, hok2, hv, hl2, hb2⟩
      obtain ⟨A2, c2, rfl, _, hI2, _⟩ := hown.form
      clear hown
      go_wp2_with fail
      refine (text_any A2 c2 r w2 (by omega) hok2 hI2).mono ?_
      rintro e w3 ⟨rfl, hb3⟩
      go_wp2_with fail
      go_ret
      exact ⟨by rw [e.out]; rfl, below_then (below_then hb1 hb2) hb3⟩
set_option maxHeartbeats 400000 in
theorem RTimes_any (s : ByteArray) (n : Int) (w : World) (hs : s.size ≤ maxLen) :
    Calls Tryd.prog 17 #[.string s, .int .i64 n] w fun e w' => e = .returned (.string (timesS s n)) ∧ Below w.heap.size w w' := by
  go_enter Tryd.func17, Tryd.ntmps17
  by_cases h1 : n < 0
  · have e := Lib.hid (times_out (s := s) (.inl h1))
    go_wp2_with fail
    go_ret
    exact ⟨by rw [e.out]; rfl, Below.refl _ _⟩
  · by_cases h2 : 1000000 < n
    · have e := Lib.hid (times_out (s := s) (.inr h2))
      go_wp2_with fail
      go_ret
      exact ⟨by rw [e.out]; rfl, Below.refl _ _⟩
    · obtain ⟨m, rfl⟩ : ∃ m : Nat, n = m := ⟨n.toNat, by omega⟩
      have e := Lib.hid (times_in (s := s) (n := m) (by omega))
      go_wp2_with fail
      refine (number_any s w hs).mono ?_
      rintro e w1 ⟨v, rfl, l, hown, hne, hok, hv1, hlen, hb1⟩
      obtain ⟨A, c, rfl, _, hI, _⟩ := hown.form
      clear hown
      go_wp2_with fail
      refine (rtimes_any A c l m 0 w1 (by omega) hok (by omega) (by omega) hI).mono ?_
      rintro e w2 ⟨v, rfl, r, hown, hne2, hok2, hv, hl2, hb2⟩
      obtain ⟨A2, c2, rfl, _, hI2, _⟩ := hown.form
      clear hown
      go_wp2_with fail
      refine (written_any A2 c2 r w2 hne2 (by omega) hok2 hI2).mono ?_
      rintro e w3 ⟨rfl, hb3⟩
      go_wp2_with fail
      go_ret
      exact ⟨by rw [e.out]; rfl, below_then (below_then hb1 hb2) hb3⟩
set_option maxHeartbeats 400000 in
theorem Less_any (a b : ByteArray) (w : World) (ha : a.size ≤ maxLen) (hb : b.size ≤ maxLen) :
    Calls Tryd.prog 14 #[.string a, .string b] w fun e w' => e = .returned (.bool (lessS (decS (valS a)) (decS (valS b)))) ∧ Below w.heap.size w w' := by
  obtain ⟨x, hx⟩ : ∃ x, decS (valS a) = x := ⟨_, rfl⟩
  obtain ⟨y, hy⟩ : ∃ y, decS (valS b) = y := ⟨_, rfl⟩
  rw [hx, hy]
  go_enter Tryd.func14, Tryd.ntmps14
  go_wp2_with fail
  refine (of_any a w ha).mono ?_
  rintro e w1 ⟨v, rfl, hown, hb1⟩
  obtain ⟨A, c, rfl, _, hI, _⟩ := hown.form
  clear hown
  go_wp2_with fail
  refine (text_any A c (ofL a) w1 (by have := ofL_len a; omega) (ofL_ok a) hI).mono ?_
  rintro e w2 ⟨rfl, hb2⟩
  have hb2 := below_then hb1 hb2
  go_wp2_with fail
  refine (of_any b w2 hb).mono ?_
  rintro e w3 ⟨v, rfl, hown, hb3⟩
  have hb3 := below_then hb2 hb3
  obtain ⟨A', c', rfl, _, hI', _⟩ := hown.form
  clear hown
  go_wp2_with fail
  refine (text_any A' c' (ofL b) w3 (by have := ofL_len b; omega) (ofL_ok b) hI').mono ?_
  rintro e w4 ⟨rfl, hb4⟩
  have hb4 := below_then hb3 hb4
  rw [← valS, ← valS, hx, hy]
  clear hx hy
  rcases Nat.lt_trichotomy x.size y.size with h | h | h
  · have h1 : (x.size : Int) < (y.size : Int) := by omega
    have h2 : ((x.size : Int) == (y.size : Int)) = false := beq_eq_false_iff_ne.2 (by omega)
    have h3 : ((x.size : Int) != (y.size : Int)) = true := bne_iff_ne.2 (by omega)
    have e : Hid (lessS x y = true) := by show _ = _; simp [lessS, h]
    clear h
    go_wp2_with fail
    go_ret
    exact ⟨ret_bool (by first | exact e.out.symm | simp [e.out, hl]), hb4⟩
  · obtain ⟨q, hq⟩ : ∃ q, Op.bytesLess x.toList y.toList = q := ⟨_, rfl⟩
    have e : Hid (lessS x y = q) := by show _ = _; simp [lessS, h, hq]
    have h1 : ¬ (x.size : Int) < (y.size : Int) := by omega
    have hl : ¬ x.size < y.size := by omega
    have h2 : ((x.size : Int) == (y.size : Int)) = true := beq_iff_eq.2 (by omega)
    have h3 : ((x.size : Int) != (y.size : Int)) = false := by simp [h]
    clear h
    go_wp2_with fail
    go_ret
    exact ⟨ret_bool (by first | exact e.out.symm | simp [e.out, hl]), hb4⟩
  · have hl : ¬ x.size < y.size := by omega
    have h1 : ¬ (x.size : Int) < (y.size : Int) := by omega
    have h2 : ((x.size : Int) == (y.size : Int)) = false := beq_eq_false_iff_ne.2 (by omega)
    have h3 : ((x.size : Int) != (y.size : Int)) = true := bne_iff_ne.2 (by omega)
    have e : Hid (lessS x y = false) := by
      have hn : ¬ x.size = y.size := by omega
      show _ = _; simp [lessS, hn, hl]
    clear h
    go_wp2_with fail
    go_ret
    exact ⟨ret_bool (by first | exact e.out.symm | simp [e.out, hl]), hb4⟩
set_option maxHeartbeats 400000 in
theorem RLess_any (a b : ByteArray) (w : World) (ha : a.size ≤ maxLen) (hb : b.size ≤ maxLen) :
    Calls Tryd.prog 15 #[.string a, .string b] w fun e w' => e = .returned (.bool (lessS (decS (valS a)) (decS (valS b)))) ∧ Below w.heap.size w w' := by
  obtain ⟨x, hx⟩ : ∃ x, decS (valS a) = x := ⟨_, rfl⟩
  obtain ⟨y, hy⟩ : ∃ y, decS (valS b) = y := ⟨_, rfl⟩
  rw [hx, hy]
  go_enter Tryd.func15, Tryd.ntmps15
  go_wp2_with fail
  refine (number_any a w ha).mono ?_
  rintro e w1 ⟨v, rfl, l, hown, hne, hok, hv, hlen, hb1⟩
  obtain ⟨A, c, rfl, _, hI, _⟩ := hown.form
  clear hown
  go_wp2_with fail
  have hW := written_any A c l w1 hne (by omega) hok hI
  rw [hv, hx] at hW
  refine hW.mono ?_
  rintro e w2 ⟨rfl, hb2⟩
  clear hW
  have hb2 := below_then hb1 hb2
  go_wp2_with fail
  refine (number_any b w2 hb).mono ?_
  rintro e w3 ⟨v, rfl, l', hown, hne', hok', hv', hlen', hb3⟩
  have hb3 := below_then hb2 hb3
  obtain ⟨A', c', rfl, _, hI', _⟩ := hown.form
  clear hown
  go_wp2_with fail
  have hW := written_any A' c' l' w3 hne' (by omega) hok' hI'
  rw [hv', hy] at hW
  refine hW.mono ?_
  rintro e w4 ⟨rfl, hb4⟩
  clear hW
  have hb4 := below_then hb3 hb4
  clear hx hy
  rcases Nat.lt_trichotomy x.size y.size with h | h | h
  · have h1 : (x.size : Int) < (y.size : Int) := by omega
    have h2 : ((x.size : Int) == (y.size : Int)) = false := beq_eq_false_iff_ne.2 (by omega)
    have h3 : ((x.size : Int) != (y.size : Int)) = true := bne_iff_ne.2 (by omega)
    have e : Hid (lessS x y = true) := by show _ = _; simp [lessS, h]
    clear h
    go_wp2_with fail
    go_ret
    exact ⟨ret_bool (by first | exact e.out.symm | simp [e.out, hl]), hb4⟩
  · obtain ⟨q, hq⟩ : ∃ q, Op.bytesLess x.toList y.toList = q := ⟨_, rfl⟩
    have e : Hid (lessS x y = q) := by show _ = _; simp [lessS, h, hq]
    have h1 : ¬ (x.size : Int) < (y.size : Int) := by omega
    have hl : ¬ x.size < y.size := by omega
    have h2 : ((x.size : Int) == (y.size : Int)) = true := beq_iff_eq.2 (by omega)
    have h3 : ((x.size : Int) != (y.size : Int)) = false := by simp [h]
    clear h
    go_wp2_with fail
    go_ret
    exact ⟨ret_bool (by first | exact e.out.symm | simp [e.out, hl]), hb4⟩
  · have hl : ¬ x.size < y.size := by omega
    have h1 : ¬ (x.size : Int) < (y.size : Int) := by omega
    have h2 : ((x.size : Int) == (y.size : Int)) = false := beq_eq_false_iff_ne.2 (by omega)
    have h3 : ((x.size : Int) != (y.size : Int)) = true := bne_iff_ne.2 (by omega)
    have e : Hid (lessS x y = false) := by
      have hn : ¬ x.size = y.size := by omega
      show _ = _; simp [lessS, hn, hl]
    clear h
    go_wp2_with fail
    go_ret
    exact ⟨ret_bool (by first | exact e.out.symm | simp [e.out, hl]), hb4⟩
end Go.Proofs.YtdnmllklceaknaaDoor
