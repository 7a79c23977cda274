/- The walks of sums. No condition but that a text is no longer than an int. -/
import Derived.Test.YtdnmllklceaknaaDoorDg7
namespace Go.Proofs.YtdnmllklceaknaaDoor
open Go.RowKit
open Dig
theorem add_step {lx ly : List Nat} {k : Nat} : val (lx.drop k) + val (ly.drop k) = (dig lx k + dig ly k) + 10 * (val (lx.drop (k + 1)) + val (ly.drop (k + 1))) := by
  rw [val_drop lx, val_drop ly]; omega
set_option maxHeartbeats 1000000 in
theorem Add_any (a b : ByteArray) (w : World) (ha : a.size ≤ maxLen) (hb : b.size ≤ maxLen) :
    Calls Tryd.prog 12 #[.string a, .string b] w fun e w' => e = .returned (.string (decS (valS a + valS b))) ∧ Below w.heap.size w w' := by
  go_enter Tryd.func12, Tryd.ntmps12
  go_wp2_with fail
  refine (of_any a w ha).mono ?_
  rintro e w1 ⟨v, rfl, hown, hb1⟩
  obtain ⟨A, c, rfl, _, hI, _⟩ := hown.form
  clear hown
  go_wp2_with fail
  refine (of_any b w1 hb).mono ?_
  rintro e w2 ⟨v, rfl, hown, hb2⟩
  obtain ⟨A', c', rfl, _, hI', _⟩ := hown.form
  clear hown
  have hI2 : IntsAt w2 w2.heap.size A (ints (ofL a)) := (hI.below hb2 (Nat.le_refl _)).more hb2.size
  have hb12 := below_then hb1 hb2
  have hlx := ofL_len a
  have hly := ofL_len b
  have hox := ofL_ok a
  have hoy := ofL_ok b
  have HX : Hid (valS a + valS b = val (ofL a) + val (ofL b)) := rfl
  generalize ofL a = lx at *
  generalize ofL b = ly at *
  clear hI hb1 hb2
  go_wp2_with fail
  go_loopw [7, 8, 9] (fun o mo i wr => ∃ (k x : Nat) (r : List Nat), i = .int .i64 k ∧ mo = .int .i64 x ∧ IOwn wr w2.heap.size o r ∧ Hid (MInv (val lx + val ly) k r x (val (lx.drop k) + val (ly.drop k))) ∧ k ≤ 5001 ∧ x ≤ 1 ∧ Hid (lx.length < k → ly.length < k → x = 0) ∧ Below w2.heap.size w2 wr) (fun _ _ i _ => 5002 - (intOf i).toNat)
  case atStart => exact ⟨0, 0, [], rfl, rfl, IOwn.empty _ _, ⟨rfl, (by intro d h; cases h), (by simp [val])⟩, by omega, by omega, fun _ _ => rfl, Below.refl _ _⟩
  case round =>
    obtain ⟨k, x, r, rfl, rfl, hown, hM, hk, hx, hz, hbl⟩ := hrel
    have hrl := hM.out.len
    have hsz := hbl.size
    have hA := at_any A c lx k wr (by omega) ((hI2.below hbl (Nat.le_refl _)).more hbl.size)
    have hA' := at_any A' c' ly k wr (by omega) ((hI'.below hbl (Nat.le_refl _)).more hbl.size)
    have hd := dig_lt hox k
    have hd' := dig_lt hoy k
    have HS : Hid (MInv (val lx + val ly) (k + 1) (r ++ [(x + (dig lx k + dig ly k)) % 10]) ((x + (dig lx k + dig ly k)) / 10) (val (lx.drop (k + 1)) + val (ly.drop (k + 1)))) := hM.out.step add_step
    have HZ : Hid (lx.length ≤ k → dig lx k = 0) := fun h => by simp [dig, List.getElem?_eq_none h]
    have HZ' : Hid (ly.length ≤ k → dig ly k = 0) := fun h => by simp [dig, List.getElem?_eq_none h]
    generalize dig lx k = d at *
    generalize dig ly k = d' at *
    by_cases hgo : (k < lx.length ∨ k < ly.length) ∨ 0 < x
    · have HE : Hid (k ≤ 5000) := by
        show _ ≤ _
        rcases hgo with (h | h) | h
        · omega
        · omega
        · rcases Nat.lt_or_ge 5000 k with h5 | h5
          · have := hz.out (by omega) (by omega); omega
          · exact h5
      have HZ2 : Hid (lx.length < k + 1 → ly.length < k + 1 → (x + (d + d')) / 10 = 0) := fun h1 h2 => by rw [HZ.out (by omega), HZ'.out (by omega)]; omega
      have hcs : (k : Int) < (lx.length : Int) ∨ (¬ (k : Int) < (lx.length : Int) ∧ (k : Int) < (ly.length : Int)) ∨ (¬ (k : Int) < (lx.length : Int) ∧ ¬ (k : Int) < (ly.length : Int) ∧ (0 : Int) < (x : Int)) := by omega
      clear hgo
      rcases hcs with h1 | ⟨h1, h2⟩ | ⟨h1, h2, h3⟩
      all_goals
        go_wp2_with (first
          | (go_at_call 25; refine hA.mono ?_; rintro e w' ⟨rfl, rfl⟩; clear hA)
          | (go_at_call 25; refine hA'.mono ?_; rintro e w' ⟨rfl, rfl⟩)
          | (at_builtin; refine wpList_app1 rfl _ _ _ rfl Tryd.underlying35 w2.heap.size u7 r ((x + (d + d')) % 10) _ (by omega) rfl hown _ rfl rfl (by omega) hsz ?_; intro v1 w3 hown1 hb3))
        go_roundw
        case rel => exact ⟨k + 1, (x + (d + d')) / 10, r ++ [(x + (d + d')) % 10], by go_num, by go_num, hown1, HS.out, by have := HE.out; omega, by omega, HZ2.out, hbl.trans hb3⟩
        case measure => have := HE.out; simp [intOf]; omega
    · have h1 : ¬ (k : Int) < (lx.length : Int) := by omega
      have h2 : ¬ (k : Int) < (ly.length : Int) := by omega
      obtain rfl : x = 0 := by omega
      have hv : val r = val lx + val ly := by
        have h := hM.out
        rw [List.drop_eq_nil_of_le (by omega), List.drop_eq_nil_of_le (by omega)] at h
        exact h.done
      have hok := hM.out.ok
      obtain ⟨A3, c3, rfl, _, hI3, _⟩ := hown.form
      have hT := text_any A3 c3 r wr (by omega) hok hI3
      rw [hv] at hT
      clear hgo hv hok hA hA' hrl
      go_wp2_with fail
      refine hT.mono ?_
      rintro e w4 ⟨rfl, hb4⟩
      go_wp2_with fail
      go_ret
      exact ⟨by rw [HX.out]; rfl, below_then (hb12.trans (hbl.mono hb12.size)) hb4⟩
set_option maxHeartbeats 2000000 in
theorem RAdd_any (a b : ByteArray) (w : World) (ha : a.size ≤ maxLen) (hb : b.size ≤ maxLen) :
    Calls Tryd.prog 13 #[.string a, .string b] w fun e w' => e = .returned (.string (decS (valS a + valS b))) ∧ Below w.heap.size w w' := by
  go_enter Tryd.func13, Tryd.ntmps13
  go_wp2_with fail
  refine (number_any a w ha).mono ?_
  rintro e w1 ⟨v, rfl, lx, hown, hnx, hox, hvx, hlx, hb1⟩
  obtain ⟨A, c, rfl, _, hI, _⟩ := hown.form
  clear hown
  go_wp2_with fail
  refine (number_any b w1 hb).mono ?_
  rintro e w2 ⟨v, rfl, ly, hown, hny, hoy, hvy, hly, hb2⟩
  obtain ⟨A', c', rfl, _, hI', _⟩ := hown.form
  clear hown
  have hI2 : IntsAt w2 w2.heap.size A (ints lx) := (hI.below hb2 (Nat.le_refl _)).more hb2.size
  have hb12 := below_then hb1 hb2
  have HX : Hid (valS a + valS b = val lx + val ly) := by show _ = _; rw [hvx, hvy]
  have HN : Hid (0 < lx.length) := by show 0 < _; cases lx; exact (hnx rfl).elim; simp
  clear hI hb1 hb2 hvx hvy hnx hny
  go_wp2_with fail
  go_loopw [7, 8, 9] (fun o mo i wr => ∃ (k x : Nat) (r : List Nat), i = .int .i64 k ∧ mo = .int .i64 x ∧ IOwn wr w2.heap.size o r ∧ Hid (MInv (val lx + val ly) k r x (val (lx.drop k) + val (ly.drop k))) ∧ k ≤ 5001 ∧ x ≤ 1 ∧ Hid (lx.length < k → ly.length < k → x = 0) ∧ Below w2.heap.size w2 wr) (fun _ _ i _ => 5002 - (intOf i).toNat)
  case atStart => exact ⟨0, 0, [], rfl, rfl, IOwn.empty _ _, ⟨rfl, (by intro d h; cases h), (by simp [val])⟩, by omega, by omega, fun _ _ => rfl, Below.refl _ _⟩
  case round =>
    obtain ⟨k, x, r, rfl, rfl, hown, hM, hk, hx, hz, hbl⟩ := hrel
    have hrl := hM.out.len
    have hsz := hbl.size
    have HCX : Hid (k < lx.length → ∃ b off, A = some ⟨b, off, none⟩ ∧ wr.cell? ⟨b, off + k, none⟩ = some (.int .i64 (dig lx k))) := fun h => by
      obtain ⟨b, off, rfl, hbw, hc⟩ := hI2 (by rw [ints_len]; omega)
      have := (hbl.cell (p := ⟨b, off + k, none⟩) hbw).trans (hc k (by rw [ints_len]; omega))
      rw [nth_ints] at this
      exact ⟨b, off, rfl, this⟩
    have HCY : Hid (k < ly.length → ∃ b off, A' = some ⟨b, off, none⟩ ∧ wr.cell? ⟨b, off + k, none⟩ = some (.int .i64 (dig ly k))) := fun h => by
      obtain ⟨b, off, rfl, hbw, hc⟩ := hI' (by rw [ints_len]; omega)
      have := (hbl.cell (p := ⟨b, off + k, none⟩) hbw).trans (hc k (by rw [ints_len]; omega))
      rw [nth_ints] at this
      exact ⟨b, off, rfl, this⟩
    have hd := dig_lt hox k
    have hd' := dig_lt hoy k
    have HS : Hid (MInv (val lx + val ly) (k + 1) (r ++ [(x + (dig lx k + dig ly k)) % 10]) ((x + (dig lx k + dig ly k)) / 10) (val (lx.drop (k + 1)) + val (ly.drop (k + 1)))) := hM.out.step add_step
    have HZ : Hid (lx.length ≤ k → dig lx k = 0) := fun h => by simp [dig, List.getElem?_eq_none h]
    have HZ' : Hid (ly.length ≤ k → dig ly k = 0) := fun h => by simp [dig, List.getElem?_eq_none h]
    generalize dig lx k = d at *
    generalize dig ly k = d' at *
    by_cases hgo : (k < lx.length ∨ k < ly.length) ∨ 0 < x
    · have HE : Hid (k ≤ 5000) := by
        show _ ≤ _
        rcases hgo with (h | h) | h
        · omega
        · omega
        · rcases Nat.lt_or_ge 5000 k with h5 | h5
          · have := hz.out (by omega) (by omega); omega
          · exact h5
      have HZ2 : Hid (lx.length < k + 1 → ly.length < k + 1 → (x + (d + d')) / 10 = 0) := fun h1 h2 => by rw [HZ.out (by omega), HZ'.out (by omega)]; omega
      by_cases hx1 : k < lx.length
      · obtain ⟨b1, o1, rfl, hc1⟩ := HCX.out hx1
        have h1 : (k : Int) < (lx.length : Int) := by omega
        by_cases hy1 : k < ly.length
        · obtain ⟨b2, o2, rfl, hc2⟩ := HCY.out hy1
          have h2 : (k : Int) < (ly.length : Int) := by omega
          clear hgo
          go_wp2_with (at_builtin; refine wpList_app1 rfl _ _ _ rfl Tryd.underlying26 w2.heap.size u7 r ((x + (d + d')) % 10) _ (by omega) rfl hown _ rfl rfl (by omega) hsz ?_; intro v1 w3 hown1 hb3)
          go_roundw
          case rel => exact ⟨k + 1, (x + (d + d')) / 10, r ++ [(x + (d + d')) % 10], by go_num, by congr 1 <;> omega, hown1, HS.out, by have := HE.out; omega, by omega, HZ2.out, hbl.trans hb3⟩
          case measure => have := HE.out; simp [intOf]; omega
        · have h2 : ¬ (k : Int) < (ly.length : Int) := by omega
          obtain rfl := HZ'.out (by omega)
          clear hgo
          go_wp2_with (at_builtin; refine wpList_app1 rfl _ _ _ rfl Tryd.underlying26 w2.heap.size u7 r ((x + (d + 0)) % 10) _ (by omega) rfl hown _ rfl rfl (by omega) hsz ?_; intro v1 w3 hown1 hb3)
          go_roundw
          case rel => exact ⟨k + 1, (x + (d + 0)) / 10, r ++ [(x + (d + 0)) % 10], by go_num, by congr 1 <;> omega, hown1, HS.out, by have := HE.out; omega, by omega, HZ2.out, hbl.trans hb3⟩
          case measure => have := HE.out; simp [intOf]; omega
      · have h1 : ¬ (k : Int) < (lx.length : Int) := by omega
        obtain rfl := HZ.out (by omega)
        by_cases hy1 : k < ly.length
        · obtain ⟨b2, o2, rfl, hc2⟩ := HCY.out hy1
          have h2 : (k : Int) < (ly.length : Int) := by omega
          clear hgo
          go_wp2_with (at_builtin; refine wpList_app1 rfl _ _ _ rfl Tryd.underlying26 w2.heap.size u7 r ((x + (0 + d')) % 10) _ (by omega) rfl hown _ rfl rfl (by omega) hsz ?_; intro v1 w3 hown1 hb3)
          go_roundw
          case rel => exact ⟨k + 1, (x + (0 + d')) / 10, r ++ [(x + (0 + d')) % 10], by go_num, by congr 1 <;> omega, hown1, HS.out, by have := HE.out; omega, by omega, HZ2.out, hbl.trans hb3⟩
          case measure => have := HE.out; simp [intOf]; omega
        · have h2 : ¬ (k : Int) < (ly.length : Int) := by omega
          obtain rfl := HZ'.out (by omega)
          have h3 : (0 : Int) < (x : Int) := by omega
          clear hgo
          go_wp2_with (at_builtin; refine wpList_app1 rfl _ _ _ rfl Tryd.underlying26 w2.heap.size u7 r ((x + (0 + 0)) % 10) _ (by omega) rfl hown _ rfl rfl (by omega) hsz ?_; intro v1 w3 hown1 hb3)
          go_roundw
          case rel => exact ⟨k + 1, (x + (0 + 0)) / 10, r ++ [(x + (0 + 0)) % 10], by go_num, by congr 1 <;> omega, hown1, HS.out, by have := HE.out; omega, by omega, HZ2.out, hbl.trans hb3⟩
          case measure => have := HE.out; simp [intOf]; omega
    · have h1 : ¬ (k : Int) < (lx.length : Int) := by omega
      have h2 : ¬ (k : Int) < (ly.length : Int) := by omega
      obtain rfl : x = 0 := by omega
      have hv : val r = val lx + val ly := by
        have h := hM.out
        rw [List.drop_eq_nil_of_le (by omega), List.drop_eq_nil_of_le (by omega)] at h
        exact h.done
      have hok := hM.out.ok
      have hne : r ≠ [] := by rintro rfl; have := HN.out; simp at hrl; omega
      obtain ⟨A3, c3, rfl, _, hI3, _⟩ := hown.form
      have hT := written_any A3 c3 r wr hne (by omega) hok hI3
      rw [hv] at hT
      clear hgo hv hok hrl hne
      go_wp2_with fail
      refine hT.mono ?_
      rintro e w4 ⟨rfl, hb4⟩
      go_wp2_with fail
      go_ret
      exact ⟨by rw [HX.out]; rfl, below_then (hb12.trans (hbl.mono hb12.size)) hb4⟩
theorem dec_small {n : Nat} (h : n < 10) : dec n = [n] := by rw [dec, decRev, if_pos h]; rfl
theorem dec_big {n : Nat} (h : 10 ≤ n) : dec n = dec (n / 10) ++ [n % 10] := by
  rw [dec, decRev, if_neg (by omega), List.reverse_cons, dec]
  congr 2
  rw [decRev_fuel n (n / 10) (by omega)]
theorem decS_small {n : Nat} (h : n < 10) : decS n = ⟨#[chB n]⟩ := by rw [decS, dec_small h]; rfl
theorem decS_big {n : Nat} (h : 10 ≤ n) : decS n = decS (n / 10) ++ ⟨#[chB (n % 10)]⟩ := by
  have e : ∀ (x y : List UInt8), (⟨(x ++ y).toArray⟩ : ByteArray) = ⟨x.toArray⟩ ++ ⟨y.toArray⟩ := fun x y => by
    apply ByteArray.ext; simp
  rw [decS, dec_big h, List.map_append, e]; rfl
theorem decRev_len (f : Nat) : ∀ n, (decRev f n).length ≤ f := by
  induction f with
  | zero => intro n; simp [decRev]
  | succ f ih => intro n; unfold decRev; split; simp; simpa using ih _
theorem decS_size (n : Nat) : (decS n).size ≤ n + 1 := by
  have := decRev_len (n + 1) n
  show ((dec n).map _).toArray.size ≤ _
  simp [dec]; exact this
/-- The digit d, cut out of the digits' own text. -/
theorem digit_cut {d : Nat} (h : d < 10) : (⟨#[48, 49, 50, 51, 52, 53, 54, 55, 56, 57]⟩ : ByteArray).extract d (d + 1) = ⟨#[chB d]⟩ := by
  match d, h with
  | 0, _ => decide +kernel
  | 1, _ => decide +kernel
  | 2, _ => decide +kernel
  | 3, _ => decide +kernel
  | 4, _ => decide +kernel
  | 5, _ => decide +kernel
  | 6, _ => decide +kernel
  | 7, _ => decide +kernel
  | 8, _ => decide +kernel
  | 9, _ => decide +kernel
set_option maxHeartbeats 1000000 in
theorem Digits_any : ∀ (n : Nat) (w : World), n ≤ 9223372036854775807 → Calls Tryd.prog 11 #[.int .i64 n] w fun e w' => e = .returned (.string (decS n)) ∧ Below w.heap.size w w' := by
  intro n
  induction n using Nat.strongRecOn with
  | ind n ih =>
    intro w hn
    have hm : n % 10 < 10 := Nat.mod_lt _ (by omega)
    have hc := digit_cut hm
    go_enter Tryd.func11, Tryd.ntmps11
    by_cases h : n < 10
    · have e := Lib.hid (decS_small h)
      have hm2 : n % 10 = n := Nat.mod_eq_of_lt h
      have h9 : ¬ (9 : Int) < (n : Int) := by omega
      have HC := Lib.hid (digit_cut h)
      clear hc
      go_wp2_with fail
      go_ret
      exact ⟨by rw [e.out, ← HC.out]; rfl, Below.refl _ _⟩
    · have e := Lib.hid (decS_big (Nat.le_of_not_lt h))
      have h9 : (9 : Int) < (n : Int) := by omega
      have hi := ih (n / 10) (by omega) w (by omega)
      rw [show ((n / 10 : Nat) : Int) = (n : Int) / 10 by omega] at hi
      have HC := Lib.hid hc
      have hdz := decS_size (n / 10)
      clear hc ih
      go_wp2_with fail
      refine hi.mono ?_
      rintro e' w1 ⟨rfl, hb1⟩
      go_wp2_with fail
      go_ret
      exact ⟨by rw [e.out, ← HC.out]; rfl, hb1⟩
end Go.Proofs.YtdnmllklceaknaaDoor
