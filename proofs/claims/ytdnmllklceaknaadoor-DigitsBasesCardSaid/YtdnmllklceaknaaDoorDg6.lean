/- The walks of the reference's number and times. Condition: lists that are not too long. -/
import Derived.Test.YtdnmllklceaknaaDoorDg5
import Derived.RangeFuncBox
namespace Go.Proofs.YtdnmllklceaknaaDoor
open Go.RowKit
open Dig
theorem rev_take_dig {l : List Nat} {k : Nat} (h : k < l.length) : l.reverse.take (k + 1) = l.reverse.take k ++ [dig l (l.length - 1 - k)] := by
  rw [List.take_succ_eq_append_getElem (by simpa using h), List.getElem_reverse]
  simp [dig, show l.length - 1 - k < l.length by omega]
theorem hexL_len (s : ByteArray) (base : Int) : (hexL s base).length ≤ 5000 := by
  unfold hexL
  split
  · rename_i h; simpa using h.2.1
  · simp
/-- A row that holds but one number. -/
theorem one_own (w : World) (d : Nat) (z : Int) (hz : z = (d : Int)) (B : Nat) (hB : B ≤ w.heap.size) : IOwn (w.alloc (.cells #[.int .i64 z] 3)) B (.slice (some ⟨w.heap.size, 0, none⟩) 1 1) [d] := by
  subst hz
  exact ⟨⟨rfl, .inr ⟨w.heap.size, 1, _, rfl, hB, World.alloc_heap_new _ _, Nat.le_refl _, by simp [maxLen], rfl, rfl⟩⟩, fun h => by cases h⟩
theorem IOwn.down {w : World} {B B' : Nat} {v : Value} {l : List Nat} (h : IOwn w B v l) (hB : B' ≤ B) : IOwn w B' v l :=
  ⟨⟨h.own.1, h.own.2.imp id fun ⟨g, cap, cur, a, b, r⟩ => ⟨g, cap, cur, a, Nat.le_trans hB b, r⟩⟩, h.nil⟩
theorem eqNil_in (d : Nat) (a : Option Addr) (n c : Nat) (w : World) (h : a = none → n = 0 ∧ c = 0) : (Op.equalIn (d + 1) 26 (.slice a n c) (.slice none 0 0)).run Tryd.prog w = .ok a.isNone w := by
  have hu := run_underlying (P := Tryd.prog) Tryd.underlying26
  cases a <;> simp [Op.equalIn, hu, Result.andThen] at h ⊢
theorem eqNil_some (a : Addr) (n c : Nat) (w : World) : (binOp .eql 26 (.slice (some a) n c) (.slice none 0 0)).run Tryd.prog w = .ok (.bool false) w := by
  have h := eqNil_in 9999 (some a) n c w (by simp)
  have e : Op.maxDepth = 9999 + 1 := rfl
  simp [binOp, Op.equal, e, h]
theorem eqNil_none (w : World) : (binOp .eql 26 (.slice none 0 0) (.slice none 0 0)).run Tryd.prog w = .ok (.bool true) w := by
  have h := eqNil_in 9999 none 0 0 w (by simp)
  have e : Op.maxDepth = 9999 + 1 := rfl
  simp [binOp, Op.equal, e, h]
set_option maxHeartbeats 1000000 in
theorem number_any (s : ByteArray) (w : World) (hs : s.size ≤ maxLen) :
    Calls Tryd.prog 26 #[.string s] w fun e w' => ∃ v, e = .returned v ∧ ∃ r, IOwn w' w.heap.size v r ∧ r ≠ [] ∧ Ok r ∧ val r = valS s ∧ r.length ≤ 5000 ∧ Below w.heap.size w w' := by
  have hD := digitsOf_any s 10 w hs
  have hL := hexL_len s 10
  have hR := hexL_ten s
  have HO : Hid (Ok (ofL s)) := ofL_ok s
  go_enter Tryd.func26, Tryd.ntmps26
  go_wp2_with fail
  refine hD.mono ?_
  rintro e w1 ⟨v, rfl, hown, hb1⟩
  clear hD
  generalize hexL s 10 = l at *
  obtain ⟨A, c, rfl, hc, hI, hA⟩ := hown.form
  have HR := Lib.hid hR
  clear hown hR
  go_wp2
  go_loopw [4, 5] (fun o i wr => ∃ k : Nat, k ≤ l.length ∧ i = .int .i64 ((l.length : Int) - 1 - k) ∧ IOwn wr w1.heap.size o (l.reverse.take k) ∧ Below w1.heap.size w1 wr) (fun _ i _ => (intOf i + 1).toNat)
  case atStart => exact ⟨0, Nat.zero_le _, by simp, IOwn.empty _ _, Below.refl _ _⟩
  case round =>
    obtain ⟨k, hk, rfl, hown, hbl⟩ := hrel
    have hsz := Nat.le_trans hb1.size hbl.size
    by_cases hlt : k < l.length
    · obtain ⟨b, off, rfl, hbw, hcc⟩ := hI (by rw [ints_len]; omega)
      have hci := (hbl.cell (p := ⟨b, off + (l.length - 1 - k), none⟩) hbw).trans (hcc (l.length - 1 - k) (by rw [ints_len]; omega))
      rw [nth_ints] at hci
      have h1 : (0 : Int) ≤ (l.length : Int) - 1 - k := by omega
      have h2 : (l.length : Int) - 1 - k < (l.length : Int) := by omega
      have h3 : ((l.length : Int) - 1 - k).toNat = l.length - 1 - k := by omega
      have HN := Lib.hid (rev_take_dig hlt)
      have hll : (l.reverse.take k).length ≤ 1000000 := by simp; omega
      have HI := Lib.hid hcc
      clear hcc hA
      generalize dig l (l.length - 1 - k) = d at *
      go_wp2_with (at_builtin; refine wpList_app1 rfl _ _ _ rfl Tryd.underlying26 w1.heap.size u4 _ d _ rfl rfl hown _ rfl rfl hll hbl.size ?_; intro v2 w2 hown2 hb2)
      go_roundw
      case rel => exact ⟨k + 1, by omega, by congr 1; omega, by rw [HN.out]; exact hown2, hbl.trans hb2⟩
      case measure => simp [intOf]; omega
    · obtain rfl : k = l.length := by omega
      have h1 : (l.length : Int) - 1 - l.length = -1 := by omega
      rw [List.take_of_length_le (by simp), HR.out] at hown
      have hlo : (ofL s).length = l.length := by rw [← HR.out]; simp
      obtain ⟨A2, c2, rfl, hc2, hI2, hA2⟩ := hown.form
      cases ho : ofL s with
      | nil =>
        rw [ho] at hown hlo
        have hv := hown.nil rfl
        have HV : Hid (valS s = 0) := by show _ = _; rw [valS, ho]; rfl
        simp only [List.length_nil] at hv
        simp only [List.length_nil]
        rw [hv]
        have HB := Lib.hid hbl
        clear hown hA2 hI2 hv hI hA
        have hq := eqNil_none
        go_wp2
        go_ret
        exact ⟨_, rfl, [0], one_own wr 0 0 rfl w.heap.size hsz, by simp, (by intro d hd; simp at hd; omega), by rw [HV.out]; rfl, by simp, (hb1.trans (HB.out.mono hb1.size)).alloc hsz _⟩
      | cons x t =>
        obtain ⟨g, rfl⟩ := hA2 (by rw [ho]; simp)
        rw [ho] at hown
        have HO2 := Lib.hid hown
        clear hown hA2 hI2 hI hA
        have HOk := HO.out
        have hll := ofL_len s
        have HV : Hid (valS s = val (x :: t)) := by show _ = _; rw [valS, ho]
        rw [ho] at HOk hll
        have hq := eqNil_some
        go_wp2
        go_ret
        exact ⟨_, rfl, x :: t, HO2.out.down hb1.size, by simp, HOk, HV.out.symm, hll, hb1.trans (hbl.mono hb1.size)⟩
set_option maxHeartbeats 2000000 in
theorem rtimes_any (A : Option Addr) (c : Nat) (l : List Nat) (n m : Nat) (w : World) (hl : l.length ≤ 500000) (ho : Ok l) (hn : n ≤ 1000000) (hm : m ≤ 1000000) (hI : IntsAt w w.heap.size A (ints l)) :
    Calls Tryd.prog 24 #[.slice A l.length c, .int .i64 n, .int .i64 m] w fun e w' => ∃ v, e = .returned v ∧ ∃ r, IOwn w' w.heap.size v r ∧ r ≠ [] ∧ Ok r ∧ val r = val l * n + m ∧ r.length ≤ l.length + 8 ∧ Below w.heap.size w w' := by
  go_enter Tryd.func24, Tryd.ntmps24
  go_wp2
  go_loopw [2, 7, 8] (fun mo o i wr => ∃ (k x : Nat) (r : List Nat), i = .int .i64 k ∧ mo = .int .i64 x ∧ IOwn wr w.heap.size o r ∧ Hid (MInv (val l * n + m) k r x (val (l.drop k) * n)) ∧ k ≤ l.length ∧ x ≤ 1000000 ∧ Below w.heap.size w wr) (fun _ _ i _ => l.length - (intOf i).toNat)
  case atStart => exact ⟨0, m, [], rfl, rfl, IOwn.empty _ _, ⟨rfl, (by intro d h; cases h), (by simp [val]; omega)⟩, Nat.zero_le _, hm, Below.refl _ _⟩
  case round =>
    obtain ⟨k, x, r, rfl, rfl, hown, hM, hk, hx, hbl⟩ := hrel
    have hrl := hM.out.len
    have hsz := hbl.size
    by_cases hlt : k < l.length
    · obtain ⟨b, off, rfl, hbw, hc⟩ := hI (by rw [ints_len]; omega)
      have hci := (hbl.cell (p := ⟨b, off + k, none⟩) hbw).trans (hc k (by rw [ints_len]; omega))
      rw [nth_ints] at hci
      obtain ⟨d, hd⟩ : ∃ d, dig l k = d := ⟨_, rfl⟩
      have hd9 : d < 10 := hd ▸ dig_lt ho k
      obtain ⟨p, hp⟩ : ∃ p : Nat, d * n = p := ⟨_, rfl⟩
      have hp9 : p ≤ 9000000 := by rw [← hp]; exact Nat.le_trans (Nat.mul_le_mul (show d ≤ 9 by omega) hn) (by decide)
      have hpi : (d : Int) * (n : Int) = (p : Int) := by rw [← hp]; simp
      have HS : Hid (MInv (val l * n + m) (k + 1) (r ++ [(x + p) % 10]) ((x + p) / 10) (val (l.drop (k + 1)) * n)) := hM.out.step (by rw [val_drop, hd, Nat.add_mul, hp, Nat.mul_assoc])
      have HI := Lib.hid hc
      have hlt' : (k : Int) < (l.length : Int) := by omega
      rw [hd] at hci
      clear hp hd hc
      go_wp2_with (at_builtin; refine wpList_app1 rfl _ _ _ rfl Tryd.underlying26 w.heap.size u7 r ((x + p) % 10) _ (by omega) rfl hown _ rfl rfl (by omega) hsz ?_; intro v1 w1 hown1 hb1)
      go_roundw
      case rel => exact ⟨k + 1, (x + p) / 10, r ++ [(x + p) % 10], by go_num, by go_num, hown1, HS.out, by omega, by omega, hbl.trans hb1⟩
      case measure => simp [intOf]; omega
    · obtain rfl : k = l.length := by omega
      rw [List.drop_length] at hM
      go_wp2
      go_loopw [2, 7] (fun mo o wr => ∃ (j x : Nat) (r : List Nat), mo = .int .i64 x ∧ IOwn wr w.heap.size o r ∧ Hid (MInv (val l * n + m) (l.length + j) r x 0) ∧ x < 10 ^ (7 - j) ∧ j ≤ 7 ∧ Below w.heap.size w wr) (fun mo _ _ => (intOf mo).toNat)
      case atStart => exact ⟨0, x, r, rfl, hown, Lib.hid (by simpa [val] using hM.out), by simp; omega, by omega, hbl⟩
      case round =>
        clear hown hM hbl hsz hrl hx
        obtain ⟨j, x, r, rfl, hown, hM, hx, hj, hbl⟩ := hrel
        have hrl := hM.out.len
        have hsz := hbl.size
        by_cases hx0 : 0 < x
        · have hx0' : (0 : Int) < (x : Int) := by omega
          obtain ⟨i, hi, hxi, hxb⟩ := pow_step (K := 0) (k := j) (by simpa using hx) hx0 (by omega)
          have HS : Hid (MInv (val l * n + m) (l.length + (j + 1)) (r ++ [x % 10]) (x / 10) 0) := Lib.hid (by simpa [Nat.add_assoc] using hM.out.step (add := 0) (rest' := 0) rfl)
          have HX : Hid (x / 10 < 10 ^ (7 - (j + 1))) := by show _ < _; rw [show 7 - (j + 1) = i by omega]; simpa using hxi
          have hj6 : j + 1 ≤ 7 := by omega
          clear hx hi hxi
          go_wp2_with (at_builtin; refine wpList_app1 rfl _ _ _ rfl Tryd.underlying26 w.heap.size u7 r (x % 10) _ (by omega) rfl hown _ rfl rfl (by omega) hsz ?_; intro v1 w1 hown1 hb1)
          go_roundw
          case rel => exact ⟨j + 1, x / 10, r ++ [x % 10], by go_num, hown1, HS.out, HX.out, by omega, hbl.trans hb1⟩
          case measure => simp [intOf]; omega
        · obtain rfl : x = 0 := by omega
          have HV := Lib.hid hM.out.done
          have HOk := Lib.hid hM.out.ok
          cases r with
          | nil =>
            have hv := hown.nil rfl
            subst hv
            clear hown
            go_wp2
            go_ret
            exact ⟨_, rfl, [0], one_own wr 0 0 rfl w.heap.size hsz, by simp, (by intro d hd; simp at hd; omega), by rw [← HV.out]; rfl, by simp, hbl.alloc hsz _⟩
          | cons y t =>
            obtain ⟨A2, c2, rfl, hc2, hI2, hA2⟩ := hown.form
            have HW := Lib.hid hown
            have HL := Lib.hid hrl
            clear hown hI2 hA2 hrl
            go_wp2
            go_ret
            exact ⟨_, rfl, y :: t, HW.out, by simp, HOk.out, HV.out, by rw [HL.out]; omega, hbl⟩
end Go.Proofs.YtdnmllklceaknaaDoor
