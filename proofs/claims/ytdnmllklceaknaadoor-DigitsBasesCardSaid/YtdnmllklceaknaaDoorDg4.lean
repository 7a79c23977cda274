/- The reference's text of digits. Condition: a list that is not empty and not too long. -/
import Derived.Test.YtdnmllklceaknaaDoorDg3
import Derived.Laws.IdiomStrings
import Derived.OwnWalk
import Derived.Maps.AppendAt
namespace Go.Proofs.YtdnmllklceaknaaDoor
open Go.RowKit
open Dig
theorem Tryd.infoByte : (Tryd.prog.info? 5).map (fun i => (i.zero, i.size, i.bytes)) = some (some (.int .u8 0), 1, 1) := by kernel_rfl
/-- Digits from which noughts at the great end are taken off, as far as may be. -/
theorem written_eq {l : List Nat} {k : Nat} (ho : Ok l) (h1 : 1 ≤ k) (hk : k ≤ l.length) (hv : val (l.take k) = val l) (hs : k = 1 ∨ dig l (k - 1) ≠ 0) : decS (val l) = ⟨((l.take k).reverse.map chB).toArray⟩ := by
  have hlen : (l.take k).length = k := by simp; omega
  have hc : Canon (l.take k) := by
    refine ⟨fun e => by rw [e] at hlen; simp at hlen; omega, ?_⟩
    rcases hs with rfl | hs
    · exact .inl hlen
    · refine .inr fun e => hs ?_
      rw [List.getLast?_eq_getElem?, hlen, List.getElem?_take, if_pos (by omega)] at e
      simp [dig, e]
  have h := canon_dec (l.take k) (ok_take ho k) hc (val l + 1) (by rw [hv]; omega)
  rw [hv] at h
  rw [decS, dec, h]; rfl
theorem take_drop_zero {l : List Nat} {k : Nat} (hk : k + 1 ≤ l.length) (hv : val (l.take (k + 1)) = val l) (hd : dig l k = 0) : val (l.take k) = val l := by
  rw [List.take_succ_eq_append_getElem hk, val_snoc] at hv
  have e : l[k] = dig l k := by simp [dig, show k < l.length from hk]
  rw [e, hd] at hv
  simpa using hv
/-- The bytes of a text that is filled from behind: i of n lie there. -/
def fill (n i : Nat) (l : List Nat) : List Value := List.replicate (n - i) (.int .u8 0) ++ Lib.byteCells ((l.take i).reverse.map chB)
theorem fill_zero (n : Nat) (l : List Nat) : fill n 0 l = List.replicate n (.int .u8 0) := by simp [fill, Lib.byteCells]
theorem fill_len {n i : Nat} {l : List Nat} (hi : i ≤ n) (hl : n ≤ l.length) : (fill n i l).length = n := by simp [fill, Lib.byteCells]; omega
theorem fill_set {n i : Nat} {l : List Nat} (hi : i < n) (hl : n ≤ l.length) (ho : Ok l) : (fill n i l).set (n - 1 - i) (.int .u8 (48 + dig l i)) = fill n (i + 1) l := by
  have e : l.take (i + 1) = l.take i ++ [dig l i] := by
    rw [List.take_succ_eq_append_getElem (by omega)]; simp [dig, show i < l.length by omega]
  have hr : List.replicate (n - i) (Value.int .u8 0) = List.replicate (n - 1 - i) (.int .u8 0) ++ [.int .u8 0] := by
    rw [show n - i = n - 1 - i + 1 by omega, List.replicate_succ']
  rw [fill, fill, e, hr, List.append_assoc, List.set_append_right _ _ (by simp)]
  simp only [List.length_replicate, Nat.sub_self, List.cons_append, List.nil_append, List.set_cons_zero, List.reverse_append, List.reverse_cons, List.reverse_nil, List.map_cons, Lib.byteCells, chB_toNat (dig_lt ho i)]
  rw [show n - (i + 1) = n - 1 - i by omega]
  congr 1
theorem made_zero (n : Nat) : (madeCells (Value.int .u8 0).cells n).toList = List.replicate n (.int .u8 0) := by
  apply List.ext_getElem
  · simp [madeCells]
  · intro j h1 h2
    have hj : j % 1 = 0 := Nat.mod_one j
    simp [madeCells, Value.cells, hj]
theorem own_cell {w : World} {B n : Nat} {g cap : Nat} {xs : List Value} {e : TypeId} (h : w.ownsRow B e 1 (.slice (some ⟨g, 0, none⟩) n cap) n xs) {j : Nat} (hj : j < n) : ∃ u, xs[j]? = some u ∧ w.cell? ⟨g, j, none⟩ = some u ∧ w.frozen? ⟨g, j, none⟩ = false := by
  have hlen : xs.length = n := by have := h.1; omega
  have hx : xs[j]? = some xs[j] := List.getElem?_eq_getElem (by omega)
  have hc := h.cells (g := g) rfl j _ hx
  refine ⟨_, hx, by simpa [Addr.add_lit] using hc, ?_⟩
  rcases h.2 with ⟨h0, _⟩ | ⟨g', cap', cur, hv, _, hg, _⟩
  · cases h0
  · cases hv; exact Lib.frozen_of_heap hg j
set_option maxHeartbeats 2000000 in
theorem written_any (A : Option Addr) (c : Nat) (l : List Nat) (w : World) (h0 : l ≠ []) (hl : l.length ≤ 1000000) (ho : Ok l) (hI : IntsAt w w.heap.size A (ints l)) :
    Calls Tryd.prog 23 #[.slice A l.length c] w fun e w' => e = .returned (.string (decS (val l))) ∧ Below w.heap.size w w' := by
  obtain ⟨i0, hi, hz0, hz1, hz2⟩ := info_parts Tryd.infoByte
  have hpos : 0 < l.length := by cases l; exact (h0 rfl).elim; simp
  obtain ⟨b, off, rfl, hbw, hc⟩ := hI (by rw [ints_len]; omega)
  have HC : Hid (∀ k, k < l.length → w.cell? ⟨b, off + k, none⟩ = some (.int .i64 (dig l k))) := fun k hk => by
    have := hc k (by rw [ints_len]; omega); rwa [nth_ints] at this
  clear hc hI h0
  go_enter Tryd.func23, Tryd.ntmps23
  go_wp2
  go_loop [3] (fun i => ∃ k : Nat, 1 ≤ k ∧ k ≤ l.length ∧ i = .int .i64 k ∧ Hid (val (l.take k) = val l)) (fun i => (intOf i).toNat)
  case atStart => exact ⟨l.length, hpos, Nat.le_refl _, rfl, by show _ = _; rw [List.take_length]⟩
  case round =>
    obtain ⟨k, h1, hk, rfl, hv⟩ := hrel
    have hck := HC.out (k - 1) (by omega)
    have HZ : Hid (2 ≤ k → dig l (k - 1) = 0 → val (l.take (k - 1)) = val l) := fun h2 hd => take_drop_zero (by omega) (by rw [show k - 1 + 1 = k by omega]; exact hv.out) hd
    have HW : Hid (k = 1 ∨ dig l (k - 1) ≠ 0 → decS (val l) = ⟨((l.take k).reverse.map chB).toArray⟩) := fun h => written_eq ho h1 hk hv.out h
    have HD : Hid (∀ j, dig l j < 10) := dig_lt ho
    obtain ⟨d, hd⟩ : ∃ d, dig l (k - 1) = d := ⟨_, rfl⟩
    rw [hd] at hck HZ HW
    have hdi : (d : Int) ≠ 0 ∨ d = 0 := by omega
    by_cases hk1 : 1 < k
    · have hk1' : (1 : Int) < (k : Int) := by omega
      have h2 : (0 : Int) ≤ (k : Int) - 1 := by omega
      have h3 : (k : Int) - 1 < (l.length : Int) := by omega
      have h4 : ((k : Int) - 1).toNat = k - 1 := by omega
      rcases hdi with hd0 | rfl
      · have hd0' : ((d : Int) == 0) = false := beq_eq_false_iff_ne.2 hd0
        have HE := Lib.hid (HW.out (.inr (by omega)))
        clear HZ HW hd
        go_wp2_with (at_make; refine wpList_make_full _ rfl _ _ 36 rfl w.heap.size 5 i0 (.int .u8 0) 1 Tryd.underlying36 hi hz0 hz1 .i64 .i64 _ _ k rfl rfl rfl rfl (by rw [hz2]; omega) (by unfold maxLen; omega) (Nat.le_refl _) ?_; intro w1 hown1 hgrow1)
        rw [Nat.mul_one, made_zero, ← fill_zero k l] at hown1
        have hb1 : Below w.heap.size w w1 := (Below.refl _ _).grown hgrow1 (Nat.le_refl _) (fun _ h => by cases h)
        clear hgrow1 hck
        go_loopw [5] (fun i wr => ∃ j : Nat, j ≤ k ∧ i = .int .i64 j ∧ Hid (wr.ownsRow w.heap.size 5 1 (.slice (some ⟨w.heap.size, 0, none⟩) k k) k (fill k j l)) ∧ Below w.heap.size w wr) (fun i _ => k - (intOf i).toNat)
        case atStart => exact ⟨0, Nat.zero_le _, rfl, hown1, hb1⟩
        case round =>
          clear hown1 hb1
          obtain ⟨j, hj, rfl, hown, hbl⟩ := hrel
          by_cases hlt : j < k
          · have hj1 : (j : Int) < (k : Int) := by omega
            have hj2 : (j : Int) < (l.length : Int) := by omega
            have hj3 : (0 : Int) ≤ (k : Int) - 1 - (j : Int) := by omega
            have hj4 : (k : Int) - 1 - (j : Int) < (k : Int) := by omega
            have hj5 : ((k : Int) - 1 - (j : Int)).toNat = k - 1 - j := by omega
            have hcj := (hbl.cell (p := ⟨b, off + j, none⟩) hbw).trans (HC.out j (by omega))
            have hd9 := HD.out j
            obtain ⟨u, _, hcu, hfu⟩ := own_cell hown.out (j := k - 1 - j) (by omega)
            have HS : Hid ((wr.setCell ⟨w.heap.size, k - 1 - j, none⟩ (.int .u8 (48 + dig l j))).ownsRow w.heap.size 5 1 (.slice (some ⟨w.heap.size, 0, none⟩) k k) k (fill k (j + 1) l)) := by
              have := (hown.out.stored (k - 1 - j) (.int .u8 (48 + dig l j))).1
              rwa [fill_set hlt hk ho] at this
            generalize dig l j = x at *
            go_wp2
            go_roundw
            case rel => exact ⟨j + 1, by omega, by go_num, HS.out, hbl.setCell (p := ⟨w.heap.size, k - 1 - j, none⟩) (Nat.le_refl _) _⟩
            case measure => simp [intOf]; omega
          · obtain rfl : j = k := by omega
            have hf : fill j j l = Lib.byteCells ((l.take j).reverse.map chB) := by simp [fill]
            have hln : ((l.take j).reverse.map chB).length = j := by simp; omega
            obtain ⟨bs, hbs⟩ : ∃ bs, (l.take j).reverse.map chB = bs := ⟨_, rfl⟩
            rw [hbs] at hf hln
            have HE2 : Hid (decS (val l) = ⟨bs.toArray⟩) := by show _ = _; rw [HE.out, hbs]
            have hcv := run_convert_bytes_back (P := Tryd.prog) wr 36 9 5 ⟨w.heap.size, 0, none⟩ j bs Tryd.underlying36 Tryd.underlying5 Tryd.underlying9 (fun q hq => hown.out.cells (g := w.heap.size) rfl q (.int .u8 (bs[q].toNat : Int)) (by rw [hf]; simp [Lib.byteCells, hq]))
            rw [hln] at hcv
            clear hf hln hbs HE
            go_wp2
            go_ret
            exact ⟨by rw [HE2.out]; rfl, hbl⟩
      · have HE := Lib.hid (HZ.out (by omega) rfl)
        clear HZ HW hd
        go_wp2
        go_round
        case rel => exact ⟨k - 1, by omega, by omega, by go_num, HE.out⟩
        case measure => simp [intOf]; omega
    · have HE := Lib.hid (HW.out (.inl (by omega)))
      have hk1' : ¬ (1 : Int) < (k : Int) := by omega
      clear HZ HW hd
      go_wp2_with (at_make; refine wpList_make_full _ rfl _ _ 36 rfl w.heap.size 5 i0 (.int .u8 0) 1 Tryd.underlying36 hi hz0 hz1 .i64 .i64 _ _ k rfl rfl rfl rfl (by rw [hz2]; omega) (by unfold maxLen; omega) (Nat.le_refl _) ?_; intro w1 hown1 hgrow1)
      rw [Nat.mul_one, made_zero, ← fill_zero k l] at hown1
      have hb1 : Below w.heap.size w w1 := (Below.refl _ _).grown hgrow1 (Nat.le_refl _) (fun _ h => by cases h)
      clear hgrow1 hck
      go_loopw [5] (fun i wr => ∃ j : Nat, j ≤ k ∧ i = .int .i64 j ∧ Hid (wr.ownsRow w.heap.size 5 1 (.slice (some ⟨w.heap.size, 0, none⟩) k k) k (fill k j l)) ∧ Below w.heap.size w wr) (fun i _ => k - (intOf i).toNat)
      case atStart => exact ⟨0, Nat.zero_le _, rfl, hown1, hb1⟩
      case round =>
        clear hown1 hb1
        obtain ⟨j, hj, rfl, hown, hbl⟩ := hrel
        by_cases hlt : j < k
        · have hj1 : (j : Int) < (k : Int) := by omega
          have hj2 : (j : Int) < (l.length : Int) := by omega
          have hj3 : (0 : Int) ≤ (k : Int) - 1 - (j : Int) := by omega
          have hj4 : (k : Int) - 1 - (j : Int) < (k : Int) := by omega
          have hj5 : ((k : Int) - 1 - (j : Int)).toNat = k - 1 - j := by omega
          have hcj := (hbl.cell (p := ⟨b, off + j, none⟩) hbw).trans (HC.out j (by omega))
          have hd9 := HD.out j
          obtain ⟨u, _, hcu, hfu⟩ := own_cell hown.out (j := k - 1 - j) (by omega)
          have HS : Hid ((wr.setCell ⟨w.heap.size, k - 1 - j, none⟩ (.int .u8 (48 + dig l j))).ownsRow w.heap.size 5 1 (.slice (some ⟨w.heap.size, 0, none⟩) k k) k (fill k (j + 1) l)) := by
            have := (hown.out.stored (k - 1 - j) (.int .u8 (48 + dig l j))).1
            rwa [fill_set hlt hk ho] at this
          generalize dig l j = x at *
          go_wp2
          go_roundw
          case rel => exact ⟨j + 1, by omega, by go_num, HS.out, hbl.setCell (p := ⟨w.heap.size, k - 1 - j, none⟩) (Nat.le_refl _) _⟩
          case measure => simp [intOf]; omega
        · obtain rfl : j = k := by omega
          have hf : fill j j l = Lib.byteCells ((l.take j).reverse.map chB) := by simp [fill]
          have hln : ((l.take j).reverse.map chB).length = j := by simp; omega
          obtain ⟨bs, hbs⟩ : ∃ bs, (l.take j).reverse.map chB = bs := ⟨_, rfl⟩
          rw [hbs] at hf hln
          have HE2 : Hid (decS (val l) = ⟨bs.toArray⟩) := by show _ = _; rw [HE.out, hbs]
          have hcv := run_convert_bytes_back (P := Tryd.prog) wr 36 9 5 ⟨w.heap.size, 0, none⟩ j bs Tryd.underlying36 Tryd.underlying5 Tryd.underlying9 (fun q hq => hown.out.cells (g := w.heap.size) rfl q (.int .u8 (bs[q].toNat : Int)) (by rw [hf]; simp [Lib.byteCells, hq]))
          rw [hln] at hcv
          clear hf hln hbs HE
          go_wp2
          go_ret
          exact ⟨by rw [HE2.out]; rfl, hbl⟩
end Go.Proofs.YtdnmllklceaknaaDoor
