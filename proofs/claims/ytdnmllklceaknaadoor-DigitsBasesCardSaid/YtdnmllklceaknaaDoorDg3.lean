/- The walks of the text of digits. Condition: lists that are not too long. -/
import Derived.Test.YtdnmllklceaknaaDoorDg2
import Derived.Test.YtdnmllklceaknaaDoorDgS
namespace Go.Proofs.YtdnmllklceaknaaDoor
open Go.RowKit
open Dig
def chB (d : Nat) : UInt8 := UInt8.ofNat (48 + d)
theorem chB_toNat {d : Nat} (h : d < 10) : (chB d).toNat = 48 + d := by simp [chB]; omega
theorem chB_eq {d : Nat} (h : d < 10) : (chB d == 48) = (d == 0) := by
  rw [Bool.eq_iff_iff]; simp only [beq_iff_eq]
  constructor
  · intro e; have := chB_toNat h; rw [e] at this; simp at this; omega
  · rintro rfl; rfl
theorem drop_chB : ∀ {l : List Nat}, Ok l → (l.map chB).dropWhile (· == 48) = (l.dropWhile (· == 0)).map chB
  | [], _ => rfl
  | d :: l, h => by
    have hd := h d (by simp)
    rw [List.map_cons, List.dropWhile_cons, List.dropWhile_cons, chB_eq hd]
    by_cases h0 : (d == 0) = true
    · rw [if_pos h0, if_pos h0]; exact drop_chB fun x hx => h x (by simp [hx])
    · rw [if_neg h0, if_neg h0]; rfl
theorem ok_rev {l : List Nat} (h : Ok l) : Ok l.reverse := fun d hd => h d (by simpa using hd)
theorem decS_eq {l : List Nat} (h : Ok l) : decS (val l) = ⟨((strip l).reverse.map chB).toArray⟩ := by rw [decS, strip_dec h]; rfl
/-- Behind the noughts nothing stands: it is nought. -/
theorem trim_none {l : List Nat} (h : Ok l) (ht : (l.reverse.map chB).dropWhile (· == 48) = []) : decS (val l) = ⟨#[48]⟩ := by
  rw [drop_chB (ok_rev h)] at ht
  have ht' : l.reverse.dropWhile (· == 0) = [] := by simpa using ht
  rw [decS_eq h]
  unfold strip
  rw [ht']
  rfl
theorem trim_some {l : List Nat} (h : Ok l) {t : List UInt8} (ht : (l.reverse.map chB).dropWhile (· == 48) = t) (hne : t ≠ []) : decS (val l) = ⟨t.toArray⟩ := by
  rw [drop_chB (ok_rev h)] at ht
  rw [decS_eq h, ← ht]
  unfold strip
  split
  · rename_i e; rw [e] at ht; exact (hne ht.symm).elim
  · rename_i e; simp
set_option maxHeartbeats 1000000 in
theorem text_any (A : Option Addr) (c : Nat) (l : List Nat) (w : World) (hl : l.length ≤ 1000000) (ho : Ok l) (hI : IntsAt w w.heap.size A (ints l)) :
    Calls Tryd.prog 21 #[.slice A l.length c] w fun e w' => e = .returned (.string (decS (val l))) ∧ Below w.heap.size w w' := by
  go_enter Tryd.func21, Tryd.ntmps21
  go_wp2
  go_loopw [4] (fun i wr => ∃ k : Nat, k ≤ l.length ∧ i = .int .i64 ((l.length : Int) - 1 - k) ∧ Hid (Lib.IsBuilder 47 5 w.heap.size w.heap.size (Lib.byteCells ((l.reverse.take k).map chB)) wr) ∧ Below w.heap.size w wr) (fun i _ => (intOf i + 1).toNat)
  case atStart => exact ⟨0, Nat.zero_le _, by simp, Lib.fresh_isBuilder 47 5 w, (Below.refl _ _).alloc (Nat.le_refl _) _⟩
  case round =>
    obtain ⟨k, hk, rfl, hB, hbl⟩ := hrel
    have hsz := hbl.size
    by_cases hlt : k < l.length
    · obtain ⟨b, off, rfl, hbw, hc⟩ := hI (by rw [ints_len]; omega)
      have hci := (hbl.cell (p := ⟨b, off + (l.length - 1 - k), none⟩) hbw).trans (hc (l.length - 1 - k) (by rw [ints_len]; omega))
      rw [nth_ints] at hci
      have hd9 := dig_lt ho (l.length - 1 - k)
      have h1 : (0 : Int) ≤ (l.length : Int) - 1 - k := by omega
      have h2 : (l.length : Int) - 1 - k < (l.length : Int) := by omega
      have h3 : ((l.length : Int) - 1 - k).toNat = l.length - 1 - k := by omega
      have hn : l.reverse.take (k + 1) = l.reverse.take k ++ [dig l (l.length - 1 - k)] := by
        rw [List.take_succ_eq_append_getElem (by simpa using hlt), List.getElem_reverse]
        simp [dig, show l.length - 1 - k < l.length by omega]
      obtain ⟨d, hd⟩ : ∃ d, dig l (l.length - 1 - k) = d := ⟨_, rfl⟩
      rw [hd] at hci hd9 hn
      have hW := dg_Builder_WriteByte w.heap.size w.heap.size (Lib.byteCells ((l.reverse.take k).map chB)) (48 + d) wr hB.out (by simp [Lib.byteCells]; omega) hsz
      have HW := Lib.hid hW
      have HN := Lib.hid hn
      have HI := Lib.hid hc
      clear hW hn hc hd
      go_wp2_with (go_at_call 28; refine HW.out.mono ?_; rintro e w1 ⟨rfl, hB1, hb1⟩)
      go_roundw
      case rel =>
        refine ⟨k + 1, by omega, by congr 1; omega, ?_, hbl.trans hb1⟩
        rw [HN.out]
        have e : Lib.byteCells ((l.reverse.take k ++ [d]).map chB) = Lib.byteCells ((l.reverse.take k).map chB) ++ [.int .u8 (48 + d)] := by
          simp [Lib.byteCells, chB_toNat hd9]
        rw [e]
        exact .inr hB1
      case measure => simp [intOf]; omega
    · obtain rfl : k = l.length := by omega
      have h1 : (l.length : Int) - 1 - l.length = -1 := by omega
      have hlr : l.reverse.take l.length = l.reverse := List.take_of_length_le (by simp)
      rw [hlr] at hB
      have tn := trim_none ho
      have ts := fun t => trim_some (t := t) ho
      generalize l.reverse.map chB = bs at *
      have TN := Lib.hid tn
      have TS := Lib.hid ts
      clear tn ts hlr
      go_wp2_with fail
      refine (dg_Builder_String_any w.heap.size w.heap.size bs wr hB.out hsz).mono ?_
      rintro e w1 ⟨rfl, hb1⟩
      go_wp2_with fail
      refine (dg_strings_TrimLeft_one ⟨bs.toArray⟩ 48 (by decide) w1).mono ?_
      rintro e w2 ⟨rfl, rfl⟩
      obtain ⟨t, ht⟩ : ∃ t, Lib.trimLeftB bs 48 = t := ⟨_, rfl⟩
      have e2 : (⟨bs.toArray⟩ : ByteArray).data.toList = bs := rfl
      rw [e2, ht]
      have hb2 := hbl.trans hb1
      clear hB e2
      match t, ht with
      | [], ht =>
        have HE := Lib.hid (TN.out ht)
        clear ht
        go_wp2
        go_ret
        exact ⟨by rw [HE.out]; rfl, hb2⟩
      | x :: t, ht =>
        have HE := Lib.hid (TS.out _ ht (by simp))
        clear ht
        go_wp2
        go_ret
        exact ⟨by rw [HE.out]; rfl, hb2⟩
end Go.Proofs.YtdnmllklceaknaaDoor
