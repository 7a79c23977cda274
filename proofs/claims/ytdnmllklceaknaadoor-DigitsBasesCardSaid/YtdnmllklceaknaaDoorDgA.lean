/- The walk of the reference's Plain. No condition but that a text is no longer than an int. -/
import Derived.Test.YtdnmllklceaknaaDoorDg9
namespace Go.Proofs.YtdnmllklceaknaaDoor
open Go.RowKit
open Dig
theorem hexL_base {s : ByteArray} {base : Int} (h : hexL s base ≠ []) : base = 8 ∨ base = 10 ∨ base = 16 := by
  unfold hexL at h
  split at h
  · rename_i c; exact c.2.2.1
  · exact (h rfl).elim
theorem hexL_lt {s : ByteArray} {base : Int} : ∀ d ∈ hexL s base, (d : Int) < 16 := by
  intro d hd
  unfold hexL at hd
  split at hd
  · rename_i c
    obtain ⟨b, hb, rfl⟩ := List.mem_map.1 hd
    have h := List.all_eq_true.1 c.2.2.2 b hb
    simp only [hexD, decide_eq_true_eq] at h
    unfold hexN; omega
  · cases hd
theorem dig_mem {l : List Nat} {k : Nat} (h : k < l.length) : dig l k ∈ l := by
  have : dig l k = l[k] := by simp [dig, h]
  rw [this]; exact List.getElem_mem h
theorem take_dig {l : List Nat} {k : Nat} (h : k < l.length) : l.take (k + 1) = l.take k ++ [dig l k] := by
  rw [List.take_succ_eq_append_getElem h]; simp [dig, h]
set_option maxHeartbeats 2000000 in
theorem RPlain_any (s : ByteArray) (base : Int) (w : World) (hs : s.size ≤ maxLen) :
    Calls Tryd.prog 10 #[.string s, .int .i64 base] w fun e w' => e = .returned (.tuple #[.string (plainS s base), .bool (plainOk s base)]) ∧ Below w.heap.size w w' := by
  have hD := digitsOf_any s base w hs
  have hL := hexL_len s base
  have hB := hexL_base (s := s) (base := base)
  have h16 := hexL_lt (s := s) (base := base)
  have hp0 := plain_none (s := s) (base := base)
  have hp1 := plain_some (s := s) (base := base)
  have HOk : Hid (base = 10 → Ok (hexL s base).reverse) := fun h => by rw [h, hexL_ten]; exact ofL_ok s
  go_enter Tryd.func10, Tryd.ntmps10
  go_wp2_with fail
  refine hD.mono ?_
  rintro e w1 ⟨v, rfl, hown, hb1⟩
  clear hD
  generalize hexL s base = l at *
  obtain ⟨A, c, rfl, hc, hI, hA⟩ := hown.form
  by_cases hne : l = []
  · subst hne
    have hv := hown.nil rfl
    obtain ⟨e1, e2⟩ := hp0 rfl
    have E1 := Lib.hid e1
    have E2 := Lib.hid e2
    simp only [List.length_nil] at hv ⊢
    rw [hv]
    clear hown hA hI hv hp0 hp1 e1 e2 h16 hB
    have hq := eqNil_none
    go_wp2_with fail
    go_ret2
    exact ⟨by rw [E1.out, E2.out]; rfl, hb1⟩
  · obtain ⟨g, rfl⟩ := hA hne
    obtain ⟨e1, e2⟩ := hp1 hne
    have hb := hB hne
    have E1 := Lib.hid e1
    have E2 := Lib.hid e2
    have H16 := Lib.hid h16
    have HNE : Hid (l ≠ []) := hne
    clear hown hA hp0 hp1 e1 e2 h16 hB hne
    have hq := eqNil_some
    obtain ⟨B, hBn, hB16⟩ : ∃ B : Nat, base = B ∧ B ≤ 16 := ⟨base.toNat, by omega, by omega⟩
    have HBn := Lib.hid hBn
    clear hBn
    by_cases h10 : base = 10
    · go_wp2_with fail
      have hbV : Below w1.heap.size w1 _ := (Below.refl _ w1).alloc (Nat.le_refl _) (.cells #[.int .i64 0] 3)
      obtain ⟨V, hV⟩ : ∃ V, w1.alloc (.cells #[.int .i64 0] 3) = V := ⟨_, rfl⟩
      rw [hV] at hbV ⊢
      have hIV : IntsAt V V.heap.size (some g) (ints l) := (hI.below hbV (Nat.le_refl _)).more hbV.size
      have hbwV := below_then hb1 hbV
      clear hV hbV hI
      go_loopw [7, 8] (fun o i wr => ∃ k : Nat, k ≤ l.length ∧ i = .int .i64 ((l.length : Int) - 1 - k) ∧ IOwn wr V.heap.size o (l.reverse.take k) ∧ Below V.heap.size V wr) (fun _ i _ => (intOf i + 1).toNat)
      case atStart => exact ⟨0, Nat.zero_le _, by simp, IOwn.empty _ _, Below.refl _ _⟩
      case round =>
        obtain ⟨k, hk, rfl, hown, hbl⟩ := hrel
        have hsz := hbl.size
        by_cases hlt : k < l.length
        · obtain ⟨b, off, hg, hbw, hcc⟩ := hIV (by rw [ints_len]; omega)
          obtain rfl := Option.some.inj hg
          have hci := (hbl.cell (p := ⟨b, off + (l.length - 1 - k), none⟩) hbw).trans (hcc (l.length - 1 - k) (by rw [ints_len]; omega))
          rw [nth_ints] at hci
          have h1 : (0 : Int) ≤ (l.length : Int) - 1 - k := by omega
          have h2 : (l.length : Int) - 1 - k < (l.length : Int) := by omega
          have h3 : ((l.length : Int) - 1 - k).toNat = l.length - 1 - k := by omega
          have HN := Lib.hid (rev_take_dig hlt)
          have hll : (l.reverse.take k).length ≤ 1000000 := by simp; omega
          have HI := Lib.hid hcc
          clear hcc hg
          generalize dig l (l.length - 1 - k) = d at *
          go_wp2_with (at_builtin; refine wpList_app1 rfl _ _ _ rfl Tryd.underlying26 V.heap.size u7 _ d _ rfl rfl hown _ rfl rfl hll hbl.size ?_; intro v2 w2 hown2 hb2)
          go_roundw
          case rel => exact ⟨k + 1, by omega, by congr 1; omega, by rw [HN.out]; exact hown2, hbl.trans hb2⟩
          case measure => simp [intOf]; omega
        · obtain rfl : k = l.length := by omega
          have h1 : (l.length : Int) - 1 - l.length = -1 := by omega
          rw [List.take_of_length_le (by simp)] at hown
          obtain ⟨A2, c2, rfl, hc2, hI2, hA2⟩ := hown.form
          have hW := written_any A2 c2 l.reverse wr (by intro h; exact HNE.out (by simpa using h)) (by simp; omega) (HOk.out h10) hI2
          have hv : val l.reverse = foldV base.toNat l := by rw [h10]; exact (foldV_ten l).symm
          rw [hv] at hW
          simp only [List.length_reverse] at hW ⊢
          have HW := Lib.hid hW
          clear hW hv hown hI2 hA2 hIV
          go_wp2_with fail
          refine HW.out.mono ?_
          rintro e w3 ⟨rfl, hb3⟩
          go_wp2_with fail
          go_ret2
          exact ⟨by rw [E1.out, E2.out, h10]; rfl, below_then (hbwV.trans (hbl.mono hbwV.size)) hb3⟩
    · have hb10 : (base == 10) = false := beq_eq_false_iff_ne.2 h10
      go_wp2_with fail
      have hbV : Below w1.heap.size w1 _ := (Below.refl _ w1).alloc (Nat.le_refl _) (.cells #[.int .i64 0] 3)
      have hO0 := one_own w1 0 0 rfl w1.heap.size (Nat.le_refl _)
      obtain ⟨V, hV⟩ : ∃ V, w1.alloc (.cells #[.int .i64 0] 3) = V := ⟨_, rfl⟩
      rw [hV] at hbV hO0 ⊢
      have hIV : IntsAt V V.heap.size (some g) (ints l) := (hI.below hbV (Nat.le_refl _)).more hbV.size
      have hbwV := below_then hb1 hbV
      obtain ⟨A0, c0, hA0, _, hI0, _⟩ := hO0.form
      simp only [List.length_cons, List.length_nil, Nat.zero_add] at hA0
      injection hA0 with q1 q2 q3
      subst q1 q3
      clear hV hbV hI hO0 q2
      go_loopw [7, 9] (fun o i wr => ∃ (k : Nat) (r : List Nat) (A2 : Option Addr) (c2 : Nat), k ≤ l.length ∧ i = .int .i64 k ∧ o = .slice A2 r.length c2 ∧ IntsAt wr wr.heap.size A2 (ints r) ∧ Ok r ∧ Hid (r ≠ []) ∧ Hid (val r = foldV B (l.take k)) ∧ r.length ≤ 1 + 8 * k ∧ Below V.heap.size V wr) (fun _ i _ => l.length - (intOf i).toNat)
      case atStart => exact ⟨0, [0], _, _, Nat.zero_le _, rfl, rfl, hI0, (by intro d hd; simp at hd; omega), (by show _ ≠ _; simp), rfl, by simp, Below.refl _ _⟩
      case round =>
        obtain ⟨k, r, A2, c2, hk, rfl, rfl, hI2, hok, hrn, hvr, hr8, hbl⟩ := hrel
        have hsz := hbl.size
        by_cases hlt : k < l.length
        · obtain ⟨b, off, hg, hbw, hcc⟩ := hIV (by rw [ints_len]; omega)
          obtain rfl := Option.some.inj hg
          have hci := (hbl.cell (p := ⟨b, off + k, none⟩) hbw).trans (hcc k (by rw [ints_len]; omega))
          rw [nth_ints] at hci
          have hlt' : (k : Int) < (l.length : Int) := by omega
          have hd16 : dig l k ≤ 16 := by have := H16.out (dig l k) (dig_mem hlt); omega
          have HT := Lib.hid (take_dig hlt)
          have hTm := rtimes_any A2 c2 r B (dig l k) wr (by omega) hok (by omega) (by omega) hI2
          rw [← HBn.out] at hTm
          have HF : Hid (val r * B + dig l k = foldV B (l.take (k + 1))) := by show _ = _; rw [HT.out, foldV_snoc, hvr.out]
          generalize dig l k = d at *
          have HI := Lib.hid hcc
          have HTm := Lib.hid hTm
          clear hI2 hTm hcc hg
          go_wp2_with (go_at_call 24; refine HTm.out.mono ?_; rintro e w3 ⟨v, rfl, r1, hown1, hn1, hok1, hv1, hl1, hb3⟩; obtain ⟨A1, c1, rfl, _, hI1, _⟩ := hown1.form; clear hown1)
          go_roundw
          case rel => exact ⟨k + 1, r1, A1, c1, by omega, by go_num, rfl, hI1, hok1, Lib.hid hn1, by show _ = _; rw [hv1, HF.out], by omega, hbl.trans (hb3.mono hbl.size)⟩
          case measure => simp [intOf]; omega
        · obtain rfl : k = l.length := by omega
          have hW := written_any A2 c2 r wr hrn.out (by omega) hok hI2
          have hv : val r = foldV base.toNat l := by rw [hvr.out, List.take_length, HBn.out]; rfl
          rw [hv] at hW
          have HW := Lib.hid hW
          clear hW hv hI2 hIV
          go_wp2_with fail
          refine HW.out.mono ?_
          rintro e w3 ⟨rfl, hb3⟩
          go_wp2_with fail
          go_ret2
          exact ⟨by rw [E1.out, E2.out]; rfl, below_then (hbwV.trans (hbl.mono hbwV.size)) hb3⟩
end Go.Proofs.YtdnmllklceaknaaDoor
