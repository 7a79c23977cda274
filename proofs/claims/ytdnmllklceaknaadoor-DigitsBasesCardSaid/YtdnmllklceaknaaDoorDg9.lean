/- The walks of Plain. No condition but that a text is no longer than an int. -/
import Derived.Test.YtdnmllklceaknaaDoorDg8
import Derived.Lib.ConvBytes
import Derived.Shelf.Strings.BuilderF
namespace Go.Proofs.YtdnmllklceaknaaDoor
open Go.RowKit
open Dig
def plainS (s : ByteArray) (base : Int) : ByteArray := match hexL s base with | [] => ⟨#[]⟩ | l => decS (foldV base.toNat l)
def plainOk (s : ByteArray) (base : Int) : Bool := !(hexL s base).isEmpty
theorem plain_none {s : ByteArray} {base : Int} (h : hexL s base = []) : plainS s base = ⟨#[]⟩ ∧ plainOk s base = false := by rw [plainS, plainOk, h]; exact ⟨rfl, rfl⟩
theorem plain_some {s : ByteArray} {base : Int} (h : hexL s base ≠ []) : plainS s base = decS (foldV base.toNat (hexL s base)) ∧ plainOk s base = true := by
  rw [plainS, plainOk]
  cases hl : hexL s base with
  | nil => exact (h hl).elim
  | cons x t => exact ⟨rfl, rfl⟩
theorem bytes_new (w : World) (s : ByteArray) : ∃ W, Lib.bytesWorld w 5 s = W ∧ Below w.heap.size w W ∧ W.heap.size = w.heap.size + 1 ∧ ∀ k (h : k < s.size), W.cell? ⟨w.heap.size, k, none⟩ = some (.int .u8 (s[k].toNat : Int)) := by
  refine ⟨_, rfl, ?_, Lib.bytesWorld_size w _ s, fun k h => ?_⟩
  · exact Lib.below_freeze (((Below.refl _ w).drew).alloc (Nat.le_refl _) _) (p := ⟨w.heap.size, _, none⟩) (Nat.le_refl _) _
  · rw [Lib.bytesWorld_cell w _ s k h]
    simp [h]; rfl
set_option maxHeartbeats 2000000 in
theorem Plain_any (s : ByteArray) (base : Int) (w : World) (hs : s.size ≤ maxLen) :
    Calls Tryd.prog 9 #[.string s, .int .i64 base] w fun e w' => e = .returned (.tuple #[.string (plainS s base), .bool (plainOk s base)]) ∧ Below w.heap.size w w' := by
  have hs' := hs
  unfold maxLen at hs
  have hcv := fun w => Lib.run_convert_string_bytes (P := Tryd.prog) w 9 36 5 s Tryd.underlying9 Tryd.underlying36 Tryd.underlying5
  go_enter Tryd.func9, Tryd.ntmps9
  by_cases h0 : s.size = 0
  · have hE : s.toList.isEmpty = true := by rw [empty_str]; simp [h0]
    obtain ⟨e1, e2⟩ := plain_none (hexL_bad (s := s) (base := base) (fun c => c.1 h0))
    have E1 := Lib.hid e1
    have E2 := Lib.hid e2
    clear h0 e1 e2
    go_wp2_with fail
    go_ret2
    exact ⟨by rw [E1.out, E2.out]; rfl, Below.refl _ _⟩
  · have hE : s.toList.isEmpty = false := by rw [empty_str]; simp [h0]
    by_cases h5 : 5000 < s.size
    · have h5' : (5000 : Int) < (s.size : Int) := by omega
      obtain ⟨e1, e2⟩ := plain_none (hexL_bad (s := s) (base := base) (fun c => by omega))
      have E1 := Lib.hid e1
      have E2 := Lib.hid e2
      clear h0 e1 e2
      go_wp2_with fail
      go_ret2
      exact ⟨by rw [E1.out, E2.out]; rfl, Below.refl _ _⟩
    · have h5' : ¬ (5000 : Int) < (s.size : Int) := by omega
      have h5d : decide ((5000 : Int) < (s.size : Int)) = false := decide_eq_false h5'
      by_cases hb : base = 8 ∨ base = 10 ∨ base = 16
      · have HA : Hid ((s.data.toList.take s.size).all (hexD base) = true → hexL s base = (s.data.toList.take s.size).map hexN) := fun h => hexL_all ⟨h0, by omega, hb⟩ h
        have HB : Hid (∀ k (h : k < s.size), hexD base s[k] = false → hexL s base = []) := fun k h => hexL_not h
        obtain ⟨W, hW, hbW, hzW, hcW⟩ := bytes_new w s
        obtain ⟨B, hBn, hB16⟩ : ∃ B : Nat, base = B ∧ B ≤ 16 := ⟨base.toNat, by omega, by omega⟩
        have HH0 : Hid (s.size ≠ 0) := h0
        have HBn := Lib.hid hBn
        clear hBn
        have hcv2 := hcv w
        rw [hW] at hcv2
        clear h0 hcv hW
        rcases hb with hB | hB | hB
        · go_wp2_with fail
          go_loopw [6, 32] (fun o i wr => ∃ (k : Nat) (r : List Nat) (A : Option Addr) (c : Nat), k ≤ s.size ∧ i = .int .i64 k ∧ o = .slice A r.length c ∧ IntsAt wr wr.heap.size A (ints r) ∧ Ok r ∧ Hid (val r = foldV B ((s.data.toList.take k).map hexN)) ∧ r.length ≤ 7 * k ∧ Hid ((s.data.toList.take k).all (hexD base) = true) ∧ Below W.heap.size W wr) (fun _ i _ => s.size - (intOf i).toNat)
          case atStart => exact ⟨0, [], none, 0, Nat.zero_le _, rfl, rfl, (fun h => by simp [ints] at h), (by intro d h; cases h), rfl, by simp, rfl, Below.refl _ _⟩
          case round =>
            obtain ⟨k, r, A, c, hk, rfl, rfl, hI, hok, hvr, hr7, hal, hbl⟩ := hrel
            by_cases hlt : k < s.size
            · have hlt' : (k : Int) < (s.size : Int) := by omega
              have hH := fun w => Hex_any (s[k].toNat : Int) w
              have hF := HB.out k hlt
              have hT := take_map_snoc s hlt
              have hTa := take_snoc s k hlt
              have hcc := (hbl.cell (p := ⟨w.heap.size, k, none⟩) (by show w.heap.size < _; omega)).trans (hcW k hlt)
              obtain ⟨b, hb⟩ : ∃ b, s[k] = b := ⟨_, rfl⟩
              rw [hb] at hH hF hT hTa hcc
              have hb256 := b.toNat_lt
              obtain ⟨z, hz⟩ : ∃ z, hexI (b.toNat : Int) = z := ⟨_, rfl⟩
              simp only [hz] at hH
              have HW := Lib.hid hcW
              clear hcW
              cases hd : hexD base b with
              | true =>
                have hzz : 0 ≤ z ∧ z < base := by simpa [hexD, hz] using hd
                have hzn : z = (hexN b : Nat) := by rw [hexN, hz]; omega
                have HTa : Hid ((s.data.toList.take (k + 1)).all (hexD base) = true) := by show _ = _; rw [hTa, List.all_append, hal.out]; simp [hd]
                have HT := Lib.hid hT
                obtain ⟨d, hdd⟩ : ∃ d, hexN b = d := ⟨_, rfl⟩
                rw [hdd] at hzn HT
                obtain ⟨hz1, hz2⟩ := hzz
                have hz3 : ¬ base ≤ z := by omega
                rw [hzn] at hH hz1 hz2 hz3
                have hd16 : d ≤ 16 := by omega
                rw [hB] at hz2 hz3
                clear hF hT hTa hd hdd hz hzn
                have hTm := times_any A c r B d wr (by omega) hok (by omega) (by omega) hI
                rw [← HBn.out, hB] at hTm
                have HF : Hid (val r * B + d = foldV B ((s.data.toList.take (k + 1)).map hexN)) := by show _ = _; rw [HT.out, foldV_snoc, hvr.out]
                clear hI
                go_wp2_with (first | (go_at_call 18; refine (hH _).mono ?_; rintro e w' ⟨rfl, rfl⟩) | (go_at_call 19; refine hTm.mono ?_; rintro e w1 ⟨v, rfl, r1, hown1, hok1, hv1, hl1, hb1⟩; obtain ⟨A1, c1, rfl, _, hI1, _⟩ := hown1.form; clear hown1))
                go_roundw
                case rel => exact ⟨k + 1, r1, A1, c1, by omega, by go_num, rfl, hI1, hok1, by show _ = _; rw [hv1, HF.out], by omega, HTa.out, hbl.trans (hb1.mono hbl.size)⟩
                case measure => simp [intOf]; omega
              | false =>
                obtain ⟨e1, e2⟩ := plain_none (hF hd)
                have E1 := Lib.hid e1
                have E2 := Lib.hid e2
                have hzz : z < 0 ∨ (0 ≤ z ∧ base ≤ z) := by
                  have : ¬ (0 ≤ z ∧ z < base) := by simpa [hexD, hz] using hd
                  omega
                rw [hB] at hzz
                clear hF hT hTa hd hz e1 e2
                rcases hzz with hz1 | ⟨hz1, hz2⟩
                · go_wp2_with (go_at_call 18; refine (hH _).mono ?_; rintro e w' ⟨rfl, rfl⟩)
                  go_ret2
                  exact ⟨by rw [E1.out, E2.out]; rfl, hbW.trans (hbl.mono hbW.size)⟩
                · have hz1' : ¬ z < 0 := by omega
                  go_wp2_with (go_at_call 18; refine (hH _).mono ?_; rintro e w' ⟨rfl, rfl⟩)
                  go_ret2
                  exact ⟨by rw [E1.out, E2.out]; rfl, hbW.trans (hbl.mono hbW.size)⟩
            · obtain rfl : k = s.size := by omega
              obtain ⟨e1, e2⟩ := plain_some (s := s) (base := base) (by rw [HA.out hal.out]; intro h; exact HH0.out (by simpa using congrArg List.length h))
              have hv : foldV base.toNat (hexL s base) = val r := by rw [hvr.out, HA.out hal.out, HBn.out]; rfl
              rw [hv] at e1
              have E1 := Lib.hid e1
              have E2 := Lib.hid e2
              clear e1 e2 hv hcW
              go_wp2_with fail
              refine (text_any A c r wr (by omega) hok hI).mono ?_
              rintro e w2 ⟨rfl, hb2⟩
              go_wp2_with fail
              go_ret2
              exact ⟨by rw [E1.out, E2.out]; rfl, below_then (hbW.trans (hbl.mono hbW.size)) hb2⟩
        · go_wp2_with fail
          go_loopw [6, 32] (fun o i wr => ∃ k : Nat, k ≤ s.size ∧ i = .int .i64 k ∧ o = .slice none 0 0 ∧ Hid ((s.data.toList.take k).all (hexD base) = true) ∧ Below W.heap.size W wr) (fun _ i _ => s.size - (intOf i).toNat)
          case atStart => exact ⟨0, Nat.zero_le _, rfl, rfl, rfl, Below.refl _ _⟩
          case round =>
            obtain ⟨k, hk, rfl, rfl, hal, hbl⟩ := hrel
            by_cases hlt : k < s.size
            · have hlt' : (k : Int) < (s.size : Int) := by omega
              have hH := fun w => Hex_any (s[k].toNat : Int) w
              have hF := HB.out k hlt
              have hT := take_map_snoc s hlt
              have hTa := take_snoc s k hlt
              have hcc := (hbl.cell (p := ⟨w.heap.size, k, none⟩) (by show w.heap.size < _; omega)).trans (hcW k hlt)
              obtain ⟨b, hb⟩ : ∃ b, s[k] = b := ⟨_, rfl⟩
              rw [hb] at hH hF hT hTa hcc
              have hb256 := b.toNat_lt
              obtain ⟨z, hz⟩ : ∃ z, hexI (b.toNat : Int) = z := ⟨_, rfl⟩
              simp only [hz] at hH
              have HW := Lib.hid hcW
              clear hcW
              cases hd : hexD base b with
              | true =>
                have hzz : 0 ≤ z ∧ z < base := by simpa [hexD, hz] using hd
                have hzn : z = (hexN b : Nat) := by rw [hexN, hz]; omega
                have HTa : Hid ((s.data.toList.take (k + 1)).all (hexD base) = true) := by show _ = _; rw [hTa, List.all_append, hal.out]; simp [hd]
                have HT := Lib.hid hT
                obtain ⟨d, hdd⟩ : ∃ d, hexN b = d := ⟨_, rfl⟩
                rw [hdd] at hzn HT
                obtain ⟨hz1, hz2⟩ := hzz
                have hz3 : ¬ base ≤ z := by omega
                rw [hzn] at hH hz1 hz2 hz3
                have hd16 : d ≤ 16 := by omega
                rw [hB] at hz2 hz3
                clear hF hT hTa hd hdd hz hzn
                go_wp2_with (go_at_call 18; refine (hH _).mono ?_; rintro e w' ⟨rfl, rfl⟩)
                go_roundw
                case rel => exact ⟨k + 1, by omega, by go_num, rfl, HTa.out, hbl⟩
                case measure => simp [intOf]; omega
              | false =>
                obtain ⟨e1, e2⟩ := plain_none (hF hd)
                have E1 := Lib.hid e1
                have E2 := Lib.hid e2
                have hzz : z < 0 ∨ (0 ≤ z ∧ base ≤ z) := by
                  have : ¬ (0 ≤ z ∧ z < base) := by simpa [hexD, hz] using hd
                  omega
                rw [hB] at hzz
                clear hF hT hTa hd hz e1 e2
                rcases hzz with hz1 | ⟨hz1, hz2⟩
                · go_wp2_with (go_at_call 18; refine (hH _).mono ?_; rintro e w' ⟨rfl, rfl⟩)
                  go_ret2
                  exact ⟨by rw [E1.out, E2.out]; rfl, hbW.trans (hbl.mono hbW.size)⟩
                · have hz1' : ¬ z < 0 := by omega
                  go_wp2_with (go_at_call 18; refine (hH _).mono ?_; rintro e w' ⟨rfl, rfl⟩)
                  go_ret2
                  exact ⟨by rw [E1.out, E2.out]; rfl, hbW.trans (hbl.mono hbW.size)⟩
            · obtain rfl : k = s.size := by omega
              obtain ⟨e1, e2⟩ := plain_some (s := s) (base := base) (by rw [HA.out hal.out]; intro h; exact HH0.out (by simpa using congrArg List.length h))
              have hv : foldV base.toNat (hexL s base) = valS s := by rw [valS_fold, hB]; rfl
              rw [hv] at e1
              have E1 := Lib.hid e1
              have E2 := Lib.hid e2
              have hb10 : ((10 : Int) == 10) = true := rfl
              clear e1 e2 hv hcW
              go_wp2_with fail
              refine (of_any s wr hs').mono ?_
              rintro e w1 ⟨v, rfl, hown, hb1⟩
              obtain ⟨A, c, rfl, _, hI, _⟩ := hown.form
              clear hown
              go_wp2_with fail
              refine (text_any A c (ofL s) w1 (by have := ofL_len s; omega) (ofL_ok s) hI).mono ?_
              rintro e w2 ⟨rfl, hb2⟩
              go_wp2_with fail
              go_ret2
              exact ⟨by rw [E1.out, E2.out]; rfl, below_then (hbW.trans (hbl.mono hbW.size)) (below_then hb1 hb2)⟩
        · go_wp2_with fail
          go_loopw [6, 32] (fun o i wr => ∃ (k : Nat) (r : List Nat) (A : Option Addr) (c : Nat), k ≤ s.size ∧ i = .int .i64 k ∧ o = .slice A r.length c ∧ IntsAt wr wr.heap.size A (ints r) ∧ Ok r ∧ Hid (val r = foldV B ((s.data.toList.take k).map hexN)) ∧ r.length ≤ 7 * k ∧ Hid ((s.data.toList.take k).all (hexD base) = true) ∧ Below W.heap.size W wr) (fun _ i _ => s.size - (intOf i).toNat)
          case atStart => exact ⟨0, [], none, 0, Nat.zero_le _, rfl, rfl, (fun h => by simp [ints] at h), (by intro d h; cases h), rfl, by simp, rfl, Below.refl _ _⟩
          case round =>
            obtain ⟨k, r, A, c, hk, rfl, rfl, hI, hok, hvr, hr7, hal, hbl⟩ := hrel
            by_cases hlt : k < s.size
            · have hlt' : (k : Int) < (s.size : Int) := by omega
              have hH := fun w => Hex_any (s[k].toNat : Int) w
              have hF := HB.out k hlt
              have hT := take_map_snoc s hlt
              have hTa := take_snoc s k hlt
              have hcc := (hbl.cell (p := ⟨w.heap.size, k, none⟩) (by show w.heap.size < _; omega)).trans (hcW k hlt)
              obtain ⟨b, hb⟩ : ∃ b, s[k] = b := ⟨_, rfl⟩
              rw [hb] at hH hF hT hTa hcc
              have hb256 := b.toNat_lt
              obtain ⟨z, hz⟩ : ∃ z, hexI (b.toNat : Int) = z := ⟨_, rfl⟩
              simp only [hz] at hH
              have HW := Lib.hid hcW
              clear hcW
              cases hd : hexD base b with
              | true =>
                have hzz : 0 ≤ z ∧ z < base := by simpa [hexD, hz] using hd
                have hzn : z = (hexN b : Nat) := by rw [hexN, hz]; omega
                have HTa : Hid ((s.data.toList.take (k + 1)).all (hexD base) = true) := by show _ = _; rw [hTa, List.all_append, hal.out]; simp [hd]
                have HT := Lib.hid hT
                obtain ⟨d, hdd⟩ : ∃ d, hexN b = d := ⟨_, rfl⟩
                rw [hdd] at hzn HT
                obtain ⟨hz1, hz2⟩ := hzz
                have hz3 : ¬ base ≤ z := by omega
                rw [hzn] at hH hz1 hz2 hz3
                have hd16 : d ≤ 16 := by omega
                rw [hB] at hz2 hz3
                clear hF hT hTa hd hdd hz hzn
                have hTm := times_any A c r B d wr (by omega) hok (by omega) (by omega) hI
                rw [← HBn.out, hB] at hTm
                have HF : Hid (val r * B + d = foldV B ((s.data.toList.take (k + 1)).map hexN)) := by show _ = _; rw [HT.out, foldV_snoc, hvr.out]
                clear hI
                go_wp2_with (first | (go_at_call 18; refine (hH _).mono ?_; rintro e w' ⟨rfl, rfl⟩) | (go_at_call 19; refine hTm.mono ?_; rintro e w1 ⟨v, rfl, r1, hown1, hok1, hv1, hl1, hb1⟩; obtain ⟨A1, c1, rfl, _, hI1, _⟩ := hown1.form; clear hown1))
                go_roundw
                case rel => exact ⟨k + 1, r1, A1, c1, by omega, by go_num, rfl, hI1, hok1, by show _ = _; rw [hv1, HF.out], by omega, HTa.out, hbl.trans (hb1.mono hbl.size)⟩
                case measure => simp [intOf]; omega
              | false =>
                obtain ⟨e1, e2⟩ := plain_none (hF hd)
                have E1 := Lib.hid e1
                have E2 := Lib.hid e2
                have hzz : z < 0 ∨ (0 ≤ z ∧ base ≤ z) := by
                  have : ¬ (0 ≤ z ∧ z < base) := by simpa [hexD, hz] using hd
                  omega
                rw [hB] at hzz
                clear hF hT hTa hd hz e1 e2
                rcases hzz with hz1 | ⟨hz1, hz2⟩
                · go_wp2_with (go_at_call 18; refine (hH _).mono ?_; rintro e w' ⟨rfl, rfl⟩)
                  go_ret2
                  exact ⟨by rw [E1.out, E2.out]; rfl, hbW.trans (hbl.mono hbW.size)⟩
                · have hz1' : ¬ z < 0 := by omega
                  go_wp2_with (go_at_call 18; refine (hH _).mono ?_; rintro e w' ⟨rfl, rfl⟩)
                  go_ret2
                  exact ⟨by rw [E1.out, E2.out]; rfl, hbW.trans (hbl.mono hbW.size)⟩
            · obtain rfl : k = s.size := by omega
              obtain ⟨e1, e2⟩ := plain_some (s := s) (base := base) (by rw [HA.out hal.out]; intro h; exact HH0.out (by simpa using congrArg List.length h))
              have hv : foldV base.toNat (hexL s base) = val r := by rw [hvr.out, HA.out hal.out, HBn.out]; rfl
              rw [hv] at e1
              have E1 := Lib.hid e1
              have E2 := Lib.hid e2
              clear e1 e2 hv hcW
              go_wp2_with fail
              refine (text_any A c r wr (by omega) hok hI).mono ?_
              rintro e w2 ⟨rfl, hb2⟩
              go_wp2_with fail
              go_ret2
              exact ⟨by rw [E1.out, E2.out]; rfl, below_then (hbW.trans (hbl.mono hbW.size)) hb2⟩
      · obtain ⟨e1, e2⟩ := plain_none (hexL_bad (s := s) (base := base) (fun c => hb c.2.2))
        have E1 := Lib.hid e1
        have E2 := Lib.hid e2
        have b8 : (base != 8) = true := bne_iff_ne.2 (by omega)
        have b10 : (base != 10) = true := bne_iff_ne.2 (by omega)
        have b16 : (base != 16) = true := bne_iff_ne.2 (by omega)
        clear hb e1 e2
        go_wp2_with fail
        go_ret2
        exact ⟨by rw [E1.out, E2.out]; rfl, Below.refl _ _⟩
end Go.Proofs.YtdnmllklceaknaaDoor
