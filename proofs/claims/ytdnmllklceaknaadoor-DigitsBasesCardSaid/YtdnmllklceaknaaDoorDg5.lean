/- The walks of the reference's digits. Condition: lists that are not too long. -/
import Derived.Test.YtdnmllklceaknaaDoorDg4
namespace Go.Proofs.YtdnmllklceaknaaDoor
open Go.RowKit
open Dig
theorem empty_str (s : ByteArray) : s.toList.isEmpty = decide (s.size = 0) := by
  rw [Lib.toList_data, Bool.eq_iff_iff, List.isEmpty_iff, ← List.length_eq_zero_iff]
  simp only [decide_eq_true_eq]; rfl
theorem take_map_snoc (s : ByteArray) {k : Nat} (h : k < s.size) : (s.data.toList.take (k + 1)).map hexN = (s.data.toList.take k).map hexN ++ [hexN s[k]] := by rw [take_snoc s k h]; simp
theorem hexL_bad {s : ByteArray} {base : Int} (h : ¬ (s.size ≠ 0 ∧ s.size ≤ 5000 ∧ (base = 8 ∨ base = 10 ∨ base = 16))) : hexL s base = [] := by
  rw [hexL, if_neg (fun c => h ⟨c.1, c.2.1, c.2.2.1⟩)]
theorem hexL_not {s : ByteArray} {base : Int} {k : Nat} (h : k < s.size) (hb : hexD base s[k] = false) : hexL s base = [] := by
  rw [hexL, if_neg]
  intro c
  have hm : s[k] ∈ s.data.toList := by rw [← List.take_append_drop (k + 1) s.data.toList, take_snoc s k h]; simp
  have := List.all_eq_true.1 c.2.2.2 _ hm
  rw [hb] at this; cases this
theorem hexL_all {s : ByteArray} {base : Int} (h : s.size ≠ 0 ∧ s.size ≤ 5000 ∧ (base = 8 ∨ base = 10 ∨ base = 16)) (ha : (s.data.toList.take s.size).all (hexD base) = true) : hexL s base = (s.data.toList.take s.size).map hexN := by
  rw [List.take_of_length_le (by simp)] at ha ⊢
  rw [hexL, if_pos ⟨h.1, h.2.1, h.2.2, ha⟩]
set_option maxHeartbeats 1000000 in
theorem digitsOf_any (s : ByteArray) (base : Int) (w : World) (hs : s.size ≤ maxLen) :
    Calls Tryd.prog 22 #[.string s, .int .i64 base] w fun e w' => ∃ v, e = .returned v ∧ IOwn w' w.heap.size v (hexL s base) ∧ Below w.heap.size w w' := by
  unfold maxLen at hs
  go_enter Tryd.func22, Tryd.ntmps22
  by_cases h0 : s.size = 0
  · have hE : s.toList.isEmpty = true := by rw [empty_str]; simp [h0]
    have e := Lib.hid (hexL_bad (s := s) (base := base) (fun c => c.1 h0))
    clear h0
    go_wp2
    go_ret
    exact ⟨_, rfl, by rw [e.out]; exact IOwn.empty _ _, Below.refl _ _⟩
  · have hE : s.toList.isEmpty = false := by rw [empty_str]; simp [h0]
    by_cases h5 : 5000 < s.size
    · have h5' : (5000 : Int) < (s.size : Int) := by omega
      have e := Lib.hid (hexL_bad (s := s) (base := base) (fun c => by omega))
      clear h0
      go_wp2
      go_ret
      exact ⟨_, rfl, by rw [e.out]; exact IOwn.empty _ _, Below.refl _ _⟩
    · have h5' : ¬ (5000 : Int) < (s.size : Int) := by omega
      have h5d : decide ((5000 : Int) < (s.size : Int)) = false := decide_eq_false h5'
      by_cases hb : base = 8 ∨ base = 10 ∨ base = 16
      · have HA : Hid ((s.data.toList.take s.size).all (hexD base) = true → hexL s base = (s.data.toList.take s.size).map hexN) := fun h => hexL_all ⟨h0, by omega, hb⟩ h
        have HB : Hid (∀ k (h : k < s.size), hexD base s[k] = false → hexL s base = []) := fun k h => hexL_not h
        have hb16 : base ≤ 16 := by omega
        clear h0
        rcases hb with hB | hB | hB
        all_goals
          clear hb16
          go_wp2
          go_loopw [5, 6] (fun o i wr => ∃ k : Nat, k ≤ s.size ∧ i = .int .i64 k ∧ IOwn wr w.heap.size o ((s.data.toList.take k).map hexN) ∧ Hid ((s.data.toList.take k).all (hexD base) = true) ∧ Below w.heap.size w wr) (fun _ i _ => s.size - (intOf i).toNat)
          case atStart => exact ⟨0, Nat.zero_le _, rfl, IOwn.empty _ _, rfl, Below.refl _ _⟩
          case round =>
            obtain ⟨k, hk, rfl, hown, hal, hbl⟩ := hrel
            have hsz := hbl.size
            by_cases hlt : k < s.size
            · have hlt' : (k : Int) < (s.size : Int) := by omega
              have hH := fun w => RHex_any (s[k].toNat : Int) w
              have hF := HB.out k hlt
              have hT := take_map_snoc s hlt
              have hTa := take_snoc s k hlt
              obtain ⟨b, hb⟩ : ∃ b, s[k] = b := ⟨_, rfl⟩
              rw [hb] at hH hF hT hTa
              have hb256 := b.toNat_lt
              obtain ⟨z, hz⟩ : ∃ z, hexI (b.toNat : Int) = z := ⟨_, rfl⟩
              simp only [hz] at hH
              have hll : ((s.data.toList.take k).map hexN).length ≤ 1000000 := by simp; omega
              cases hd : hexD base b with
              | true =>
                have hzz : 0 ≤ z ∧ z < base := by simpa [hexD, hz] using hd
                have hzn : z = (hexN b : Nat) := by rw [hexN, hz]; omega
                have HTa : Hid ((s.data.toList.take (k + 1)).all (hexD base) = true) := by show _ = _; rw [hTa, List.all_append, hal.out]; simp [hd]
                have HT := Lib.hid hT
                obtain ⟨d, hdd⟩ : ∃ d, hexN b = d := ⟨_, rfl⟩
                rw [hdd] at hzn HT
                obtain ⟨hz1, hz2⟩ := hzz
                have hz3 : ¬ base ≤ z := by omega
                rw [hzn] at hH hz1 hz2 hz3
                rw [hB] at hz2 hz3
                clear hF hT hTa hd hdd hz hzn
                go_wp2_with (first | (go_at_call 31; refine (hH _).mono ?_; rintro e w' ⟨rfl, rfl⟩) | (at_builtin; refine wpList_app1 rfl _ _ _ rfl Tryd.underlying26 w.heap.size u5 _ d _ rfl rfl hown _ rfl rfl hll hsz ?_; intro v1 w1 hown1 hb1))
                go_roundw
                case rel => exact ⟨k + 1, by omega, by go_num, by rw [HT.out]; exact hown1, HTa.out, hbl.trans hb1⟩
                case measure => simp [intOf]; omega
              | false =>
                have e := Lib.hid (hF hd)
                have hzz : z < 0 ∨ (0 ≤ z ∧ base ≤ z) := by
                  have : ¬ (0 ≤ z ∧ z < base) := by simpa [hexD, hz] using hd
                  omega
                rw [hB] at hzz
                clear hF hT hTa hd hz
                rcases hzz with hz1 | ⟨hz1, hz2⟩
                · go_wp2_with (go_at_call 31; refine (hH _).mono ?_; rintro e w' ⟨rfl, rfl⟩)
                  go_ret
                  exact ⟨_, rfl, by rw [e.out]; exact IOwn.empty _ _, hbl⟩
                · have hz1' : ¬ z < 0 := by omega
                  go_wp2_with (go_at_call 31; refine (hH _).mono ?_; rintro e w' ⟨rfl, rfl⟩)
                  go_ret
                  exact ⟨_, rfl, by rw [e.out]; exact IOwn.empty _ _, hbl⟩
            · obtain rfl : k = s.size := by omega
              have e := Lib.hid (HA.out hal.out)
              go_wp2
              go_ret
              exact ⟨_, rfl, by rw [e.out]; exact hown, hbl⟩
      · have e := Lib.hid (hexL_bad (s := s) (base := base) (fun c => hb c.2.2))
        have b8 : (base != 8) = true := bne_iff_ne.2 (by omega)
        have b10 : (base != 10) = true := bne_iff_ne.2 (by omega)
        have b16 : (base != 16) = true := bne_iff_ne.2 (by omega)
        clear hb
        go_wp2
        go_ret
        exact ⟨_, rfl, by rw [e.out]; exact IOwn.empty _ _, Below.refl _ _⟩
end Go.Proofs.YtdnmllklceaknaaDoor
