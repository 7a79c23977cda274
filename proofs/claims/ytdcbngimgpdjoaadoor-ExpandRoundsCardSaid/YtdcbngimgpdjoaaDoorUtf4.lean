/- The walks of the reference's uri and Valid. Condition: a text is no longer than a million bytes. -/
import Derived.Test.YtdcbngimgpdjoaaDoorUtf3
namespace Go.Proofs.YtdcbngimgpdjoaaDoor
open Go.RowKit Go.Lib
theorem nth_drop (l : List Int) (i k : Nat) : nth (l.drop i) k = nth l (i + k) := by simp [nth]
set_option maxRecDepth 100000 in
set_option maxHeartbeats 2000000 in
theorem ruri_any (A : Option Addr) (c : Nat) (l : List Int) (i : Nat) (w : World) (hl : l.length ≤ 1000000000) (hi : i ≤ l.length) (hI : IntsAt w w.heap.size A l) :
    Calls Tryd.prog 80 #[.slice A l.length c, .int .i64 (i : Int)] w fun e w' => e = .returned (.int .i64 (signN (l.drop i))) ∧ w = w' := by
  by_cases h0 : i = l.length
  · subst h0
    have hs : signN (l.drop l.length) = 0 := by simp [signN]
    rw [hs]
    clear hs hI
    go_enter Tryd.func80, Tryd.ntmps80
    go_wp2_with fail
    go_ret
    exact ⟨rfl, rfl⟩
  · have hil : i < l.length := by omega
    have hil' : ¬ (l.length : Int) ≤ (i : Int) := by omega
    have hil2 : (i : Int) < (l.length : Int) := by omega
    obtain ⟨b, off, rfl, hbw, hcc⟩ := hI (by omega)
    have hc0 := hcc i hil
    have HC := Lib.hid hcc
    obtain ⟨r, hr⟩ : ∃ r, signN (l.drop i) = r := ⟨_, rfl⟩
    rw [hr]
    unfold signN at hr
    rw [List.length_drop, if_neg (by omega), nth_drop, nth_drop, nth_drop, Nat.add_zero] at hr
    have HR := Lib.hid hr
    obtain ⟨x, hx⟩ : ∃ x, nth l i = x := ⟨_, rfl⟩
    rw [hx] at HR hc0
    have hW := RWord_any x
    have hM := fun w => Ramong_any ⟨#[35, 59, 47, 63, 58, 64, 38, 61, 43, 36, 44, 95, 46, 33, 126, 42, 39, 40, 41, 91, 93]⟩ x w (by decide)
    have hMe : amongB (ByteArray.data ⟨#[35, 59, 47, 63, 58, 64, 38, 61, 43, 36, 44, 95, 46, 33, 126, 42, 39, 40, 41, 91, 93]⟩).toList x = amongB uriL x := rfl
    rw [hMe] at hM
    clear hr hcc hx h0 hMe hI
    cases hw : wordB x with
    | true =>
      rw [hw] at hW
      have hx37 : x ≠ 37 := by rintro rfl; exact absurd hw (by decide)
      have HR3 : Hid (1 = r) := by have := HR.out; rwa [if_neg hx37, if_pos (.inl hw)] at this
      have HW := Lib.hid hW
      clear hW hM hw hx37 HR
      go_enter Tryd.func80, Tryd.ntmps80
      go_wp2_with (go_at_call 85; refine (HW.out _).mono ?_; rintro e w' ⟨rfl, rfl⟩)
      go_ret
      exact ⟨ret_int (by have := HR3.out; omega), rfl⟩
    | false =>
      rw [hw] at hW
      have HW := Lib.hid hW
      cases ha : amongB uriL x with
      | true =>
        rw [ha] at hM
        have hx37 : x ≠ 37 := by rintro rfl; exact absurd ha (by decide)
        have HR3 : Hid (1 = r) := by have := HR.out; rwa [if_neg hx37, if_pos (.inr ha)] at this
        have HM := Lib.hid hM
        clear hW hM hw hx37 HR ha
        go_enter Tryd.func80, Tryd.ntmps80
        go_wp2_with (first
          | (go_at_call 85; refine (HW.out _).mono ?_; rintro e w' ⟨rfl, rfl⟩)
          | (go_at_call 86; refine (HM.out _).mono ?_; rintro e w' ⟨rfl, rfl⟩))
        go_ret
        exact ⟨ret_int (by have := HR3.out; omega), rfl⟩
      | false =>
        rw [ha] at hM
        have HM := Lib.hid hM
        by_cases hp : x = 37
        · subst hp
          have HR2 : Hid ((if 2 < l.length - i ∧ 0 ≤ hexI (nth l (i + 1)) ∧ 0 ≤ hexI (nth l (i + 2)) then 3 else 0) = r) := by have := HR.out; rwa [if_pos rfl] at this
          have hw2 : wrap64 ((i : Int) + 2) = i + 2 := IntWalk.wrap64_in _ (by omega)
          have hw1 : wrap64 ((i : Int) + 1) = i + 1 := IntWalk.wrap64_in _ (by omega)
          clear HR hW hM hw ha
          by_cases h2 : i + 2 < l.length
          · have h2i : (i : Int) + 2 < (l.length : Int) := by omega
            have h1i : (i : Int) + 1 < (l.length : Int) := by omega
            have hc1 := HC.out (i + 1) (by omega)
            have hc2 := HC.out (i + 2) (by omega)
            obtain ⟨z1, hz1⟩ : ∃ z, nth l (i + 1) = z := ⟨_, rfl⟩
            obtain ⟨z2, hz2⟩ : ∃ z, nth l (i + 2) = z := ⟨_, rfl⟩
            rw [hz1] at hc1 HR2
            rw [hz2] at hc2 HR2
            clear hz1 hz2
            by_cases k1 : 0 ≤ hexI z1
            · by_cases k2 : 0 ≤ hexI z2
              · have HR3 : Hid (3 = r) := by have := HR2.out; rwa [if_pos ⟨by omega, k1, k2⟩] at this
                clear HR2 h2
                go_enter Tryd.func80, Tryd.ntmps80
                go_wp2_with (first
              | (go_at_call 85; refine (HW.out _).mono ?_; rintro e w' ⟨rfl, rfl⟩)
              | (go_at_call 86; refine (HM.out _).mono ?_; rintro e w' ⟨rfl, rfl⟩)
              | (go_at_call 87; refine (RHex_any _ _).mono ?_; rintro e w' ⟨rfl, rfl⟩))
                go_ret
                exact ⟨ret_int (by have := HR3.out; omega), rfl⟩
              · have HR3 : Hid (0 = r) := by have := HR2.out; rwa [if_neg (fun h => k2 h.2.2)] at this
                have k2' : decide (0 ≤ hexI z2) = false := decide_eq_false k2
                clear HR2 h2
                go_enter Tryd.func80, Tryd.ntmps80
                go_wp2_with (first
              | (go_at_call 85; refine (HW.out _).mono ?_; rintro e w' ⟨rfl, rfl⟩)
              | (go_at_call 86; refine (HM.out _).mono ?_; rintro e w' ⟨rfl, rfl⟩)
              | (go_at_call 87; refine (RHex_any _ _).mono ?_; rintro e w' ⟨rfl, rfl⟩))
                go_ret
                exact ⟨ret_int (by have := HR3.out; omega), rfl⟩
            · have HR3 : Hid (0 = r) := by have := HR2.out; rwa [if_neg (fun h => k1 h.2.1)] at this
              have k1' : decide (0 ≤ hexI z1) = false := decide_eq_false k1
              clear HR2 h2
              go_enter Tryd.func80, Tryd.ntmps80
              go_wp2_with (first
              | (go_at_call 85; refine (HW.out _).mono ?_; rintro e w' ⟨rfl, rfl⟩)
              | (go_at_call 86; refine (HM.out _).mono ?_; rintro e w' ⟨rfl, rfl⟩)
              | (go_at_call 87; refine (RHex_any _ _).mono ?_; rintro e w' ⟨rfl, rfl⟩))
              go_ret
              exact ⟨ret_int (by have := HR3.out; omega), rfl⟩
          · have h2i : ¬ (i : Int) + 2 < (l.length : Int) := by omega
            have h2d := decide_eq_false h2i
            have HR3 : Hid (0 = r) := by have := HR2.out; rwa [if_neg (fun h => h2 (by omega))] at this
            clear HR2 h2
            go_enter Tryd.func80, Tryd.ntmps80
            go_wp2_with (first
              | (go_at_call 85; refine (HW.out _).mono ?_; rintro e w' ⟨rfl, rfl⟩)
              | (go_at_call 86; refine (HM.out _).mono ?_; rintro e w' ⟨rfl, rfl⟩))
            go_ret
            exact ⟨ret_int (by have := HR3.out; omega), rfl⟩
        · have hp' : (x == 37) = false := beq_eq_false_iff_ne.2 hp
          have HR3 : Hid (0 = r) := by have := HR.out; rwa [if_neg hp, if_neg (by rintro (h | h) <;> simp_all)] at this
          clear HR hW hM hw ha hp
          go_enter Tryd.func80, Tryd.ntmps80
          go_wp2_with (first
            | (go_at_call 85; refine (HW.out _).mono ?_; rintro e w' ⟨rfl, rfl⟩)
            | (go_at_call 86; refine (HM.out _).mono ?_; rintro e w' ⟨rfl, rfl⟩))
          go_ret
          exact ⟨ret_int (by have := HR3.out; omega), rfl⟩
set_option maxRecDepth 100000 in
set_option maxHeartbeats 2000000 in
theorem rValid_any (s : ByteArray) (w : World) (hs : s.size ≤ 1000000) :
    Calls Tryd.prog 67 #[.string s] w fun e w' => e = .returned (.bool (tagB s)) ∧ Below w.heap.size w w' := by
  have HT : Hid (Calls Tryd.prog 79 #[.string s] w (TextR s w)) := Text_any s w hs
  cases hv : validD s.data.toList with
  | false =>
    have HT0 : Hid (Calls Tryd.prog 79 #[.string s] w fun e w' => ∃ u, e = .returned (.tuple #[u, .bool false]) ∧ Below w.heap.size w w') := HT.out.mono (by
      rintro e w' ⟨u, v, rfl, h1, _, h3⟩
      rw [h1, hv]
      exact ⟨u, rfl, h3⟩)
    rw [valid_not hv]
    clear HT hv hs
    go_enter Tryd.func67, Tryd.ntmps67
    go_wp2_with (go_at_call 79; refine HT0.out.mono ?_; rintro e w1 ⟨u, rfl, hb⟩)
    go_ret
    exact ⟨rfl, hb⟩
  | true =>
    have HT1 : Hid (Calls Tryd.prog 79 #[.string s] w fun e w' => ∃ A c l, e = .returned (.tuple #[.slice A (List.length l) c, .bool true]) ∧ (List.length l ≤ 1000000 ∧ (decide (List.length l ≠ 0) && validS l) = tagB s ∧ IntsAt w' w'.heap.size A l) ∧ Below w.heap.size w w') := HT.out.mono (by
      rintro e w' ⟨u, v, rfl, h1, h2, h3⟩
      obtain ⟨A, c, l, rfl, hd, hI⟩ := h2 (by rw [h1, hv])
      rw [h1, hv]
      exact ⟨A, c, l, rfl, ⟨by have := hd.valid.2.2; omega, valid_eq hd, hI⟩, h3⟩)
    obtain ⟨r, hr⟩ : ∃ r, tagB s = r := ⟨_, rfl⟩
    rw [hr] at HT1 ⊢
    clear HT hv hs hr
    go_enter Tryd.func67, Tryd.ntmps67
    go_wp2_with (go_at_call 79; refine HT1.out.mono ?_; rintro e w1 ⟨A, c, l, rfl, hl, hb⟩; have Hl := Lib.hid hl; have Hb := Lib.hid hb; clear hl hb)
    · rename_i h
      have h' : l.length = 0 := by have := beq_iff_eq.1 h; omega
      have HR : Hid (r = false) := by show _ = _; rw [← Hl.out.2.1, h']; rfl
      go_ret
      exact ⟨ret_bool HR.out.symm, Hb.out⟩
    · rename_i h _ _
      have h' : l.length ≠ 0 := fun e => by rw [e] at h; cases h
      have HR : Hid (r = validS l) := by show _ = _; rw [← Hl.out.2.1]; simp [h']
      have H0 := Lib.hid h'
      clear h h'
      go_loop [5] (fun i => ∃ k : Nat, k ≤ l.length ∧ i = .int .i64 (k : Int) ∧ Hid (validS l = validS (l.drop k))) (fun i => l.length - (intOf i).toNat)
      case atStart => exact ⟨0, Nat.zero_le _, rfl, rfl⟩
      case round =>
        obtain ⟨k, hk, rfl, hm⟩ := hrel
        by_cases hkl : k < l.length
        · have hkl' : (k : Int) < (l.length : Int) := by omega
          have HU : Hid (Calls Tryd.prog 80 #[.slice A l.length c, .int .i64 (k : Int)] w1 fun e w' => e = .returned (.int .i64 (signN (l.drop k))) ∧ w1 = w') := ruri_any A c l k w1 (by have := Hl.out.1; omega) hk Hl.out.2.2
          obtain ⟨n, hn⟩ : ∃ n, signN (l.drop k) = n := ⟨_, rfl⟩
          rw [hn] at HU
          have hle := signN_le (l.drop k)
          rw [hn, List.length_drop] at hle
          have HN := Lib.hid hn
          have Hle := Lib.hid hle
          have Hkl := Lib.hid hkl
          clear hn hle hk hkl
          by_cases h0 : n = 0
          · have HV : Hid (r = false) := by
              show _ = _
              rw [HR.out, hm.out, validS_stop (HN.out.trans h0)]
              have h1 := Hkl.out
              cases hq : l.drop k with
              | nil => have := congrArg List.length hq; simp at this; omega
              | cons _ _ => rfl
            subst h0
            go_wp2_with (go_at_call 80; refine HU.out.mono ?_; rintro e w' ⟨rfl, rfl⟩)
            go_ret
            exact ⟨ret_bool HV.out.symm, Hb.out⟩
          · have h0' : ((n : Int) == 0) = false := beq_eq_false_iff_ne.2 (by omega)
            have HM : Hid (validS l = validS (l.drop (k + n))) := by
              show _ = _
              rw [hm.out, validS_step (by rw [HN.out]; exact h0), HN.out, List.drop_drop]
            have HW : Hid (wrap64 ((k : Int) + (n : Int)) = k + n) := IntWalk.wrap64_in _ (by have := Hle.out; have := Hl.out.1; omega)
            have H0n := Lib.hid h0
            have hmz : ∀ z : Int, z = k + n → l.length - (intOf (.int .i64 z)).toNat < l.length - (intOf (.int .i64 (k : Int))).toNat := by intro z hz; subst hz; have := H0n.out; have := Hkl.out; simp only [intOf]; omega
            clear h0
            go_wp2_with (go_at_call 80; refine HU.out.mono ?_; rintro e w' ⟨rfl, rfl⟩)
            exact ⟨⟨k + n, by have := Hle.out; have := Hkl.out; omega, congrArg (Value.int .i64) (HW.out.trans (by simp)), HM⟩, hmz _ HW.out⟩
        · obtain rfl : k = l.length := by omega
          have hkl' : ¬ (l.length : Int) < (l.length : Int) := by omega
          have HV : Hid (r = true) := by show _ = _; rw [HR.out, hm.out, List.drop_length]; rfl
          go_wp2_with fail
          go_ret
          exact ⟨ret_bool HV.out.symm, Hb.out⟩
end Go.Proofs.YtdcbngimgpdjoaaDoor
