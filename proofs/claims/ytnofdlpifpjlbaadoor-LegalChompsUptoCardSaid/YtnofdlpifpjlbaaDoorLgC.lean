/- How a text is chomped, and whether it says where it stands: legal's two functions and the reference's. Condition: a text is no longer than a million bytes. -/
import Derived.Test.YtnofdlpifpjlbaaDoorLgM
namespace Go.Proofs.YtnofdlpifpjlbaaDoor
open Go.RowKit
theorem empty_str (s : ByteArray) : s.toList.isEmpty = decide (s.size = 0) := by
  rw [Lib.toList_data, Bool.eq_iff_iff, List.isEmpty_iff, ← List.length_eq_zero_iff]
  simp
def chompI (s : ByteArray) : Int := if s.size = 0 then 1 else if nth (bytesI s) (s.size - 1) ≠ 10 then 1 else if 1 < s.size ∧ nth (bytesI s) (s.size - 2) ≠ 10 then 0 else 2
def indB (s : ByteArray) : Bool := decide (0 < s.size) && (blankB (nth (bytesI s) 0) || nth (bytesI s) 0 == 10)
set_option maxRecDepth 100000 in
set_option maxHeartbeats 1000000 in
theorem Chomp_any (s : ByteArray) (w : World) (hs : s.size ≤ 1000000) :
    Calls Tryd.prog 11 #[.string s] w fun e w' => e = .returned (.int .i64 (chompI s)) ∧ w = w' := by
  obtain ⟨R, hR⟩ : ∃ R, chompI s = R := ⟨_, rfl⟩
  have HR : Hid (R = if s.size = 0 then 1 else if nth (bytesI s) (s.size - 1) ≠ 10 then 1 else if 1 < s.size ∧ nth (bytesI s) (s.size - 2) ≠ 10 then 0 else 2) := by show _ = _; rw [← hR]; rfl
  rw [hR]
  clear hR
  by_cases h0 : s.size = 0
  · have HE : Hid (R = 1) := by show _ = _; rw [HR.out, if_pos h0]
    have h00 : (s.size : Int) = 0 := by omega
    have hz : ((s.size : Int) == 0) = true := beq_iff_eq.2 h00
    clear HR h0 hs
    go_enter Tryd.func11, Tryd.ntmps11
    go_wp2_with fail
    go_ret
    exact ⟨ret_int HE.out.symm, rfl⟩
  · have hz : ((s.size : Int) == 0) = false := beq_eq_false_iff_ne.2 (by omega)
    have hk : s.size - 1 < s.size := by omega
    have hk1 : (0 : Int) ≤ (s.size : Int) - 1 := by omega
    have hk2 : (s.size : Int) - 1 < (s.size : Int) := by omega
    have hk3 : ((s.size : Int) - 1).toNat = s.size - 1 := by omega
    have hw1 : wrap64 ((s.size : Int) - 1) = s.size - 1 := IntWalk.wrap64_in _ (by omega)
    have HR2 : Hid (R = if (s[s.size - 1].toNat : Int) ≠ 10 then 1 else if 1 < s.size ∧ nth (bytesI s) (s.size - 2) ≠ 10 then 0 else 2) := by show _ = _; rw [HR.out, if_neg h0, bytes_nth hk]
    clear HR h0
    obtain ⟨x, hx⟩ : ∃ x, (s[s.size - 1].toNat : Int) = x := ⟨_, rfl⟩
    rw [hx] at HR2
    by_cases hx10 : x = 10
    · have hxe : (x == 10) = true := beq_iff_eq.2 hx10
      have hxn : (x != 10) = false := by rw [bne_eq_false_iff_eq]; exact hx10
      have HR3 : Hid (R = if 1 < s.size ∧ nth (bytesI s) (s.size - 2) ≠ 10 then 0 else 2) := by show _ = _; rw [HR2.out, if_neg (fun h => h hx10)]
      clear HR2 hx10
      by_cases h1 : 1 < s.size
      · have hd1 : decide ((1 : Int) < (s.size : Int)) = true := decide_eq_true (by omega)
        have hl1 : (1 : Int) < (s.size : Int) := by omega
        have hj : s.size - 2 < s.size := by omega
        have hj1 : (0 : Int) ≤ (s.size : Int) - 2 := by omega
        have hj2 : (s.size : Int) - 2 < (s.size : Int) := by omega
        have hj3 : ((s.size : Int) - 2).toNat = s.size - 2 := by omega
        have hw2 : wrap64 ((s.size : Int) - 2) = s.size - 2 := IntWalk.wrap64_in _ (by omega)
        have HR4 : Hid (R = if (s[s.size - 2].toNat : Int) ≠ 10 then 0 else 2) := by show _ = _; rw [HR3.out, bytes_nth hj]; simp [h1]
        clear HR3 h1 hs
        obtain ⟨y, hy⟩ : ∃ y, (s[s.size - 2].toNat : Int) = y := ⟨_, rfl⟩
        rw [hy] at HR4
        by_cases hy10 : y = 10
        · have hye : (y == 10) = true := beq_iff_eq.2 hy10
          have hyn : (y != 10) = false := by rw [bne_eq_false_iff_eq]; exact hy10
          have HE : Hid (R = 2) := by show _ = _; rw [HR4.out, if_neg (fun h => h hy10)]
          clear HR4 hy10
          go_enter Tryd.func11, Tryd.ntmps11
          go_wp2_with fail
          go_ret
          exact ⟨ret_int HE.out.symm, rfl⟩
        · have hye : (y == 10) = false := beq_eq_false_iff_ne.2 hy10
          have hyn : (y != 10) = true := bne_iff_ne.2 hy10
          have HE : Hid (R = 0) := by show _ = _; rw [HR4.out, if_pos hy10]
          clear HR4 hy10
          go_enter Tryd.func11, Tryd.ntmps11
          go_wp2_with fail
          go_ret
          exact ⟨ret_int HE.out.symm, rfl⟩
      · have hd1 : decide ((1 : Int) < (s.size : Int)) = false := decide_eq_false (by omega)
        have hl1 : ¬ (1 : Int) < (s.size : Int) := by omega
        have HE : Hid (R = 2) := by show _ = _; rw [HR3.out, if_neg (fun h => h1 h.1)]
        clear HR3 h1 hs
        go_enter Tryd.func11, Tryd.ntmps11
        go_wp2_with fail
        go_ret
        exact ⟨ret_int HE.out.symm, rfl⟩
    · have hxe : (x == 10) = false := beq_eq_false_iff_ne.2 hx10
      have hxn : (x != 10) = true := bne_iff_ne.2 hx10
      have HE : Hid (R = 1) := by show _ = _; rw [HR2.out, if_pos hx10]
      clear HR2 hx10 hs
      go_enter Tryd.func11, Tryd.ntmps11
      go_wp2_with fail
      go_ret
      exact ⟨ret_int HE.out.symm, rfl⟩
set_option maxRecDepth 100000 in
set_option maxHeartbeats 1000000 in
theorem RChomp_any (s : ByteArray) (w : World) (hs : s.size ≤ 1000000) :
    Calls Tryd.prog 13 #[.string s] w fun e w' => e = .returned (.int .i64 (chompI s)) ∧ w = w' := by
  obtain ⟨R, hR⟩ : ∃ R, chompI s = R := ⟨_, rfl⟩
  have HR : Hid (R = if s.size = 0 then 1 else if nth (bytesI s) (s.size - 1) ≠ 10 then 1 else if 1 < s.size ∧ nth (bytesI s) (s.size - 2) ≠ 10 then 0 else 2) := by show _ = _; rw [← hR]; rfl
  rw [hR]
  clear hR
  by_cases h0 : s.size = 0
  · have HE : Hid (R = 1) := by show _ = _; rw [HR.out, if_pos h0]
    have h00 : (s.size : Int) = 0 := by omega
    have hz : ((s.size : Int) == 0) = true := beq_iff_eq.2 h00
    clear HR h0 hs
    go_enter Tryd.func13, Tryd.ntmps13
    go_wp2_with fail
    go_ret
    exact ⟨ret_int HE.out.symm, rfl⟩
  · have hz : ((s.size : Int) == 0) = false := beq_eq_false_iff_ne.2 (by omega)
    have hk : s.size - 1 < s.size := by omega
    have hk1 : (0 : Int) ≤ (s.size : Int) - 1 := by omega
    have hk2 : (s.size : Int) - 1 < (s.size : Int) := by omega
    have hk3 : ((s.size : Int) - 1).toNat = s.size - 1 := by omega
    have hw1 : wrap64 ((s.size : Int) - 1) = s.size - 1 := IntWalk.wrap64_in _ (by omega)
    have HR2 : Hid (R = if (s[s.size - 1].toNat : Int) ≠ 10 then 1 else if 1 < s.size ∧ nth (bytesI s) (s.size - 2) ≠ 10 then 0 else 2) := by show _ = _; rw [HR.out, if_neg h0, bytes_nth hk]
    clear HR h0
    obtain ⟨x, hx⟩ : ∃ x, (s[s.size - 1].toNat : Int) = x := ⟨_, rfl⟩
    rw [hx] at HR2
    by_cases hx10 : x = 10
    · have hxe : (x == 10) = true := beq_iff_eq.2 hx10
      have hxn : (x != 10) = false := by rw [bne_eq_false_iff_eq]; exact hx10
      have HR3 : Hid (R = if 1 < s.size ∧ nth (bytesI s) (s.size - 2) ≠ 10 then 0 else 2) := by show _ = _; rw [HR2.out, if_neg (fun h => h hx10)]
      clear HR2 hx10
      by_cases h1 : 1 < s.size
      · have hd1 : decide ((1 : Int) < (s.size : Int)) = true := decide_eq_true (by omega)
        have hl1 : (1 : Int) < (s.size : Int) := by omega
        have hj : s.size - 2 < s.size := by omega
        have hj1 : (0 : Int) ≤ (s.size : Int) - 2 := by omega
        have hj2 : (s.size : Int) - 2 < (s.size : Int) := by omega
        have hj3 : ((s.size : Int) - 2).toNat = s.size - 2 := by omega
        have hw2 : wrap64 ((s.size : Int) - 2) = s.size - 2 := IntWalk.wrap64_in _ (by omega)
        have HR4 : Hid (R = if (s[s.size - 2].toNat : Int) ≠ 10 then 0 else 2) := by show _ = _; rw [HR3.out, bytes_nth hj]; simp [h1]
        clear HR3 h1 hs
        obtain ⟨y, hy⟩ : ∃ y, (s[s.size - 2].toNat : Int) = y := ⟨_, rfl⟩
        rw [hy] at HR4
        by_cases hy10 : y = 10
        · have hye : (y == 10) = true := beq_iff_eq.2 hy10
          have hyn : (y != 10) = false := by rw [bne_eq_false_iff_eq]; exact hy10
          have HE : Hid (R = 2) := by show _ = _; rw [HR4.out, if_neg (fun h => h hy10)]
          clear HR4 hy10
          go_enter Tryd.func13, Tryd.ntmps13
          go_wp2_with fail
          go_ret
          exact ⟨ret_int HE.out.symm, rfl⟩
        · have hye : (y == 10) = false := beq_eq_false_iff_ne.2 hy10
          have hyn : (y != 10) = true := bne_iff_ne.2 hy10
          have HE : Hid (R = 0) := by show _ = _; rw [HR4.out, if_pos hy10]
          clear HR4 hy10
          go_enter Tryd.func13, Tryd.ntmps13
          go_wp2_with fail
          go_ret
          exact ⟨ret_int HE.out.symm, rfl⟩
      · have hd1 : decide ((1 : Int) < (s.size : Int)) = false := decide_eq_false (by omega)
        have hl1 : ¬ (1 : Int) < (s.size : Int) := by omega
        have HE : Hid (R = 2) := by show _ = _; rw [HR3.out, if_neg (fun h => h1 h.1)]
        clear HR3 h1 hs
        go_enter Tryd.func13, Tryd.ntmps13
        go_wp2_with fail
        go_ret
        exact ⟨ret_int HE.out.symm, rfl⟩
    · have hxe : (x == 10) = false := beq_eq_false_iff_ne.2 hx10
      have hxn : (x != 10) = true := bne_iff_ne.2 hx10
      have HE : Hid (R = 1) := by show _ = _; rw [HR2.out, if_pos hx10]
      clear HR2 hx10 hs
      go_enter Tryd.func13, Tryd.ntmps13
      go_wp2_with fail
      go_ret
      exact ⟨ret_int HE.out.symm, rfl⟩
set_option maxRecDepth 100000 in
set_option maxHeartbeats 1000000 in
theorem Indicator_any (s : ByteArray) (w : World) (hs : s.size ≤ 1000000) :
    Calls Tryd.prog 14 #[.string s] w fun e w' => e = .returned (.bool (indB s)) ∧ w = w' := by
  by_cases h0 : s.size = 0
  · obtain rfl : s = ⟨#[]⟩ := by
      cases s with
      | mk d =>
        have : d.size = 0 := h0
        rw [Array.eq_empty_of_size_eq_zero this]
    clear hs h0
    go_enter Tryd.func14, Tryd.ntmps14
    go_wp2_with fail
    go_ret
    exact ⟨rfl, rfl⟩
  · have hk : 0 < s.size := by omega
    have hne : s.toList.isEmpty = false := by rw [empty_str]; simp [h0]
    have hk2 : (0 : Int) < (s.size : Int) := by omega
    have HB := Lib.hid (blank_any s[0] w)
    have HR : Hid (indB s = (blankB (s[0].toNat : Int) || (s[0].toNat : Int) == 10)) := by show _ = _; unfold indB; rw [bytes_nth hk]; simp [hk]
    obtain ⟨R, hR⟩ : ∃ R, indB s = R := ⟨_, rfl⟩
    rw [hR] at HR ⊢
    obtain ⟨x, hx⟩ : ∃ x, (s[0].toNat : Int) = x := ⟨_, rfl⟩
    rw [hx] at HB HR
    clear h0 hs hR
    have hcs : x = 32 ∨ x = 9 ∨ x = 10 ∨ (x ≠ 32 ∧ x ≠ 9 ∧ x ≠ 10) := by omega
    rcases hcs with rfl | rfl | rfl | ⟨e1, e2, e3⟩
    · have HE : Hid (R = true) := by show _ = _; rw [HR.out]; rfl
      rw [show blankB 32 = true from rfl] at HB
      go_enter Tryd.func14, Tryd.ntmps14
      go_wp2_with (go_at_call 32; refine HB.out.mono ?_; rintro e w' ⟨rfl, rfl⟩)
      go_ret
      exact ⟨ret_bool HE.out.symm, rfl⟩
    · have HE : Hid (R = true) := by show _ = _; rw [HR.out]; rfl
      rw [show blankB 9 = true from rfl] at HB
      go_enter Tryd.func14, Tryd.ntmps14
      go_wp2_with (go_at_call 32; refine HB.out.mono ?_; rintro e w' ⟨rfl, rfl⟩)
      go_ret
      exact ⟨ret_bool HE.out.symm, rfl⟩
    · have HE : Hid (R = true) := by show _ = _; rw [HR.out]; rfl
      rw [show blankB 10 = false from rfl] at HB
      go_enter Tryd.func14, Tryd.ntmps14
      go_wp2_with (go_at_call 32; refine HB.out.mono ?_; rintro e w' ⟨rfl, rfl⟩)
      go_ret
      exact ⟨ret_bool HE.out.symm, rfl⟩
    · have hb : blankB x = false := by rw [Bool.eq_false_iff]; intro h; rw [blankB_iff] at h; omega
      have g1 : (x == 32) = false := beq_eq_false_iff_ne.2 e1
      have g2 : (x == 9) = false := beq_eq_false_iff_ne.2 e2
      have g3 : (x == 10) = false := beq_eq_false_iff_ne.2 e3
      have HE : Hid (R = false) := by show _ = _; rw [HR.out, hb, g3]; rfl
      rw [hb] at HB
      clear HR hb e1 e2 e3
      go_enter Tryd.func14, Tryd.ntmps14
      go_wp2_with (go_at_call 32; refine HB.out.mono ?_; rintro e w' ⟨rfl, rfl⟩)
      go_ret
      exact ⟨ret_bool HE.out.symm, rfl⟩
set_option maxRecDepth 100000 in
set_option maxHeartbeats 1000000 in
theorem RIndicator_any (s : ByteArray) (w : World) (hs : s.size ≤ 1000000) :
    Calls Tryd.prog 15 #[.string s] w fun e w' => e = .returned (.bool (indB s)) ∧ w = w' := by
  by_cases h0 : s.size = 0
  · obtain rfl : s = ⟨#[]⟩ := by
      cases s with
      | mk d =>
        have : d.size = 0 := h0
        rw [Array.eq_empty_of_size_eq_zero this]
    clear hs h0
    go_enter Tryd.func15, Tryd.ntmps15
    go_wp2_with fail
    go_ret
    exact ⟨rfl, rfl⟩
  · have hk : 0 < s.size := by omega
    have hne : s.toList.isEmpty = false := by rw [empty_str]; simp [h0]
    have hk2 : (0 : Int) < (s.size : Int) := by omega
    have HB := Lib.hid (blank_any s[0] w)
    have HR : Hid (indB s = (blankB (s[0].toNat : Int) || (s[0].toNat : Int) == 10)) := by show _ = _; unfold indB; rw [bytes_nth hk]; simp [hk]
    obtain ⟨R, hR⟩ : ∃ R, indB s = R := ⟨_, rfl⟩
    rw [hR] at HR ⊢
    obtain ⟨x, hx⟩ : ∃ x, (s[0].toNat : Int) = x := ⟨_, rfl⟩
    rw [hx] at HB HR
    clear h0 hs hR
    have hcs : x = 32 ∨ x = 9 ∨ x = 10 ∨ (x ≠ 32 ∧ x ≠ 9 ∧ x ≠ 10) := by omega
    rcases hcs with rfl | rfl | rfl | ⟨e1, e2, e3⟩
    · have HE : Hid (R = true) := by show _ = _; rw [HR.out]; rfl
      rw [show blankB 32 = true from rfl] at HB
      go_enter Tryd.func15, Tryd.ntmps15
      go_wp2_with fail
      go_ret
      exact ⟨ret_bool HE.out.symm, rfl⟩
    · have HE : Hid (R = true) := by show _ = _; rw [HR.out]; rfl
      rw [show blankB 9 = true from rfl] at HB
      go_enter Tryd.func15, Tryd.ntmps15
      go_wp2_with fail
      go_ret
      exact ⟨ret_bool HE.out.symm, rfl⟩
    · have HE : Hid (R = true) := by show _ = _; rw [HR.out]; rfl
      rw [show blankB 10 = false from rfl] at HB
      go_enter Tryd.func15, Tryd.ntmps15
      go_wp2_with fail
      go_ret
      exact ⟨ret_bool HE.out.symm, rfl⟩
    · have hb : blankB x = false := by rw [Bool.eq_false_iff]; intro h; rw [blankB_iff] at h; omega
      have g1 : (x == 32) = false := beq_eq_false_iff_ne.2 e1
      have g2 : (x == 9) = false := beq_eq_false_iff_ne.2 e2
      have g3 : (x == 10) = false := beq_eq_false_iff_ne.2 e3
      have HE : Hid (R = false) := by show _ = _; rw [HR.out, hb, g3]; rfl
      rw [hb] at HB
      clear HR hb e1 e2 e3
      go_enter Tryd.func15, Tryd.ntmps15
      go_wp2_with fail
      go_ret
      exact ⟨ret_bool HE.out.symm, rfl⟩
end Go.Proofs.YtnofdlpifpjlbaaDoor
