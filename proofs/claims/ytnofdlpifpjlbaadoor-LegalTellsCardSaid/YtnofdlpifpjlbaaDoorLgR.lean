/- The reference's May: which way a text may be written. Conditions: a text is no longer than a million bytes. -/
import Derived.Test.YtnofdlpifpjlbaaDoorLgC
namespace Go.Proofs.YtnofdlpifpjlbaaDoor
open Go.RowKit
set_option maxRecDepth 100000 in
set_option maxHeartbeats 1000000 in
theorem RSingle_any (A : Option Addr) (c : Nat) (l : List Int) (w : World) (hl : l.length ≤ 1000000) (hI : IntsAt w w.heap.size A l) :
    Calls Tryd.prog 29 #[.slice A l.length c] w fun e w' => e = .returned (.bool (singleB l)) ∧ w = w' := by
  have Hl := Lib.hid hl
  clear hl
  go_enter Tryd.func29, Tryd.ntmps29
  go_wp2_with fail
  go_loop [3] (fun i => ∃ k : Nat, k ≤ l.length ∧ i = .int .i64 k ∧ Hid ((l.take k).all okSign = true)) (fun i => l.length - (intOf i).toNat)
  case atStart => exact ⟨0, Nat.zero_le _, rfl, rfl⟩
  case round =>
    obtain ⟨k, hk, rfl, hm⟩ := hrel
    by_cases hlt : k < l.length
    · obtain ⟨b, off, rfl, hbw, hc⟩ := hI (by omega)
      have hck := hc k hlt
      have hlt' : (k : Int) < (l.length : Int) := by omega
      have HT : Hid ((l.take (k + 1)).all okSign = (true && okSign (nth l k))) := by show _ = _; rw [all_take hlt, hm.out]
      have HF : Hid (okSign (nth l k) = false → singleB l = false) := all_miss hlt
      obtain ⟨x, hx⟩ : ∃ x, nth l k = x := ⟨_, rfl⟩
      rw [hx] at hck HT HF
      have HP := Lib.hid (RPrint_any x w)
      clear hc hx
      obtain ⟨p, hp⟩ : ∃ p, printB x = p := ⟨_, rfl⟩
      rw [hp] at HP
      have HS : Hid (okSign x = (p && x != 10 && x != 13 && x != 65279)) := by show _ = _; rw [← hp]; rfl
      clear hp
      have Hlt := Lib.hid hlt
      have hmz : ∀ z : Int, z = k + 1 → l.length - (intOf (.int .i64 z)).toNat < l.length - (intOf (.int .i64 (k : Int))).toNat := by intro z hz; subst hz; have := Hlt.out; simp only [intOf]; omega
      have hW : wrap64 ((k : Int) + 1) = k + 1 := IntWalk.wrap64_in _ (by have := Hl.out; omega)
      have hcs : p = false ∨ (p = true ∧ x = 10) ∨ (p = true ∧ x = 13) ∨ (p = true ∧ x = 65279) ∨ (p = true ∧ x ≠ 10 ∧ x ≠ 13 ∧ x ≠ 65279) := by cases p <;> simp; omega
      rcases hcs with rfl | ⟨rfl, rfl⟩ | ⟨rfl, rfl⟩ | ⟨rfl, rfl⟩ | ⟨rfl, h1, h2, h3⟩
      iterate 4
        · go_wp2_with (go_at_call 30; refine HP.out.mono ?_; rintro e w' ⟨rfl, rfl⟩)
          go_ret
          exact ⟨ret_bool (HF.out (HS.out.trans (by simp))).symm, rfl⟩
      · have g1 : (x == 10) = false := beq_eq_false_iff_ne.2 h1
        have g2 : (x == 13) = false := beq_eq_false_iff_ne.2 h2
        have g3 : (x == 65279) = false := beq_eq_false_iff_ne.2 h3
        have HN : Hid ((l.take (k + 1)).all okSign = true) := by show _ = _; rw [HT.out, HS.out]; simp [h1, h2, h3]
        clear h1 h2 h3 hk hlt
        go_wp2_with (go_at_call 30; refine HP.out.mono ?_; rintro e w' ⟨rfl, rfl⟩)
        first
          | exact ⟨⟨k + 1, Hlt.out, by simp, HN⟩, hmz _ rfl⟩
          | exact ⟨⟨k + 1, Hlt.out, congrArg (Value.int .i64) (hW.trans (by simp)), HN⟩, hmz _ hW⟩
    · obtain rfl : k = l.length := by omega
      have HR : Hid (singleB l = true) := by
        have := hm.out
        rwa [List.take_of_length_le (Nat.le_refl _)] at this
      go_wp2_with fail
      go_ret
      exact ⟨ret_bool HR.out.symm, rfl⟩
theorem fold_miss {l : List Int} {k : Nat} (h : k < l.length) (hp : bad2 l k = true) : foldableB l = false := by
  rw [Bool.eq_false_iff]
  intro e
  have := List.all_eq_true.1 e k (by simpa using h)
  rw [hp] at this; cases this
set_option maxRecDepth 100000 in
set_option maxHeartbeats 2000000 in
theorem Rfoldable_any (A : Option Addr) (c : Nat) (l : List Int) (w : World) (hl : l.length ≤ 1000000) (hI : IntsAt w w.heap.size A l) :
    Calls Tryd.prog 31 #[.slice A l.length c] w fun e w' => e = .returned (.bool (foldableB l)) ∧ w = w' := by
  have Hl := Lib.hid hl
  clear hl
  go_enter Tryd.func31, Tryd.ntmps31
  go_wp2_with fail
  go_loop [3] (fun i => ∃ k : Nat, k ≤ l.length ∧ i = .int .i64 k ∧ Hid (∀ j, j < k → bad2 l j = false)) (fun i => l.length - (intOf i).toNat)
  case atStart => exact ⟨0, Nat.zero_le _, rfl, fun j hj => absurd hj (Nat.not_lt_zero _)⟩
  case round =>
    obtain ⟨k, hk, rfl, hm⟩ := hrel
    by_cases hlt : k < l.length
    · obtain ⟨b, off, rfl, hbw, hc⟩ := hI (by omega)
      have hck := hc k hlt
      have hcm : 0 < k → w.cell? ⟨b, off + (k - 1), none⟩ = some (.int .i64 (nth l (k - 1))) := fun h => hc (k - 1) (by omega)
      have hcp : k + 1 < l.length → w.cell? ⟨b, off + (k + 1), none⟩ = some (.int .i64 (nth l (k + 1))) := fun h => hc (k + 1) h
      have hlt' : (k : Int) < (l.length : Int) := by omega
      have HF : Hid (bad2 l k = true → foldableB l = false) := fold_miss hlt
      have HNx : Hid (bad2 l k = false → ∀ j, j < k + 1 → bad2 l j = false) := fun h j hj => by
        by_cases e : j = k
        · rw [e]; exact h
        · exact hm.out j (by omega)
      obtain ⟨x, hx⟩ : ∃ x, nth l k = x := ⟨_, rfl⟩
      obtain ⟨y, hy⟩ : ∃ y, nth l (k - 1) = y := ⟨_, rfl⟩
      obtain ⟨z, hz⟩ : ∃ z, nth l (k + 1) = z := ⟨_, rfl⟩
      have HE : Hid (bad2 l k = (blankB x && (k == 0 || y == 10 || k + 1 == l.length || z == 10 || blankB z))) := by show _ = _; rw [← hx, ← hy, ← hz]; rfl
      rw [hx] at hck
      rw [hy] at hcm
      rw [hz] at hcp
      have HX := Lib.hid (RBlank_any x w)
      have HZ := Lib.hid (RBlank_any z w)
      obtain ⟨bx, hbx⟩ : ∃ b, blankB x = b := ⟨_, rfl⟩
      obtain ⟨bz, hbz⟩ : ∃ b, blankB z = b := ⟨_, rfl⟩
      rw [hbx] at HX HE
      rw [hbz] at HZ HE
      clear hc hx hy hz hbx hbz hm
      have Hlt := Lib.hid hlt
      have hmz : ∀ z : Int, z = k + 1 → l.length - (intOf (.int .i64 z)).toNat < l.length - (intOf (.int .i64 (k : Int))).toNat := by intro z hz; subst hz; have := Hlt.out; simp only [intOf]; omega
      have hW : wrap64 ((k : Int) + 1) = k + 1 := IntWalk.wrap64_in _ (by have := Hl.out; omega)
      cases bx with
      | false =>
        have HN := Lib.hid (HNx.out (HE.out.trans (by simp)))
        clear hk hlt hcm hcp
        go_wp2_with (go_at_call 46; with_reducible refine HX.out.mono ?_; rintro e w' ⟨rfl, rfl⟩)
        first
          | exact ⟨⟨k + 1, Hlt.out, by simp, HN⟩, hmz _ rfl⟩
          | exact ⟨⟨k + 1, Hlt.out, congrArg (Value.int .i64) (hW.trans (by simp)), HN⟩, hmz _ hW⟩
      | true =>
        by_cases hz : k = 0
        · have hz1 : ((k : Int) == 0) = true := beq_iff_eq.2 (by omega)
          have HR := Lib.hid (HF.out (HE.out.trans (by simp [hz])))
          clear hz hcm hcp
          go_wp2_with (go_at_call 46; with_reducible refine HX.out.mono ?_; rintro e w' ⟨rfl, rfl⟩)
          go_ret
          exact ⟨ret_bool HR.out.symm, rfl⟩
        · have hz1 : ((k : Int) == 0) = false := beq_eq_false_iff_ne.2 (by omega)
          have hcm' := hcm (by omega)
          have hm1 : (0 : Int) ≤ (k : Int) - 1 := by omega
          have hm2 : (k : Int) - 1 < (l.length : Int) := by omega
          have hm3 : ((k : Int) - 1).toNat = k - 1 := by omega
          have hmw : wrap64 ((k : Int) - 1) = k - 1 := IntWalk.wrap64_in _ (by have := Hl.out; omega)
          by_cases hy10 : y = 10
          · have hye : (y == 10) = true := beq_iff_eq.2 hy10
            have HR := Lib.hid (HF.out (HE.out.trans (by simp [hy10])))
            clear hy10 hz hcm hcp
            go_wp2_with (go_at_call 46; with_reducible refine HX.out.mono ?_; rintro e w' ⟨rfl, rfl⟩)
            go_ret
            exact ⟨ret_bool HR.out.symm, rfl⟩
          · have hye : (y == 10) = false := beq_eq_false_iff_ne.2 hy10
            by_cases hend : k + 1 = l.length
            · have he1 : ((k : Int) + 1 == (l.length : Int)) = true := beq_iff_eq.2 (by omega)
              have HR := Lib.hid (HF.out (HE.out.trans (by simp [hend])))
              clear hend hy10 hz hcm hcp
              go_wp2_with (go_at_call 46; with_reducible refine HX.out.mono ?_; rintro e w' ⟨rfl, rfl⟩)
              go_ret
              exact ⟨ret_bool HR.out.symm, rfl⟩
            · have he1 : ((k : Int) + 1 == (l.length : Int)) = false := beq_eq_false_iff_ne.2 (by omega)
              have hlt2 : k + 1 < l.length := by omega
              have hcp' := hcp hlt2
              have hlt2' : (k : Int) + 1 < (l.length : Int) := by omega
              have htn : ((k : Int) + 1).toNat = k + 1 := by omega
              have hp0 : (0 : Int) ≤ (k : Int) + 1 := by omega
              by_cases hz10 : z = 10
              · have hze : (z == 10) = true := beq_iff_eq.2 hz10
                have HR := Lib.hid (HF.out (HE.out.trans (by simp [hz10])))
                clear hz10 hend hy10 hz hcm hcp
                go_wp2_with (go_at_call 46; with_reducible refine HX.out.mono ?_; rintro e w' ⟨rfl, rfl⟩)
                go_ret
                exact ⟨ret_bool HR.out.symm, rfl⟩
              · have hze : (z == 10) = false := beq_eq_false_iff_ne.2 hz10
                cases bz with
                | true =>
                  have HR := Lib.hid (HF.out (HE.out.trans (by simp)))
                  clear hz10 hend hy10 hz hcm hcp
                  go_wp2_with (first | (go_at_call 46; with_reducible refine HX.out.mono ?_; rintro e w' ⟨rfl, rfl⟩) | (go_at_call 46; with_reducible refine HZ.out.mono ?_; rintro e w' ⟨rfl, rfl⟩))
                  go_ret
                  exact ⟨ret_bool HR.out.symm, rfl⟩
                | false =>
                  have HN := Lib.hid (HNx.out (HE.out.trans (by
                    have a1 : (k == 0) = false := beq_eq_false_iff_ne.2 hz
                    have a2 : (k + 1 == l.length) = false := beq_eq_false_iff_ne.2 (by omega)
                    rw [a1, a2, hye, hze]; rfl)))
                  clear hz10 hend hy10 hz hcm hcp hk hlt
                  go_wp2_with (first | (go_at_call 46; with_reducible refine HX.out.mono ?_; rintro e w' ⟨rfl, rfl⟩) | (go_at_call 46; with_reducible refine HZ.out.mono ?_; rintro e w' ⟨rfl, rfl⟩))
                  first
                    | exact ⟨⟨k + 1, Hlt.out, by simp, HN⟩, hmz _ rfl⟩
                    | exact ⟨⟨k + 1, Hlt.out, congrArg (Value.int .i64) (hW.trans (by simp)), HN⟩, hmz _ hW⟩
    · obtain rfl : k = l.length := by omega
      have HR : Hid (foldableB l = true) := by
        show _ = _
        unfold foldableB
        rw [List.all_eq_true]
        intro i hi
        rw [hm.out i (by simpa using hi)]; rfl
      go_wp2_with fail
      go_ret
      exact ⟨ret_bool HR.out.symm, rfl⟩
theorem starts_eq (s : ByteArray) (a b c : UInt8) : ((s.extract 0 3).toList == [a, b, c]) = startsB s [a, b, c] := by
  rw [Lib.toList_data, ByteArray.data_extract, Array.toList_extract, startsB, Bool.eq_iff_iff, beq_iff_eq, List.isPrefixOf_iff_prefix, List.prefix_iff_eq_take]
  simp [List.extract]
  exact eq_comm
theorem starts_short {s : ByteArray} (h : ¬ 3 ≤ s.size) (a b c : UInt8) : startsB s [a, b, c] = false := by
  rw [startsB, Bool.eq_false_iff]
  intro e
  have := (List.isPrefixOf_iff_prefix.1 e).length_le
  rw [Array.length_toList] at this
  exact h this
set_option maxRecDepth 100000 in
theorem rbegins_any (s : ByteArray) (a b c : UInt8) (w : World) (hs : s.size ≤ 1000000) :
    Calls Tryd.prog 28 #[.string s, .string ⟨#[a, b, c]⟩] w fun e w' => e = .returned (.bool (startsB s [a, b, c])) ∧ w = w' := by
  by_cases h3 : 3 ≤ s.size
  · have hd : decide ((3 : Int) ≤ (s.size : Int)) = true := decide_eq_true (by omega)
    have hd2 : (3 : Int) ≤ (s.size : Int) := by omega
    have HE := Lib.hid (starts_eq s a b c)
    go_enter Tryd.func28, Tryd.ntmps28
    go_wp2_with fail
    go_ret
    exact ⟨ret_bool HE.out, rfl⟩
  · have hd : decide ((3 : Int) ≤ (s.size : Int)) = false := decide_eq_false (by omega)
    have hd2 : ¬ (3 : Int) ≤ (s.size : Int) := by omega
    have HE := Lib.hid (starts_short h3 a b c)
    go_enter Tryd.func28, Tryd.ntmps28
    go_wp2_with fail
    go_ret
    exact ⟨ret_bool HE.out.symm, rfl⟩
end Go.Proofs.YtnofdlpifpjlbaaDoor
