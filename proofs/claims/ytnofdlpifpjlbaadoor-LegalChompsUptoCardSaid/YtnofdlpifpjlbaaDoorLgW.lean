/- What the functions of single and legal return that read numbers, or bytes, one by one. Conditions: a list is no longer than an int; a text no longer than a million bytes. -/
import Derived.Test.YtnofdlpifpjlbaaDoorLgP
import Derived.Test.YtnofdlpifpjlbaaDoorLgSh
import Derived.Test.YtnofdlpifpjlbaaDoorChars
import Derived.Lib.OthersKept
namespace Go.Proofs.YtnofdlpifpjlbaaDoor
open Go.RowKit
theorem all_take {p : Int → Bool} {l : List Int} {k : Nat} (h : k < l.length) : (l.take (k + 1)).all p = ((l.take k).all p && p (nth l k)) := by
  rw [take_nth h]; simp
theorem all_miss {p : Int → Bool} {l : List Int} {k : Nat} (h : k < l.length) (hp : p (nth l k) = false) : l.all p = false := by
  rw [Bool.eq_false_iff]
  intro e
  have := List.all_eq_true.1 e _ (nth_mem h)
  rw [hp] at this; cases this
set_option maxRecDepth 100000 in
set_option maxHeartbeats 1000000 in
theorem Single_any (A : Option Addr) (c : Nat) (l : List Int) (w : World) (hl : l.length ≤ 9223372036854775807) (hI : IntsAt w w.heap.size A l) :
    Calls Tryd.prog 20 #[.slice A l.length c] w fun e w' => e = .returned (.bool (singleB l)) ∧ w = w' := by
  go_enter Tryd.func20, Tryd.ntmps20
  go_wp2_with fail
  go_loop [7] (fun i => ∃ k : Nat, k ≤ l.length ∧ i = .int .i64 k ∧ Hid ((l.take k).all okSign = true)) (fun i => l.length - (intOf i).toNat)
  case atStart => exact ⟨0, Nat.zero_le _, rfl, rfl⟩
  case round =>
    obtain ⟨k, hk, rfl, hm⟩ := hrel
    by_cases hlt : k < l.length
    · obtain ⟨b, off, rfl, hbw, hc⟩ := hI (by omega)
      have hck := hc k hlt
      have hlt' : (k : Int) < (l.length : Int) := by omega
      have HT : Hid ((l.take (k + 1)).all okSign = (true && okSign (nth l k))) := by show _ = _; rw [all_take hlt, hm.out]
      have HF : Hid (okSign (nth l k) = false → singleB l = false) := all_miss hlt
      obtain ⟨x, hx⟩ : ∃ x, nth l k = x := ⟨_, rfl⟩
      rw [hx] at hck HT HF
      have HP := Lib.hid (Print_any x w)
      clear hc hx
      obtain ⟨p, hp⟩ : ∃ p, printB x = p := ⟨_, rfl⟩
      rw [hp] at HP
      have HS : Hid (okSign x = (p && x != 10 && x != 13 && x != 65279)) := by show _ = _; rw [← hp]; rfl
      clear hp
      have hcs : p = false ∨ (p = true ∧ x = 10) ∨ (p = true ∧ x = 13) ∨ (p = true ∧ x = 65279) ∨ (p = true ∧ x ≠ 10 ∧ x ≠ 13 ∧ x ≠ 65279) := by cases p <;> simp; omega
      rcases hcs with rfl | ⟨rfl, rfl⟩ | ⟨rfl, rfl⟩ | ⟨rfl, rfl⟩ | ⟨rfl, h1, h2, h3⟩
      iterate 4
        · go_wp2_with (go_at_call 38; refine HP.out.mono ?_; rintro e w' ⟨rfl, rfl⟩)
          go_ret
          exact ⟨ret_bool (HF.out (HS.out.trans (by simp))).symm, rfl⟩
      · have g1 : (x == 10) = false := beq_eq_false_iff_ne.2 h1
        have g2 : (x == 13) = false := beq_eq_false_iff_ne.2 h2
        have g3 : (x == 65279) = false := beq_eq_false_iff_ne.2 h3
        have HN : Hid ((l.take (k + 1)).all okSign = true) := by show _ = _; rw [HT.out, HS.out]; simp [h1, h2, h3]
        clear h1 h2 h3
        go_wp2_with (go_at_call 38; refine HP.out.mono ?_; rintro e w' ⟨rfl, rfl⟩)
        go_round
        case rel => exact ⟨k + 1, by omega, by go_num, HN⟩
        case measure => simp [intOf]; omega
    · obtain rfl : k = l.length := by omega
      have HR : Hid (singleB l = true) := by
        have := hm.out
        rwa [List.take_of_length_le (Nat.le_refl _)] at this
      go_wp2_with fail
      go_ret
      exact ⟨ret_bool HR.out.symm, rfl⟩
set_option maxRecDepth 100000 in
set_option maxHeartbeats 1000000 in
theorem Literal_any (A : Option Addr) (c : Nat) (l : List Int) (flow : Bool) (w : World) (hl : l.length ≤ 9223372036854775807) (hI : IntsAt w w.heap.size A l) :
    Calls Tryd.prog 21 #[.slice A l.length c, .bool flow] w fun e w' => e = .returned (.bool (literalB l flow)) ∧ w = w' := by
  go_enter Tryd.func21, Tryd.ntmps21
  go_wp2_with fail
  go_loop [9] (fun i => ∃ k : Nat, k ≤ l.length ∧ i = .int .i64 k ∧ Hid ((l.take k).all okLit = true)) (fun i => l.length - (intOf i).toNat)
  case atStart => exact ⟨0, Nat.zero_le _, rfl, rfl⟩
  case round =>
    obtain ⟨k, hk, rfl, hm⟩ := hrel
    by_cases hlt : k < l.length
    · obtain ⟨b, off, rfl, hbw, hc⟩ := hI (by omega)
      have hck := hc k hlt
      have hlt' : (k : Int) < (l.length : Int) := by omega
      have HT : Hid ((l.take (k + 1)).all okLit = (true && okLit (nth l k))) := by show _ = _; rw [all_take hlt, hm.out]
      have HF : Hid (okLit (nth l k) = false → literalB l flow = false) := fun h => by unfold literalB; rw [all_miss hlt h]; rfl
      obtain ⟨x, hx⟩ : ∃ x, nth l k = x := ⟨_, rfl⟩
      rw [hx] at hck HT HF
      have HP := Lib.hid (Print_any x w)
      clear hc hx
      obtain ⟨p, hp⟩ : ∃ p, printB x = p := ⟨_, rfl⟩
      rw [hp] at HP
      have HS : Hid (okLit x = (p && x != 13 && x != 65279)) := by show _ = _; rw [← hp]; rfl
      clear hp
      have hcs : p = false ∨ (p = true ∧ x = 13) ∨ (p = true ∧ x = 65279) ∨ (p = true ∧ x ≠ 13 ∧ x ≠ 65279) := by cases p <;> simp; omega
      rcases hcs with rfl | ⟨rfl, rfl⟩ | ⟨rfl, rfl⟩ | ⟨rfl, h2, h3⟩
      iterate 3
        · go_wp2_with (go_at_call 38; refine HP.out.mono ?_; rintro e w' ⟨rfl, rfl⟩)
          go_ret
          exact ⟨ret_bool (HF.out (HS.out.trans (by simp))).symm, rfl⟩
      · have g2 : (x == 13) = false := beq_eq_false_iff_ne.2 h2
        have g3 : (x == 65279) = false := beq_eq_false_iff_ne.2 h3
        have HN : Hid ((l.take (k + 1)).all okLit = true) := by show _ = _; rw [HT.out, HS.out]; simp [h2, h3]
        clear h2 h3
        go_wp2_with (go_at_call 38; refine HP.out.mono ?_; rintro e w' ⟨rfl, rfl⟩)
        go_round
        case rel => exact ⟨k + 1, by omega, by go_num, HN⟩
        case measure => simp [intOf]; omega
    · obtain rfl : k = l.length := by omega
      have HR : Hid (literalB l flow = (!flow && decide (0 < l.length))) := by
        show _ = _
        have := hm.out
        rw [List.take_of_length_le (Nat.le_refl _)] at this
        unfold literalB
        rw [this]; simp
      cases flow with
      | true =>
        go_wp2_with fail
        go_ret
        exact ⟨ret_bool (HR.out.trans (by simp)).symm, rfl⟩
      | false =>
        go_wp2_with fail
        go_ret
        exact ⟨ret_bool (HR.out.trans (by simp)).symm, rfl⟩
set_option maxRecDepth 100000 in
theorem blank_any (b : UInt8) (w : World) : Calls Tryd.prog 32 #[.int .u8 (b.toNat : Int)] w fun e w' => e = .returned (.bool (blankB (b.toNat : Int))) ∧ w = w' := by
  have hw : wrap64 (b.toNat : Int) = (b.toNat : Int) := wrap64_u8 b
  have hB := Blank_any (b.toNat : Int) w
  obtain ⟨x, hx⟩ : ∃ x, (b.toNat : Int) = x := ⟨_, rfl⟩
  rw [hx] at hB hw ⊢
  go_enter Tryd.func32, Tryd.ntmps32
  go_wp2_with (go_at_call 47; refine hB.mono ?_; rintro e w' ⟨rfl, rfl⟩)
  go_ret
  exact ⟨rfl, rfl⟩
end Go.Proofs.YtnofdlpifpjlbaaDoor
