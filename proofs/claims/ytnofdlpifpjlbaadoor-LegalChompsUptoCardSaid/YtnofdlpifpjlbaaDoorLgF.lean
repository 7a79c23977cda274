/- What legal's folds returns: may a line be folded? Condition: a text is no longer than a million bytes. -/
import Derived.Test.YtnofdlpifpjlbaaDoorLgW
namespace Go.Proofs.YtnofdlpifpjlbaaDoor
open Go.RowKit
theorem bytes_nth {s : ByteArray} {k : Nat} (h : k < s.size) : nth (bytesI s) k = (s[k].toNat : Int) := by
  have h2 : k < s.data.toList.length := by rw [Array.length_toList]; exact h
  unfold nth bytesI
  rw [List.getD_eq_getElem?_getD, List.getElem?_map, List.getElem?_eq_getElem h2]
  simp [ByteArray.getElem_eq_getElem_data]
theorem folds_miss {t : List Int} {k : Nat} (h : k < t.length) (hp : bad1 t k = true) : foldsB t = false := by
  rw [Bool.eq_false_iff]
  intro e
  have := List.all_eq_true.1 e k (by simpa using h)
  rw [hp] at this; cases this
set_option maxRecDepth 100000 in
set_option maxHeartbeats 1000000 in
theorem folds_any (s : ByteArray) (w : World) (hl : s.size ≤ 1000000) :
    Calls Tryd.prog 40 #[.string s] w fun e w' => e = .returned (.bool (foldsB (bytesI s))) ∧ w = w' := by
  have Hl := Lib.hid hl
  go_enter Tryd.func40, Tryd.ntmps40
  go_wp2_with fail
  clear hl
  go_loop [6] (fun i => ∃ k : Nat, k ≤ s.size ∧ i = .int .i64 k ∧ Hid (∀ j, j < k → bad1 (bytesI s) j = false)) (fun i => s.size - (intOf i).toNat)
  case atStart => exact ⟨0, Nat.zero_le _, rfl, fun j hj => absurd hj (Nat.not_lt_zero _)⟩
  case round =>
    obtain ⟨k, hk, rfl, hm⟩ := hrel
    by_cases hlt : k < s.size
    · have hlt' : (k : Int) < (s.size : Int) := by omega
      have HB := Lib.hid (blank_any s[k] w)
      have HF : Hid (bad1 (bytesI s) k = true → foldsB (bytesI s) = false) := fun h => folds_miss (by rw [bytesI_len]; exact hlt) h
      have HNx : Hid (bad1 (bytesI s) k = false → ∀ j, j < k + 1 → bad1 (bytesI s) j = false) := fun h j hj => by
        by_cases e : j = k
        · rw [e]; exact h
        · exact hm.out j (by omega)
      have HE : Hid (bad1 (bytesI s) k = (blankB (s[k].toNat : Int) && (k == 0 || k + 1 == s.size || blankB (nth (bytesI s) (k + 1))))) := by
        show _ = _
        unfold bad1
        rw [bytes_nth hlt, bytesI_len]
      obtain ⟨b0, h0⟩ : ∃ b, blankB (s[k].toNat : Int) = b := ⟨_, rfl⟩
      rw [h0] at HB HE
      clear h0 hm
      have Hlt := Lib.hid hlt
      have hmz : ∀ z : Int, z = k + 1 → s.size - (intOf (.int .i64 z)).toNat < s.size - (intOf (.int .i64 (k : Int))).toNat := by intro z hz; subst hz; have := Hlt.out; simp only [intOf]; omega
      have hW : wrap64 ((k : Int) + 1) = k + 1 := IntWalk.wrap64_in _ (by have := Hl.out; omega)
      cases b0 with
      | false =>
        have HN := Lib.hid (HNx.out (HE.out.trans (by simp)))
        go_wp2_with (go_at_call 32; refine HB.out.mono ?_; rintro e w' ⟨rfl, rfl⟩)
        first
          | exact ⟨⟨k + 1, Hlt.out, by simp, HN⟩, hmz _ rfl⟩
          | exact ⟨⟨k + 1, Hlt.out, congrArg (Value.int .i64) (hW.trans (by simp)), HN⟩, hmz _ hW⟩
      | true =>
        by_cases hz : k = 0
        · have hz1 : ((k : Int) == 0) = true := beq_iff_eq.2 (by omega)
          have HR := Lib.hid (HF.out (HE.out.trans (by simp [hz])))
          clear hz
          go_wp2_with (go_at_call 32; refine HB.out.mono ?_; rintro e w' ⟨rfl, rfl⟩)
          go_ret
          exact ⟨ret_bool HR.out.symm, rfl⟩
        · have hz1 : ((k : Int) == 0) = false := beq_eq_false_iff_ne.2 (by omega)
          by_cases hend : k + 1 = s.size
          · have he1 : ((k : Int) + 1 == (s.size : Int)) = true := beq_iff_eq.2 (by omega)
            have HR := Lib.hid (HF.out (HE.out.trans (by simp [hend])))
            clear hend
            go_wp2_with (go_at_call 32; refine HB.out.mono ?_; rintro e w' ⟨rfl, rfl⟩)
            go_ret
            exact ⟨ret_bool HR.out.symm, rfl⟩
          · have he1 : ((k : Int) + 1 == (s.size : Int)) = false := beq_eq_false_iff_ne.2 (by omega)
            have hlt2 : k + 1 < s.size := by omega
            have hlt2' : (k : Int) + 1 < (s.size : Int) := by omega
            have htn : ((k : Int) + 1).toNat = k + 1 := by omega
            have HB1 := Lib.hid (blank_any s[k + 1] w)
            have HE1 := Lib.hid (HE.out.trans (by rw [bytes_nth hlt2]))
            obtain ⟨b1, h1⟩ : ∃ b, blankB (s[k + 1].toNat : Int) = b := ⟨_, rfl⟩
            rw [h1] at HB1 HE1
            clear h1 hend
            cases b1 with
            | true =>
              have HR := Lib.hid (HF.out (HE1.out.trans (by simp)))
              go_wp2_with (first | (go_at_call 32; refine HB.out.mono ?_; rintro e w' ⟨rfl, rfl⟩) | (go_at_call 32; refine HB1.out.mono ?_; rintro e w' ⟨rfl, rfl⟩))
              go_ret
              exact ⟨ret_bool HR.out.symm, rfl⟩
            | false =>
              have HN := Lib.hid (HNx.out (HE1.out.trans (by have a1 : (k == 0) = false := beq_eq_false_iff_ne.2 hz; have a2 : (k + 1 == s.size) = false := beq_eq_false_iff_ne.2 (by omega); rw [a1, a2]; rfl)))
              clear hz
              go_wp2_with (first | (go_at_call 32; refine HB.out.mono ?_; rintro e w' ⟨rfl, rfl⟩) | (go_at_call 32; refine HB1.out.mono ?_; rintro e w' ⟨rfl, rfl⟩))
              first
                | exact ⟨⟨k + 1, Hlt.out, by simp, HN⟩, hmz _ rfl⟩
                | exact ⟨⟨k + 1, Hlt.out, congrArg (Value.int .i64) (hW.trans (by simp)), HN⟩, hmz _ hW⟩
    · obtain rfl : k = s.size := by omega
      have HR : Hid (foldsB (bytesI s) = true) := by
        show _ = _
        unfold foldsB
        rw [List.all_eq_true]
        intro i hi
        rw [hm.out i (by rw [← bytesI_len]; simpa using hi)]; rfl
      go_wp2_with fail
      go_ret
      exact ⟨ret_bool HR.out.symm, rfl⟩
end Go.Proofs.YtnofdlpifpjlbaaDoor
