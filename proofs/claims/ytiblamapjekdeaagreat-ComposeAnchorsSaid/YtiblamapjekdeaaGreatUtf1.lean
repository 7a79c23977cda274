/- The decoding of UTF-8 as the reference does it, beside the model's own. No condition. -/
import Derived.Test.YtiblamapjekdeaaGreatAux
import Derived.Lib.DecodeN
import Derived.Lib.ValidU
import Derived.Test.YtiblamapjekdeaaGreatOpen
namespace Go.Proofs.YtiblamapjekdeaaGreat
open Go.Lib
/-- The code point that begins at a place, and its bytes (0: none does). -/
def ptAt (s : ByteArray) (i : Nat) : Nat × Nat := if Utf8.decode s i = (65533, 1) then (0, 0) else Utf8.decode s i
def goodC (c : Nat) : Prop := c < 55296 ∨ (57344 ≤ c ∧ c ≤ 1114111)
instance (c : Nat) : Decidable (goodC c) := inferInstanceAs (Decidable (_ ∨ _))
theorem dec1 {L b0 b1 b2 b3 : Nat} (h : b0 < 128) : decodeN L b0 b1 b2 b3 = (b0, 1) := by unfold decodeN; rw [if_pos h]
theorem dec0 {L b0 b1 b2 b3 : Nat} (h : (128 ≤ b0 ∧ b0 < 194) ∨ 245 ≤ b0) (h0 : b0 < 256) : decodeN L b0 b1 b2 b3 = (65533, 1) := by
  unfold decodeN
  rw [if_neg (by omega)]
  by_cases a : b0 / 32 = 6 ∧ 1 < L ∧ b1 / 64 = 2
  · rw [if_pos a, if_neg (by omega)]
  · rw [if_neg a]
    rw [if_neg (by omega)]
    by_cases c : b0 / 8 = 30 ∧ (1 < L ∧ b1 / 64 = 2) ∧ (2 < L ∧ b2 / 64 = 2) ∧ (3 < L ∧ b3 / 64 = 2)
    · rw [if_pos c, if_neg (by omega)]
    · rw [if_neg c]
theorem dec2 {L b0 b1 b2 b3 : Nat} (h : 194 ≤ b0 ∧ b0 < 224) : decodeN L b0 b1 b2 b3 = if 1 < L ∧ b1 / 64 = 2 then (if b0 % 32 * 64 + b1 % 64 ≥ 128 ∧ goodC (b0 % 32 * 64 + b1 % 64) then (b0 % 32 * 64 + b1 % 64, 2) else (65533, 1)) else (65533, 1) := by
  unfold decodeN goodC
  rw [if_neg (by omega)]
  by_cases a : 1 < L ∧ b1 / 64 = 2
  · rw [if_pos ⟨by omega, a⟩, if_pos a, if_pos (by omega), if_pos (by omega)]
  · rw [if_neg (fun k => a k.2), if_neg (by omega), if_neg (by omega), if_neg a]
theorem dec3 {L b0 b1 b2 b3 : Nat} (h : 224 ≤ b0 ∧ b0 < 240) : decodeN L b0 b1 b2 b3 = if (1 < L ∧ b1 / 64 = 2) ∧ (2 < L ∧ b2 / 64 = 2) then
    (if b0 % 16 * 4096 + b1 % 64 * 64 + b2 % 64 ≥ 2048 ∧ goodC (b0 % 16 * 4096 + b1 % 64 * 64 + b2 % 64) then (b0 % 16 * 4096 + b1 % 64 * 64 + b2 % 64, 3) else (65533, 1)) else (65533, 1) := by
  unfold decodeN goodC
  rw [if_neg (by omega), if_neg (by omega)]
  by_cases a : (1 < L ∧ b1 / 64 = 2) ∧ (2 < L ∧ b2 / 64 = 2)
  · rw [if_pos ⟨by omega, a⟩, if_pos a]
    generalize b0 % 16 * 4096 + b1 % 64 * 64 + b2 % 64 = x
    by_cases q : x ≥ 2048 ∧ (x < 55296 ∨ (57344 ≤ x ∧ x ≤ 1114111))
    · rw [if_pos q, if_pos q]
    · rw [if_neg q, if_neg q]
  · rw [if_neg (fun k => a k.2), if_neg (by omega), if_neg a]
theorem dec4 {L b0 b1 b2 b3 : Nat} (h : 240 ≤ b0 ∧ b0 < 245) : decodeN L b0 b1 b2 b3 = if (1 < L ∧ b1 / 64 = 2) ∧ (2 < L ∧ b2 / 64 = 2) ∧ (3 < L ∧ b3 / 64 = 2) then
    (if b0 % 8 * 262144 + b1 % 64 * 4096 + b2 % 64 * 64 + b3 % 64 ≥ 65536 ∧ goodC (b0 % 8 * 262144 + b1 % 64 * 4096 + b2 % 64 * 64 + b3 % 64) then (b0 % 8 * 262144 + b1 % 64 * 4096 + b2 % 64 * 64 + b3 % 64, 4) else (65533, 1)) else (65533, 1) := by
  unfold decodeN goodC
  rw [if_neg (by omega), if_neg (by omega), if_neg (by omega)]
  by_cases a : (1 < L ∧ b1 / 64 = 2) ∧ (2 < L ∧ b2 / 64 = 2) ∧ (3 < L ∧ b3 / 64 = 2)
  · rw [if_pos ⟨by omega, a⟩, if_pos a]
    generalize b0 % 8 * 262144 + b1 % 64 * 4096 + b2 % 64 * 64 + b3 % 64 = x
    by_cases q : x ≥ 65536 ∧ (x < 55296 ∨ (57344 ≤ x ∧ x ≤ 1114111))
    · rw [if_pos q, if_pos q]
    · rw [if_neg q, if_neg q]
  · rw [if_neg (fun k => a k.2), if_neg a]
end Go.Proofs.YtiblamapjekdeaaGreat
/- The walk of the reference's decoding of one code point of UTF-8. Condition: the bytes lie in a row. (Printed by gpoint.py.) -/
namespace Go.Proofs.YtiblamapjekdeaaGreat
open Go.RowKit Go.Lib
theorem and_lit {m : Nat} (y : Nat) (hy : y < 256) (hm : m = 7 ∨ m = 15 ∨ m = 31 ∨ m = 63) : bits BinOp.and IntKind.i64 (y : Int) (m : Int) = ((y % (m + 1) : Nat) : Int) := by
  have h7 : ∀ n : Fin 256, bits BinOp.and IntKind.i64 (n.val : Int) 7 = ((n.val % 8 : Nat) : Int) := by decide +kernel
  have h15 : ∀ n : Fin 256, bits BinOp.and IntKind.i64 (n.val : Int) 15 = ((n.val % 16 : Nat) : Int) := by decide +kernel
  have h31 : ∀ n : Fin 256, bits BinOp.and IntKind.i64 (n.val : Int) 31 = ((n.val % 32 : Nat) : Int) := by decide +kernel
  have h63 : ∀ n : Fin 256, bits BinOp.and IntKind.i64 (n.val : Int) 63 = ((n.val % 64 : Nat) : Int) := by decide +kernel
  rcases hm with rfl | rfl | rfl | rfl
  · exact h7 ⟨y, hy⟩
  · exact h15 ⟨y, hy⟩
  · exact h31 ⟨y, hy⟩
  · exact h63 ⟨y, hy⟩
theorem Rright_any (c : Int) (w : World) : Calls Tryz.prog 55 #[.int .i64 c] w fun e w' => e = .returned (.bool (decide (0 ≤ c ∧ c ≤ 1114111 ∧ (c < 55296 ∨ 57343 < c)))) ∧ w = w' := by
  go_enter Tryz.func55, Tryz.ntmps55
  go_wp2
  all_goals (go_ret; exact ⟨ret_bool (by first | rfl | (rw [Bool.eq_iff_iff]; simp; done) | (rw [Bool.eq_iff_iff]; simp; omega)), rfl⟩)
/-- The bytes of a text lie in a block. -/
def BytesAt (w : World) (blk : Nat) (s : ByteArray) : Prop := ∀ k, k < s.size → w.cell? ⟨blk, k, none⟩ = some (.int .u8 ((s.get! k).toNat : Int))
def by3 (b1 b2 b3 j : Nat) : Nat := if j = 1 then b1 else if j = 2 then b2 else b3
/-- A code point's number, so many bytes on. -/
def ccv (c0 : Nat) (by_ : Nat → Nat) : Nat → Nat
  | 0 => c0
  | k + 1 => ccv c0 by_ k * 64 + by_ (k + 1) % 64
theorem ccv_lt (c0 : Nat) (by_ : Nat → Nat) (h : c0 < 32) : ∀ k, k ≤ 3 → ccv c0 by_ k < 8388608 := by
  intro k hk
  have h1 : ccv c0 by_ 1 < 2048 := by simp only [ccv]; omega
  have h2 : ccv c0 by_ 2 < 131072 := by have : ccv c0 by_ 2 = ccv c0 by_ 1 * 64 + by_ 2 % 64 := rfl; omega
  have h3 : ccv c0 by_ 3 < 8388608 := by have : ccv c0 by_ 3 = ccv c0 by_ 2 * 64 + by_ 3 % 64 := rfl; omega
  match k, hk with
  | 0, _ => show c0 < _; omega
  | 1, _ => omega
  | 2, _ => omega
  | 3, _ => omega
set_option maxRecDepth 100000 in
set_option maxHeartbeats 8000000 in
theorem point_any (s : ByteArray) (i cap blk : Nat) (w : World) (hs : s.size ≤ 9223372036854775807) (hi : i < s.size) (hB : BytesAt w blk s) :
    Calls Tryz.prog 80 #[.slice (some ⟨blk, i, none⟩) (s.size - i) cap] w fun e w' => e = .returned (.tuple #[.int .i64 (ptAt s i).1, .int .i64 (ptAt s i).2]) ∧ w = w' := by
  have hdec := decode_at s i
  have h0 := hB i hi
  have hL : Hid (∀ k, k < s.size - i → w.cell? ⟨blk, i + k, none⟩ = some (.int .u8 ((s.get! (i + k)).toNat : Int))) := fun k hk => hB (i + k) (by omega)
  obtain ⟨L, hLe⟩ : ∃ L, s.size - i = L := ⟨_, rfl⟩
  have hL0 : 0 < L := by omega
  rw [hLe] at hdec hL ⊢
  have hLs : L ≤ 9223372036854775807 := by omega
  have q0 : (s.get! i).toNat < 256 := (s.get! i).toNat_lt
  have q1 : (s.get! (i + 1)).toNat < 256 := (s.get! (i + 1)).toNat_lt
  have q2 : (s.get! (i + 2)).toNat < 256 := (s.get! (i + 2)).toNat_lt
  have q3 : (s.get! (i + 3)).toNat < 256 := (s.get! (i + 3)).toNat_lt
  have c1 := hL.out 1
  have c2 := hL.out 2
  have c3 := hL.out 3
  generalize (s.get! i).toNat = b0 at *
  generalize (s.get! (i + 1)).toNat = b1 at *
  generalize (s.get! (i + 2)).toNat = b2 at *
  generalize (s.get! (i + 3)).toNat = b3 at *
  have HC : Hid (∀ j, 1 ≤ j → j ≤ 3 → j < L → w.cell? ⟨blk, i + j, none⟩ = some (.int .u8 (by3 b1 b2 b3 j : Nat))) := fun j h1 h2 h3 => by
    match j, h1, h2 with
    | 1, _, _ => exact c1 h3
    | 2, _, _ => exact c2 h3
    | 3, _, _ => exact c3 h3
  have HB : Hid (∀ j, by3 b1 b2 b3 j < 256) := fun j => by unfold by3; split <;> (try split) <;> omega
  clear c1 c2 c3 hL hB hi hs hLe
  have hpt : ptAt s i = if decodeN L b0 b1 b2 b3 = (65533, 1) then (0, 0) else decodeN L b0 b1 b2 b3 := by rw [ptAt, hdec]
  obtain ⟨r, hr⟩ : ∃ r, ptAt s i = r := ⟨_, rfl⟩
  rw [hr] at hpt ⊢
  clear hr hdec
  have hcs : b0 < 128 ∨ ((128 ≤ b0 ∧ b0 < 194) ∨ 245 ≤ b0) ∨ (194 ≤ b0 ∧ b0 < 224) ∨ (224 ≤ b0 ∧ b0 < 240) ∨ (240 ≤ b0 ∧ b0 < 245) := by omega
  rcases hcs with k0 | k0 | k0 | k0 | k0
  · rw [dec1 k0, if_neg (by simp; omega)] at hpt
    subst hpt
    have k0' : (b0 : Int) < 128 := by omega
    go_enter Tryz.func80, Tryz.ntmps80
    go_wp2
    go_ret2
    exact ⟨rfl, rfl⟩
  · rw [dec0 k0 q0, if_pos rfl] at hpt
    subst hpt
    have k1 : ¬ (b0 : Int) < 128 := by omega
    rcases k0 with k0 | k0
    · have k2 : ¬ (194 : Int) ≤ (b0 : Int) := by omega
      have k3 : ¬ (224 : Int) ≤ (b0 : Int) := by omega
      have k4 : ¬ (240 : Int) ≤ (b0 : Int) := by omega
      go_enter Tryz.func80, Tryz.ntmps80
      go_wp2
      go_ret2
      exact ⟨rfl, rfl⟩
    · have k2 : (194 : Int) ≤ (b0 : Int) := by omega
      have k2' : ¬ (b0 : Int) < 224 := by omega
      have k3 : (224 : Int) ≤ (b0 : Int) := by omega
      have k3' : ¬ (b0 : Int) < 240 := by omega
      have k4 : (240 : Int) ≤ (b0 : Int) := by omega
      have k4' : ¬ (b0 : Int) < 245 := by omega
      go_enter Tryz.func80, Tryz.ntmps80
      go_wp2
      go_ret2
      exact ⟨rfl, rfl⟩
  · have hA := and_lit (m := 31) b0 q0 (by omega)
    have hd := dec2 (L := L) (b0 := b0) (b1 := b1) (b2 := b2) (b3 := b3) k0
    have hc0 : b0 % 32 < 32 := by omega
    obtain ⟨C, hC⟩ : ∃ C, ccv (b0 % 32) (by3 b1 b2 b3) 1 = C := ⟨_, rfl⟩
    have HR : Hid ((∀ j, 1 ≤ j → j < 2 → by3 b1 b2 b3 j / 64 = 2) → 2 ≤ L → r = if 128 ≤ C ∧ goodC C then (C, 2) else (0, 0)) := fun hj hl => by
      have j1 : b1 / 64 = 2 := hj 1 (by omega) (by omega)
      have hcond : 1 < L ∧ b1 / 64 = 2 := by omega
      have hCe : b0 % 32 * 64 + b1 % 64 = C := by rw [← hC]; show _ = b0 % 32 * 64 + b1 % 64; omega
      rw [if_pos hcond, hCe] at hd
      by_cases g : C ≥ 128 ∧ goodC C
      · rw [if_pos g] at hd
        rw [hpt, hd, if_neg (by simp), if_pos ⟨g.1, g.2⟩]
      · rw [if_neg g] at hd
        rw [hpt, hd, if_pos rfl, if_neg (fun k => g ⟨k.1, k.2⟩)]
    have HF : Hid ((∃ j, 1 ≤ j ∧ j < 2 ∧ by3 b1 b2 b3 j / 64 ≠ 2) ∨ L < 2 → r = (0, 0)) := fun hb => by
      have hneg : ¬ (1 < L ∧ b1 / 64 = 2) := by
        intro hc
        rcases hb with ⟨j, h1, h2, h3⟩ | hb
        · have hj : j = 1 := by omega
          rcases hj with rfl
          · exact h3 (show b1 / 64 = 2 by omega)
        · omega
      rw [if_neg hneg] at hd
      rw [hpt, hd, if_pos rfl]
    have HCl := fun k hk => ccv_lt (b0 % 32) (by3 b1 b2 b3) hc0 k hk
    have HCl2 := Lib.hid HCl
    have HCe := Lib.hid hC
    have k1 : ¬ (b0 : Int) < 128 := by omega
    have k2 : (194 : Int) ≤ (b0 : Int) := by omega
    have k2' : (b0 : Int) < 224 := by omega
    clear hpt hd hc0 HCl hC q1 q2 q3
    by_cases hl : L < 2
    · have hl' : (L : Int) < 2 := by omega
      have HR0 : Hid (r = (0, 0)) := HF.out (.inr hl)
      go_enter Tryz.func80, Tryz.ntmps80
      go_wp2_with fail
      go_ret2
      exact ⟨by rw [HR0.out]; rfl, rfl⟩
    · have hl' : ¬ (L : Int) < 2 := by omega
      go_enter Tryz.func80, Tryz.ntmps80
      go_wp2_with fail
      rw [show bits BinOp.and IntKind.i64 (b0 : Int) 31 = ((b0 % 32 : Nat) : Int) from hA]
      clear hA k1 k2 q0
      go_loop [7, 8] (fun c i => ∃ k : Nat, k + 1 ≤ 2 ∧ i = .int .i64 ((k + 1 : Nat) : Int) ∧ c = .int .i64 (ccv (b0 % 32) (by3 b1 b2 b3) k : Nat) ∧ Hid (∀ j, 1 ≤ j → j < k + 1 → by3 b1 b2 b3 j / 64 = 2)) (fun _ i => 2 - (intOf i).toNat)
      case atStart => exact ⟨0, by omega, rfl, rfl, fun j h1 h2 => by omega⟩
      case round =>
        obtain ⟨k, hk, rfl, rfl, hok⟩ := hrel
        by_cases hkn : k + 1 < 2
        · have hkn' : ((k + 1 : Nat) : Int) < 2 := by omega
          have hcell := HC.out (k + 1) (by omega) (by omega) (by omega)
          have hyl := HB.out (k + 1)
          have hstep : ccv (b0 % 32) (by3 b1 b2 b3) (k + 1) = ccv (b0 % 32) (by3 b1 b2 b3) k * 64 + by3 b1 b2 b3 (k + 1) % 64 := rfl
          have hvl := HCl2.out k (by omega)
          have hvl2 := HCl2.out (k + 1) (by omega)
          have HS := Lib.hid hstep
          have Hy : Hid (∀ y, by3 b1 b2 b3 (k + 1) = y → True) := fun _ _ => trivial
          generalize hye : by3 b1 b2 b3 (k + 1) = y at *
          have HYe := Lib.hid hye
          clear hye Hy
          generalize ccv (b0 % 32) (by3 b1 b2 b3) k = v at *
          have hA : bits BinOp.and IntKind.i64 (y : Int) 63 = (y : Int) % 64 := (and_lit (m := 63) y hyl (by omega)).trans (by simp)
          have hw2 : wrap64 ((v : Int) * 64 + (y : Int) % 64) = v * 64 + (y : Int) % 64 := IntWalk.wrap64_in _ (by omega)
          have hw1 : wrap64 ((v : Int) * 64) = v * 64 := IntWalk.wrap64_in _ (by omega)
          have hkL : k + 1 < L := by omega
          by_cases hy : y / 64 = 2
          · have k7 : ¬ (y : Int) < 128 := by omega
            have k8 : ¬ (191 : Int) < (y : Int) := by omega
            have k7d := decide_eq_false k7
            have k8d := decide_eq_false k8
            have HOk : Hid (∀ j, 1 ≤ j → j < k + 1 + 1 → by3 b1 b2 b3 j / 64 = 2) := fun j h1 h2 => by
              by_cases e : j = k + 1
              · subst e; rw [HYe.out]; exact hy
              · exact hok.out j h1 (by omega)
            go_wp2_with fail
            exact ⟨⟨k + 1, by omega, by simp, by rw [HS.out]; first | rfl | (congr 1; omega), HOk⟩, by simp [intOf]; omega⟩
          · have HR0 : Hid (r = (0, 0)) := HF.out (.inl ⟨k + 1, by omega, by omega, by rw [HYe.out]; exact hy⟩)
            by_cases k7n : y < 128
            · have k7 : (y : Int) < 128 := by omega
              go_wp2_with fail
              go_ret2
              exact ⟨by rw [HR0.out]; rfl, rfl⟩
            · have k7 : ¬ (y : Int) < 128 := by omega
              have k7d := decide_eq_false k7
              have k8 : (191 : Int) < (y : Int) := by omega
              go_wp2_with fail
              go_ret2
              exact ⟨by rw [HR0.out]; rfl, rfl⟩
        · obtain rfl : k = 2 - 1 := by omega
          have hv : ccv (b0 % 32) (by3 b1 b2 b3) (2 - 1) = C := HCe.out
          rw [hv]
          have HRR := Lib.hid (HR.out (fun j h1 h2 => hok.out j h1 (by omega)) (by omega))
          have hCl : C < 8388608 := hv ▸ HCl2.out (2 - 1) (by omega)
          have HRt : Hid (Calls Tryz.prog 55 #[.int .i64 (C : Int)] w fun e w' => e = .returned (.bool (decide (0 ≤ (C : Int) ∧ (C : Int) ≤ 1114111 ∧ ((C : Int) < 55296 ∨ 57343 < (C : Int))))) ∧ w = w') := Rright_any C w
          clear HCl2 HCe hv hok HR HF HC HB
          by_cases g1 : C < 128
          · have HR0 : Hid (r = (0, 0)) := HRR.out.trans (if_neg (fun h => by omega))
            have g1' : (C : Int) < 128 := by omega
            go_wp2_with fail
            go_ret2
            exact ⟨by rw [HR0.out]; rfl, rfl⟩
          · have g1' : ¬ (C : Int) < 128 := by omega
            have g1d := decide_eq_false g1'
            by_cases g2 : goodC C
            · have HR0 : Hid (r = (C, 2)) := HRR.out.trans (if_pos ⟨by omega, g2⟩)
              have hdc : decide (0 ≤ (C : Int) ∧ (C : Int) ≤ 1114111 ∧ ((C : Int) < 55296 ∨ 57343 < (C : Int))) = true := decide_eq_true (by unfold goodC at g2; omega)
              rw [hdc] at HRt
              clear hdc g2
              go_wp2_with (go_at_call 55; refine HRt.out.mono ?_; rintro e w' ⟨rfl, rfl⟩)
              go_ret2
              exact ⟨by rw [HR0.out]; rfl, rfl⟩
            · have HR0 : Hid (r = (0, 0)) := HRR.out.trans (if_neg (fun h => g2 h.2))
              have hdc : decide (0 ≤ (C : Int) ∧ (C : Int) ≤ 1114111 ∧ ((C : Int) < 55296 ∨ 57343 < (C : Int))) = false := decide_eq_false (by unfold goodC at g2; omega)
              rw [hdc] at HRt
              clear hdc g2
              go_wp2_with (go_at_call 55; refine HRt.out.mono ?_; rintro e w' ⟨rfl, rfl⟩)
              go_ret2
              exact ⟨by rw [HR0.out]; rfl, rfl⟩
  · have hA := and_lit (m := 15) b0 q0 (by omega)
    have hd := dec3 (L := L) (b0 := b0) (b1 := b1) (b2 := b2) (b3 := b3) k0
    have hc0 : b0 % 16 < 32 := by omega
    obtain ⟨C, hC⟩ : ∃ C, ccv (b0 % 16) (by3 b1 b2 b3) 2 = C := ⟨_, rfl⟩
    have HR : Hid ((∀ j, 1 ≤ j → j < 3 → by3 b1 b2 b3 j / 64 = 2) → 3 ≤ L → r = if 2048 ≤ C ∧ goodC C then (C, 3) else (0, 0)) := fun hj hl => by
      have j1 : b1 / 64 = 2 := hj 1 (by omega) (by omega)
      have j2 : b2 / 64 = 2 := hj 2 (by omega) (by omega)
      have hcond : (1 < L ∧ b1 / 64 = 2) ∧ (2 < L ∧ b2 / 64 = 2) := by omega
      have hCe : b0 % 16 * 4096 + b1 % 64 * 64 + b2 % 64 = C := by rw [← hC]; show _ = (b0 % 16 * 64 + b1 % 64) * 64 + b2 % 64; omega
      rw [if_pos hcond, hCe] at hd
      by_cases g : C ≥ 2048 ∧ goodC C
      · rw [if_pos g] at hd
        rw [hpt, hd, if_neg (by simp), if_pos ⟨g.1, g.2⟩]
      · rw [if_neg g] at hd
        rw [hpt, hd, if_pos rfl, if_neg (fun k => g ⟨k.1, k.2⟩)]
    have HF : Hid ((∃ j, 1 ≤ j ∧ j < 3 ∧ by3 b1 b2 b3 j / 64 ≠ 2) ∨ L < 3 → r = (0, 0)) := fun hb => by
      have hneg : ¬ ((1 < L ∧ b1 / 64 = 2) ∧ (2 < L ∧ b2 / 64 = 2)) := by
        intro hc
        rcases hb with ⟨j, h1, h2, h3⟩ | hb
        · have hj : j = 1 ∨ j = 2 := by omega
          rcases hj with rfl | rfl
          · exact h3 (show b1 / 64 = 2 by omega)
          · exact h3 (show b2 / 64 = 2 by omega)
        · omega
      rw [if_neg hneg] at hd
      rw [hpt, hd, if_pos rfl]
    have HCl := fun k hk => ccv_lt (b0 % 16) (by3 b1 b2 b3) hc0 k hk
    have HCl2 := Lib.hid HCl
    have HCe := Lib.hid hC
    have k1 : ¬ (b0 : Int) < 128 := by omega
    have k2 : (194 : Int) ≤ (b0 : Int) := by omega
    have k2' : ¬ (b0 : Int) < 224 := by omega
    have k3 : (224 : Int) ≤ (b0 : Int) := by omega
    have k3' : (b0 : Int) < 240 := by omega
    clear hpt hd hc0 HCl hC q1 q2 q3
    by_cases hl : L < 3
    · have hl' : (L : Int) < 3 := by omega
      have HR0 : Hid (r = (0, 0)) := HF.out (.inr hl)
      go_enter Tryz.func80, Tryz.ntmps80
      go_wp2_with fail
      go_ret2
      exact ⟨by rw [HR0.out]; rfl, rfl⟩
    · have hl' : ¬ (L : Int) < 3 := by omega
      go_enter Tryz.func80, Tryz.ntmps80
      go_wp2_with fail
      rw [show bits BinOp.and IntKind.i64 (b0 : Int) 15 = ((b0 % 16 : Nat) : Int) from hA]
      clear hA k1 k2 q0
      go_loop [7, 8] (fun c i => ∃ k : Nat, k + 1 ≤ 3 ∧ i = .int .i64 ((k + 1 : Nat) : Int) ∧ c = .int .i64 (ccv (b0 % 16) (by3 b1 b2 b3) k : Nat) ∧ Hid (∀ j, 1 ≤ j → j < k + 1 → by3 b1 b2 b3 j / 64 = 2)) (fun _ i => 3 - (intOf i).toNat)
      case atStart => exact ⟨0, by omega, rfl, rfl, fun j h1 h2 => by omega⟩
      case round =>
        obtain ⟨k, hk, rfl, rfl, hok⟩ := hrel
        by_cases hkn : k + 1 < 3
        · have hkn' : ((k + 1 : Nat) : Int) < 3 := by omega
          have hcell := HC.out (k + 1) (by omega) (by omega) (by omega)
          have hyl := HB.out (k + 1)
          have hstep : ccv (b0 % 16) (by3 b1 b2 b3) (k + 1) = ccv (b0 % 16) (by3 b1 b2 b3) k * 64 + by3 b1 b2 b3 (k + 1) % 64 := rfl
          have hvl := HCl2.out k (by omega)
          have hvl2 := HCl2.out (k + 1) (by omega)
          have HS := Lib.hid hstep
          have Hy : Hid (∀ y, by3 b1 b2 b3 (k + 1) = y → True) := fun _ _ => trivial
          generalize hye : by3 b1 b2 b3 (k + 1) = y at *
          have HYe := Lib.hid hye
          clear hye Hy
          generalize ccv (b0 % 16) (by3 b1 b2 b3) k = v at *
          have hA : bits BinOp.and IntKind.i64 (y : Int) 63 = (y : Int) % 64 := (and_lit (m := 63) y hyl (by omega)).trans (by simp)
          have hw2 : wrap64 ((v : Int) * 64 + (y : Int) % 64) = v * 64 + (y : Int) % 64 := IntWalk.wrap64_in _ (by omega)
          have hw1 : wrap64 ((v : Int) * 64) = v * 64 := IntWalk.wrap64_in _ (by omega)
          have hkL : k + 1 < L := by omega
          by_cases hy : y / 64 = 2
          · have k7 : ¬ (y : Int) < 128 := by omega
            have k8 : ¬ (191 : Int) < (y : Int) := by omega
            have k7d := decide_eq_false k7
            have k8d := decide_eq_false k8
            have HOk : Hid (∀ j, 1 ≤ j → j < k + 1 + 1 → by3 b1 b2 b3 j / 64 = 2) := fun j h1 h2 => by
              by_cases e : j = k + 1
              · subst e; rw [HYe.out]; exact hy
              · exact hok.out j h1 (by omega)
            go_wp2_with fail
            exact ⟨⟨k + 1, by omega, by simp, by rw [HS.out]; first | rfl | (congr 1; omega), HOk⟩, by simp [intOf]; omega⟩
          · have HR0 : Hid (r = (0, 0)) := HF.out (.inl ⟨k + 1, by omega, by omega, by rw [HYe.out]; exact hy⟩)
            by_cases k7n : y < 128
            · have k7 : (y : Int) < 128 := by omega
              go_wp2_with fail
              go_ret2
              exact ⟨by rw [HR0.out]; rfl, rfl⟩
            · have k7 : ¬ (y : Int) < 128 := by omega
              have k7d := decide_eq_false k7
              have k8 : (191 : Int) < (y : Int) := by omega
              go_wp2_with fail
              go_ret2
              exact ⟨by rw [HR0.out]; rfl, rfl⟩
        · obtain rfl : k = 3 - 1 := by omega
          have hv : ccv (b0 % 16) (by3 b1 b2 b3) (3 - 1) = C := HCe.out
          rw [hv]
          have HRR := Lib.hid (HR.out (fun j h1 h2 => hok.out j h1 (by omega)) (by omega))
          have hCl : C < 8388608 := hv ▸ HCl2.out (3 - 1) (by omega)
          have HRt : Hid (Calls Tryz.prog 55 #[.int .i64 (C : Int)] w fun e w' => e = .returned (.bool (decide (0 ≤ (C : Int) ∧ (C : Int) ≤ 1114111 ∧ ((C : Int) < 55296 ∨ 57343 < (C : Int))))) ∧ w = w') := Rright_any C w
          clear HCl2 HCe hv hok HR HF HC HB
          by_cases g1 : C < 2048
          · have HR0 : Hid (r = (0, 0)) := HRR.out.trans (if_neg (fun h => by omega))
            have g1' : (C : Int) < 2048 := by omega
            go_wp2_with fail
            go_ret2
            exact ⟨by rw [HR0.out]; rfl, rfl⟩
          · have g1' : ¬ (C : Int) < 2048 := by omega
            have g1d := decide_eq_false g1'
            by_cases g2 : goodC C
            · have HR0 : Hid (r = (C, 3)) := HRR.out.trans (if_pos ⟨by omega, g2⟩)
              have hdc : decide (0 ≤ (C : Int) ∧ (C : Int) ≤ 1114111 ∧ ((C : Int) < 55296 ∨ 57343 < (C : Int))) = true := decide_eq_true (by unfold goodC at g2; omega)
              rw [hdc] at HRt
              clear hdc g2
              go_wp2_with (go_at_call 55; refine HRt.out.mono ?_; rintro e w' ⟨rfl, rfl⟩)
              go_ret2
              exact ⟨by rw [HR0.out]; rfl, rfl⟩
            · have HR0 : Hid (r = (0, 0)) := HRR.out.trans (if_neg (fun h => g2 h.2))
              have hdc : decide (0 ≤ (C : Int) ∧ (C : Int) ≤ 1114111 ∧ ((C : Int) < 55296 ∨ 57343 < (C : Int))) = false := decide_eq_false (by unfold goodC at g2; omega)
              rw [hdc] at HRt
              clear hdc g2
              go_wp2_with (go_at_call 55; refine HRt.out.mono ?_; rintro e w' ⟨rfl, rfl⟩)
              go_ret2
              exact ⟨by rw [HR0.out]; rfl, rfl⟩
  · have hA := and_lit (m := 7) b0 q0 (by omega)
    have hd := dec4 (L := L) (b0 := b0) (b1 := b1) (b2 := b2) (b3 := b3) k0
    have hc0 : b0 % 8 < 32 := by omega
    obtain ⟨C, hC⟩ : ∃ C, ccv (b0 % 8) (by3 b1 b2 b3) 3 = C := ⟨_, rfl⟩
    have HR : Hid ((∀ j, 1 ≤ j → j < 4 → by3 b1 b2 b3 j / 64 = 2) → 4 ≤ L → r = if 65536 ≤ C ∧ goodC C then (C, 4) else (0, 0)) := fun hj hl => by
      have j1 : b1 / 64 = 2 := hj 1 (by omega) (by omega)
      have j2 : b2 / 64 = 2 := hj 2 (by omega) (by omega)
      have j3 : b3 / 64 = 2 := hj 3 (by omega) (by omega)
      have hcond : (1 < L ∧ b1 / 64 = 2) ∧ (2 < L ∧ b2 / 64 = 2) ∧ (3 < L ∧ b3 / 64 = 2) := by omega
      have hCe : b0 % 8 * 262144 + b1 % 64 * 4096 + b2 % 64 * 64 + b3 % 64 = C := by rw [← hC]; show _ = ((b0 % 8 * 64 + b1 % 64) * 64 + b2 % 64) * 64 + b3 % 64; omega
      rw [if_pos hcond, hCe] at hd
      by_cases g : C ≥ 65536 ∧ goodC C
      · rw [if_pos g] at hd
        rw [hpt, hd, if_neg (by simp), if_pos ⟨g.1, g.2⟩]
      · rw [if_neg g] at hd
        rw [hpt, hd, if_pos rfl, if_neg (fun k => g ⟨k.1, k.2⟩)]
    have HF : Hid ((∃ j, 1 ≤ j ∧ j < 4 ∧ by3 b1 b2 b3 j / 64 ≠ 2) ∨ L < 4 → r = (0, 0)) := fun hb => by
      have hneg : ¬ ((1 < L ∧ b1 / 64 = 2) ∧ (2 < L ∧ b2 / 64 = 2) ∧ (3 < L ∧ b3 / 64 = 2)) := by
        intro hc
        rcases hb with ⟨j, h1, h2, h3⟩ | hb
        · have hj : j = 1 ∨ j = 2 ∨ j = 3 := by omega
          rcases hj with rfl | rfl | rfl
          · exact h3 (show b1 / 64 = 2 by omega)
          · exact h3 (show b2 / 64 = 2 by omega)
          · exact h3 (show b3 / 64 = 2 by omega)
        · omega
      rw [if_neg hneg] at hd
      rw [hpt, hd, if_pos rfl]
    have HCl := fun k hk => ccv_lt (b0 % 8) (by3 b1 b2 b3) hc0 k hk
    have HCl2 := Lib.hid HCl
    have HCe := Lib.hid hC
    have k1 : ¬ (b0 : Int) < 128 := by omega
    have k2 : (194 : Int) ≤ (b0 : Int) := by omega
    have k2' : ¬ (b0 : Int) < 224 := by omega
    have k3 : (224 : Int) ≤ (b0 : Int) := by omega
    have k3' : ¬ (b0 : Int) < 240 := by omega
    have k4 : (240 : Int) ≤ (b0 : Int) := by omega
    have k4' : (b0 : Int) < 245 := by omega
    clear hpt hd hc0 HCl hC q1 q2 q3
    by_cases hl : L < 4
    · have hl' : (L : Int) < 4 := by omega
      have HR0 : Hid (r = (0, 0)) := HF.out (.inr hl)
      go_enter Tryz.func80, Tryz.ntmps80
      go_wp2_with fail
      go_ret2
      exact ⟨by rw [HR0.out]; rfl, rfl⟩
    · have hl' : ¬ (L : Int) < 4 := by omega
      go_enter Tryz.func80, Tryz.ntmps80
      go_wp2_with fail
      rw [show bits BinOp.and IntKind.i64 (b0 : Int) 7 = ((b0 % 8 : Nat) : Int) from hA]
      clear hA k1 k2 q0
      go_loop [7, 8] (fun c i => ∃ k : Nat, k + 1 ≤ 4 ∧ i = .int .i64 ((k + 1 : Nat) : Int) ∧ c = .int .i64 (ccv (b0 % 8) (by3 b1 b2 b3) k : Nat) ∧ Hid (∀ j, 1 ≤ j → j < k + 1 → by3 b1 b2 b3 j / 64 = 2)) (fun _ i => 4 - (intOf i).toNat)
      case atStart => exact ⟨0, by omega, rfl, rfl, fun j h1 h2 => by omega⟩
      case round =>
        obtain ⟨k, hk, rfl, rfl, hok⟩ := hrel
        by_cases hkn : k + 1 < 4
        · have hkn' : ((k + 1 : Nat) : Int) < 4 := by omega
          have hcell := HC.out (k + 1) (by omega) (by omega) (by omega)
          have hyl := HB.out (k + 1)
          have hstep : ccv (b0 % 8) (by3 b1 b2 b3) (k + 1) = ccv (b0 % 8) (by3 b1 b2 b3) k * 64 + by3 b1 b2 b3 (k + 1) % 64 := rfl
          have hvl := HCl2.out k (by omega)
          have hvl2 := HCl2.out (k + 1) (by omega)
          have HS := Lib.hid hstep
          have Hy : Hid (∀ y, by3 b1 b2 b3 (k + 1) = y → True) := fun _ _ => trivial
          generalize hye : by3 b1 b2 b3 (k + 1) = y at *
          have HYe := Lib.hid hye
          clear hye Hy
          generalize ccv (b0 % 8) (by3 b1 b2 b3) k = v at *
          have hA : bits BinOp.and IntKind.i64 (y : Int) 63 = (y : Int) % 64 := (and_lit (m := 63) y hyl (by omega)).trans (by simp)
          have hw2 : wrap64 ((v : Int) * 64 + (y : Int) % 64) = v * 64 + (y : Int) % 64 := IntWalk.wrap64_in _ (by omega)
          have hw1 : wrap64 ((v : Int) * 64) = v * 64 := IntWalk.wrap64_in _ (by omega)
          have hkL : k + 1 < L := by omega
          by_cases hy : y / 64 = 2
          · have k7 : ¬ (y : Int) < 128 := by omega
            have k8 : ¬ (191 : Int) < (y : Int) := by omega
            have k7d := decide_eq_false k7
            have k8d := decide_eq_false k8
            have HOk : Hid (∀ j, 1 ≤ j → j < k + 1 + 1 → by3 b1 b2 b3 j / 64 = 2) := fun j h1 h2 => by
              by_cases e : j = k + 1
              · subst e; rw [HYe.out]; exact hy
              · exact hok.out j h1 (by omega)
            go_wp2_with fail
            exact ⟨⟨k + 1, by omega, by simp, by rw [HS.out]; first | rfl | (congr 1; omega), HOk⟩, by simp [intOf]; omega⟩
          · have HR0 : Hid (r = (0, 0)) := HF.out (.inl ⟨k + 1, by omega, by omega, by rw [HYe.out]; exact hy⟩)
            by_cases k7n : y < 128
            · have k7 : (y : Int) < 128 := by omega
              go_wp2_with fail
              go_ret2
              exact ⟨by rw [HR0.out]; rfl, rfl⟩
            · have k7 : ¬ (y : Int) < 128 := by omega
              have k7d := decide_eq_false k7
              have k8 : (191 : Int) < (y : Int) := by omega
              go_wp2_with fail
              go_ret2
              exact ⟨by rw [HR0.out]; rfl, rfl⟩
        · obtain rfl : k = 4 - 1 := by omega
          have hv : ccv (b0 % 8) (by3 b1 b2 b3) (4 - 1) = C := HCe.out
          rw [hv]
          have HRR := Lib.hid (HR.out (fun j h1 h2 => hok.out j h1 (by omega)) (by omega))
          have hCl : C < 8388608 := hv ▸ HCl2.out (4 - 1) (by omega)
          have HRt : Hid (Calls Tryz.prog 55 #[.int .i64 (C : Int)] w fun e w' => e = .returned (.bool (decide (0 ≤ (C : Int) ∧ (C : Int) ≤ 1114111 ∧ ((C : Int) < 55296 ∨ 57343 < (C : Int))))) ∧ w = w') := Rright_any C w
          clear HCl2 HCe hv hok HR HF HC HB
          by_cases g1 : C < 65536
          · have HR0 : Hid (r = (0, 0)) := HRR.out.trans (if_neg (fun h => by omega))
            have g1' : (C : Int) < 65536 := by omega
            go_wp2_with fail
            go_ret2
            exact ⟨by rw [HR0.out]; rfl, rfl⟩
          · have g1' : ¬ (C : Int) < 65536 := by omega
            have g1d := decide_eq_false g1'
            by_cases g2 : goodC C
            · have HR0 : Hid (r = (C, 4)) := HRR.out.trans (if_pos ⟨by omega, g2⟩)
              have hdc : decide (0 ≤ (C : Int) ∧ (C : Int) ≤ 1114111 ∧ ((C : Int) < 55296 ∨ 57343 < (C : Int))) = true := decide_eq_true (by unfold goodC at g2; omega)
              rw [hdc] at HRt
              clear hdc g2
              go_wp2_with (go_at_call 55; refine HRt.out.mono ?_; rintro e w' ⟨rfl, rfl⟩)
              go_ret2
              exact ⟨by rw [HR0.out]; rfl, rfl⟩
            · have HR0 : Hid (r = (0, 0)) := HRR.out.trans (if_neg (fun h => g2 h.2))
              have hdc : decide (0 ≤ (C : Int) ∧ (C : Int) ≤ 1114111 ∧ ((C : Int) < 55296 ∨ 57343 < (C : Int))) = false := decide_eq_false (by unfold goodC at g2; omega)
              rw [hdc] at HRt
              clear hdc g2
              go_wp2_with (go_at_call 55; refine HRt.out.mono ?_; rintro e w' ⟨rfl, rfl⟩)
              go_ret2
              exact ⟨by rw [HR0.out]; rfl, rfl⟩
end Go.Proofs.YtiblamapjekdeaaGreat
