/- The walk of the law on bases. No condition. -/
import Derived.Test.YtdnmllklceaknaaDoorDgN
import Derived.RangeFuncBox
namespace Go.Proofs.YtdnmllklceaknaaDoor
open Go.RowKit Go.ChangeShapes Go.WideShapes
open Dig
def hexs : ByteArray := ⟨#[48, 49, 50, 51, 52, 53, 54, 55, 56, 57, 97, 66, 99, 68, 101, 70]⟩
def hexC (d : Nat) : UInt8 := hexs.data.getD d 0
theorem hex_cut {d : Nat} (h : d < 16) : (⟨#[48, 49, 50, 51, 52, 53, 54, 55, 56, 57, 97, 66, 99, 68, 101, 70]⟩ : ByteArray).extract d (d + 1) = ⟨#[hexC d]⟩ ∧ hexI (hexC d).toNat = d := by
  have hall : ∀ e : Fin 16, (⟨#[48, 49, 50, 51, 52, 53, 54, 55, 56, 57, 97, 66, 99, 68, 101, 70]⟩ : ByteArray).extract e (e + 1) = ⟨#[hexC e]⟩ ∧ hexI (hexC e).toNat = ((e : Nat) : Int) := by decide +kernel
  exact hall ⟨d, h⟩
theorem cons_list (c : UInt8) (S : ByteArray) : ((⟨#[c]⟩ : ByteArray) ++ S).data.toList = c :: S.data.toList := by simp
/-- What the loop that writes a number in a base knows. -/
structure BInv (B n : Nat) (S : ByteArray) (k : Nat) : Prop where
  all : S.data.toList.all (hexD B) = true
  sum : n = k * B ^ S.size + foldV B (S.data.toList.map hexN)
theorem foldV_acc (B : Nat) : ∀ (l : List Nat) (v : Nat), l.foldl (fun v d => v * B + d) v = v * B ^ l.length + l.foldl (fun v d => v * B + d) 0
  | [], v => by simp
  | d :: l, v => by
    rw [List.foldl_cons, List.foldl_cons, foldV_acc B l (v * B + d), foldV_acc B l (0 * B + d)]
    simp only [List.length_cons, Nat.pow_succ, Nat.add_mul, Nat.zero_mul, Nat.zero_add]
    rw [Nat.mul_assoc, Nat.mul_comm B, Nat.add_assoc]
theorem foldV_cons (B d : Nat) (l : List Nat) : foldV B (d :: l) = d * B ^ l.length + foldV B l := by
  rw [foldV, List.foldl_cons, foldV_acc]; simp [foldV]
theorem hexD_C {B d : Nat} (hd : d < B) (hB : B ≤ 16) : hexD B (hexC d) = true ∧ hexN (hexC d) = d := by
  have := (hex_cut (d := d) (by omega)).2
  refine ⟨?_, by rw [hexN, this]; simp⟩
  rw [hexD, this]; simp; exact hd
theorem BInv.step {B n k : Nat} {S : ByteArray} (h : BInv B n S k) (hB : 0 < B ∧ B ≤ 16) : BInv B n (⟨#[hexC (k % B)]⟩ ++ S) (k / B) := by
  have hd : k % B < B := Nat.mod_lt _ hB.1
  obtain ⟨h1, h2⟩ := hexD_C hd hB.2
  have hl : (S.data.toList.map hexN).length = S.size := by simp
  refine ⟨by rw [cons_list, List.all_cons, h1, h.all]; rfl, ?_⟩
  rw [cons_list, List.map_cons, h2, foldV_cons, hl]
  have hs : ((⟨#[hexC (k % B)]⟩ : ByteArray) ++ S).size = S.size + 1 := by rw [ByteArray.size_append]; show 1 + _ = _; omega
  rw [hs, Nat.pow_succ]
  have hk : k = k / B * B + k % B := by rw [Nat.mul_comm]; exact (Nat.div_add_mod k B).symm
  have hs2 := h.sum
  conv at hs2 => rhs; rw [hk]
  rw [Nat.add_mul] at hs2
  rw [show k / B * (B ^ S.size * B) = k / B * B * B ^ S.size by rw [Nat.mul_comm (B ^ S.size) B, Nat.mul_assoc]]
  omega
theorem BInv.zero {B n : Nat} {S : ByteArray} (h : BInv B n S 0) (hB : 0 < B ∧ B ≤ 16) : BInv B n (⟨#[48]⟩ ++ S) 0 := by
  have hc : hexC 0 = 48 := by decide +kernel
  have := h.step hB
  rw [Nat.zero_mod, Nat.zero_div, hc] at this
  exact this
theorem BInv.small {B n k : Nat} {S : ByteArray} (h : BInv B n S k) (hk : 0 < k) (hB : 2 ≤ B) (hn : n < 2 ^ 63) : S.size < 63 := by
  rcases Nat.lt_or_ge S.size 63 with h1 | h1
  · exact h1
  · have e1 : 2 ^ 63 ≤ B ^ S.size := Nat.le_trans (Nat.pow_le_pow_right (by decide) h1) (Nat.pow_le_pow_left hB _)
    have e2 : 1 * B ^ S.size ≤ k * B ^ S.size := Nat.mul_le_mul_right _ hk
    have := h.sum
    omega
theorem BInv.done {B n : Nat} {S : ByteArray} (h : BInv B n S 0) (hB : B = 8 ∨ B = 10 ∨ B = 16) (h0 : S.size ≠ 0) (h5 : S.size ≤ 5000) : plainS S B = decS n ∧ plainOk S B = true := by
  have e : hexL S B = S.data.toList.map hexN := by rw [hexL, if_pos ⟨h0, h5, by omega, h.all⟩]
  have hne : hexL S B ≠ [] := by rw [e]; intro hx; exact h0 (by simpa using congrArg List.length hx)
  obtain ⟨h1, h2⟩ := plain_some hne
  refine ⟨?_, h2⟩
  rw [h1, e, Int.toNat_natCast]
  have := h.sum
  rw [Nat.zero_mul, Nat.zero_add] at this
  rw [← this]
def mz : Value → Nat
  | .string T => if T.size = 0 then 1 else 0
  | _ => 0
theorem mz_le (v : Value) : mz v ≤ 1 := by
  unfold mz; split
  · split <;> omega
  · omega
theorem three_ints (w : World) : ∃ V, w.alloc (.cells #[.int .i64 8, .int .i64 10, .int .i64 16] 3) = V ∧ Below w.heap.size w V ∧ V.heap.size = w.heap.size + 1 ∧ V.cell? ⟨w.heap.size, 0, none⟩ = some (.int .i64 8) ∧ V.cell? ⟨w.heap.size, 1, none⟩ = some (.int .i64 10) ∧ V.cell? ⟨w.heap.size, 2, none⟩ = some (.int .i64 16) := by
  have h := World.alloc_heap_new w (.cells #[.int .i64 8, .int .i64 10, .int .i64 16] 3)
  refine ⟨_, rfl, (Below.refl _ w).alloc (Nat.le_refl _) _, by simp, ?_, ?_, ?_⟩
  · rw [Lib.cell_of_heap h]; rfl
  · rw [Lib.cell_of_heap h]; rfl
  · rw [Lib.cell_of_heap h]; rfl
set_option maxRecDepth 100000 in
set_option maxHeartbeats 4000000 in
theorem digitsBases_walk (n : Int) (wn : (Lit.int .i64 n).wf = true) (zs : Int) (_wz : (Lit.int .i64 zs).wf = true) (w : World) :
    Calls Tryd.prog 4 #[.int .i64 n, .int .i64 zs] w fun e w' => e = .returned (.bool true) ∧ Below w.heap.size w w' := by
  have hn63 : n ≤ 9223372036854775807 := (bounds_i64 wn).2
  go_enter Tryd.func4, Tryd.ntmps4
  go_wp2_with fail
  refine (alive4_any _).mono ?_
  rintro e w1 ⟨rfl, hb1⟩
  by_cases hin : 0 ≤ n ∧ 0 ≤ zs ∧ zs ≤ 50
  · obtain ⟨h1, h2, h3⟩ := hin
    obtain ⟨m, rfl⟩ : ∃ m : Nat, n = m := ⟨n.toNat, by omega⟩
    obtain ⟨z, rfl⟩ : ∃ z : Nat, zs = z := ⟨zs.toNat, by omega⟩
    have d1 : decide ((m : Int) < 0) = false := decide_eq_false (by omega)
    have d2 : decide ((z : Int) < 0) = false := decide_eq_false (by omega)
    have d3 : decide ((50 : Int) < (z : Int)) = false := decide_eq_false (by omega)
    have hm63 : m ≤ 9223372036854775807 := by omega
    have hz50 : z ≤ 50 := by omega
    go_wp2_with fail
    obtain ⟨V, hV, hbV, hzV, hc0, hc1, hc2⟩ := three_ints w1
    rw [hV]
    have hbwV := below_then hb1 hbV
    clear hV hbV hb1
    go_loopw [7] (fun i wr => ∃ k : Nat, k ≤ 3 ∧ i = .int .i64 k ∧ Below V.heap.size V wr) (fun i _ => 3 - (intOf i).toNat)
    case atStart => exact ⟨0, by omega, rfl, Below.refl _ _⟩
    case round =>
      obtain ⟨k, hk, rfl, hbl⟩ := hrel
      have e0 := (hbl.cell (p := ⟨w1.heap.size, 0, none⟩) (by show w1.heap.size < _; omega)).trans hc0
      have e1 := (hbl.cell (p := ⟨w1.heap.size, 1, none⟩) (by show w1.heap.size < _; omega)).trans hc1
      have e2 := (hbl.cell (p := ⟨w1.heap.size, 2, none⟩) (by show w1.heap.size < _; omega)).trans hc2
      clear hc0 hc1 hc2
      have hks : k = 0 ∨ k = 1 ∨ k = 2 ∨ k = 3 := by omega
      rcases hks with rfl | rfl | rfl | rfl
      · have HB : Hid (0 < 8 ∧ 8 ≤ 16) := ⟨by decide, by decide⟩
        go_wp2_with fail
        go_loop [8, 9] (fun sv kv => ∃ (T : ByteArray) (q : Nat), sv = .string T ∧ kv = .int .i64 q ∧ Hid (BInv 8 m T q) ∧ q ≤ m ∧ T.size ≤ 63) (fun sv kv => 2 * (intOf kv).toNat + mz sv)
        case atStart => exact ⟨⟨#[]⟩, m, rfl, rfl, ⟨rfl, (by show m = m * 1 + 0; omega)⟩, Nat.le_refl _, Nat.zero_le _⟩
        case round =>
          obtain ⟨T, q, rfl, rfl, hT, hq, hz⟩ := hrel
          by_cases hgo : 0 < q
          · have HN : Hid (BInv 8 m (⟨#[hexC (q % 8)]⟩ ++ T) (q / 8)) := hT.out.step HB.out
            have hd : q % 8 < 16 := Nat.lt_of_lt_of_le (Nat.mod_lt _ HB.out.1) HB.out.2
            have HC := Lib.hid (hex_cut hd).1
            have hz2 : T.size < 63 := hT.out.small hgo (by decide) (by omega)
            have hq9 : q ≤ 9223372036854775807 := by omega
            have h' : (0 : Int) < (q : Int) := by omega
            go_wp2_with fail
            go_round
            case rel =>
              refine ⟨_, q / 8, rfl, by go_num, ?_, by omega, ?_⟩
              · rw [HC.out]; exact HN.out
              · rw [HC.out, ByteArray.size_append]; show 1 + _ ≤ _; omega
            case measure =>
              have h1 := mz_le (.string ((⟨#[48, 49, 50, 51, 52, 53, 54, 55, 56, 57, 97, 66, 99, 68, 101, 70]⟩ : ByteArray).extract (q % 8) (q % 8 + 1) ++ T))
              simp only [intOf]
              omega
          · obtain rfl : q = 0 := by omega
            have hE := empty_str T
            by_cases h0 : T.size = 0
            · rw [decide_eq_true h0] at hE
              have HN : Hid (BInv 8 m (⟨#[hexC (0 % 8)]⟩ ++ T) (0 / 8)) := hT.out.step HB.out
              have HC := Lib.hid (hex_cut (d := 0 % 8) (by decide)).1
              have h' : ¬ (0 : Int) < 0 := by omega
              have hmz : mz (.string T) = 1 := by rw [mz, if_pos h0]
              clear h0
              go_wp2_with fail
              go_round
              case rel =>
                refine ⟨_, 0, rfl, by go_num, ?_, by omega, ?_⟩
                · have := HC.out
                  simp only [Nat.zero_mod, Nat.zero_add] at this
                  have h2 := HN.out
                  simp only [Nat.zero_mod, Nat.zero_div] at h2
                  rw [this]; exact h2
                · have := HC.out
                  simp only [Nat.zero_mod, Nat.zero_add] at this
                  rw [this, ByteArray.size_append]; show 1 + _ ≤ _
                  have := empty_str T
                  rw [hE] at this
                  have := of_decide_eq_true this.symm
                  omega
              case measure =>
                have hc := HC.out
                simp only [Nat.zero_mod, Nat.zero_add] at hc
                rw [hc]
                have h1 : mz (.string ((⟨#[hexC 0]⟩ : ByteArray) ++ T)) = 0 := by
                  rw [mz, if_neg]; rw [ByteArray.size_append]; show ¬ 1 + _ = 0; omega
                rw [h1, hmz]; simp [intOf]
            · rw [decide_eq_false h0] at hE
              have H0 : Hid (T.size ≠ 0) := h0
              have h' : ¬ (0 : Int) < 0 := by omega
              clear h0
              go_wp2_with fail
              go_loop [8, 11] (fun sv jv => ∃ (T : ByteArray) (j : Nat), sv = .string T ∧ jv = .int .i64 j ∧ j ≤ z ∧ Hid (BInv 8 m T 0) ∧ Hid (T.size ≠ 0) ∧ T.size ≤ 63 + j) (fun _ jv => z - (intOf jv).toNat)
              case atStart => exact ⟨T, 0, rfl, rfl, Nat.zero_le _, hT.out, H0.out, by omega⟩
              case round =>
                clear hT hz hE H0 h' hgo
                obtain ⟨T, j, rfl, rfl, hj, hT, hz0, hz⟩ := hrel
                by_cases hlt : j < z
                · have hlt' : (j : Int) < (z : Int) := by omega
                  go_wp2_with fail
                  go_round
                  case rel => exact ⟨_, j + 1, rfl, by go_num, by omega, BInv.zero hT.out HB.out, (by show _ ≠ 0; rw [ByteArray.size_append]; show ¬ 1 + _ = 0; omega), (by rw [ByteArray.size_append]; show 1 + _ ≤ _; omega)⟩
                  case measure => simp [intOf]; omega
                · obtain rfl : j = z := by omega
                  have hP := Plain_any T 8 wr (by unfold maxLen; omega)
                  obtain ⟨p1, p2⟩ := hT.out.done (by decide) hz0.out (by omega)
                  rw [show (((8 : Nat) : Int)) = 8 from rfl] at p1 p2
                  rw [p1, p2] at hP
                  have HP := Lib.hid hP
                  have HD := Lib.hid (fun w => Digits_any m w hm63)
                  clear hP p1 p2
                  have hsz := hbl.size
                  go_wp2_with fail
                  refine HP.out.mono ?_
                  rintro e w3 ⟨rfl, hb3⟩
                  go_wp2_with fail
                  refine (HD.out _).mono ?_
                  rintro e w4 ⟨rfl, hb4⟩
                  have hb34 := below_then hb3 hb4
                  go_wp2_with fail
                  go_roundw
                  case rel => exact ⟨1, by omega, by go_num, hbl.trans (hb34.mono hsz)⟩
                  case measure => simp [intOf]
      · have HB : Hid (0 < 10 ∧ 10 ≤ 16) := ⟨by decide, by decide⟩
        go_wp2_with fail
        go_loop [8, 9] (fun sv kv => ∃ (T : ByteArray) (q : Nat), sv = .string T ∧ kv = .int .i64 q ∧ Hid (BInv 10 m T q) ∧ q ≤ m ∧ T.size ≤ 63) (fun sv kv => 2 * (intOf kv).toNat + mz sv)
        case atStart => exact ⟨⟨#[]⟩, m, rfl, rfl, ⟨rfl, (by show m = m * 1 + 0; omega)⟩, Nat.le_refl _, Nat.zero_le _⟩
        case round =>
          obtain ⟨T, q, rfl, rfl, hT, hq, hz⟩ := hrel
          by_cases hgo : 0 < q
          · have HN : Hid (BInv 10 m (⟨#[hexC (q % 10)]⟩ ++ T) (q / 10)) := hT.out.step HB.out
            have hd : q % 10 < 16 := Nat.lt_of_lt_of_le (Nat.mod_lt _ HB.out.1) HB.out.2
            have HC := Lib.hid (hex_cut hd).1
            have hz2 : T.size < 63 := hT.out.small hgo (by decide) (by omega)
            have hq9 : q ≤ 9223372036854775807 := by omega
            have h' : (0 : Int) < (q : Int) := by omega
            go_wp2_with fail
            go_round
            case rel =>
              refine ⟨_, q / 10, rfl, by go_num, ?_, by omega, ?_⟩
              · rw [HC.out]; exact HN.out
              · rw [HC.out, ByteArray.size_append]; show 1 + _ ≤ _; omega
            case measure =>
              have h1 := mz_le (.string ((⟨#[48, 49, 50, 51, 52, 53, 54, 55, 56, 57, 97, 66, 99, 68, 101, 70]⟩ : ByteArray).extract (q % 10) (q % 10 + 1) ++ T))
              simp only [intOf]
              omega
          · obtain rfl : q = 0 := by omega
            have hE := empty_str T
            by_cases h0 : T.size = 0
            · rw [decide_eq_true h0] at hE
              have HN : Hid (BInv 10 m (⟨#[hexC (0 % 10)]⟩ ++ T) (0 / 10)) := hT.out.step HB.out
              have HC := Lib.hid (hex_cut (d := 0 % 10) (by decide)).1
              have h' : ¬ (0 : Int) < 0 := by omega
              have hmz : mz (.string T) = 1 := by rw [mz, if_pos h0]
              clear h0
              go_wp2_with fail
              go_round
              case rel =>
                refine ⟨_, 0, rfl, by go_num, ?_, by omega, ?_⟩
                · have := HC.out
                  simp only [Nat.zero_mod, Nat.zero_add] at this
                  have h2 := HN.out
                  simp only [Nat.zero_mod, Nat.zero_div] at h2
                  rw [this]; exact h2
                · have := HC.out
                  simp only [Nat.zero_mod, Nat.zero_add] at this
                  rw [this, ByteArray.size_append]; show 1 + _ ≤ _
                  have := empty_str T
                  rw [hE] at this
                  have := of_decide_eq_true this.symm
                  omega
              case measure =>
                have hc := HC.out
                simp only [Nat.zero_mod, Nat.zero_add] at hc
                rw [hc]
                have h1 : mz (.string ((⟨#[hexC 0]⟩ : ByteArray) ++ T)) = 0 := by
                  rw [mz, if_neg]; rw [ByteArray.size_append]; show ¬ 1 + _ = 0; omega
                rw [h1, hmz]; simp [intOf]
            · rw [decide_eq_false h0] at hE
              have H0 : Hid (T.size ≠ 0) := h0
              have h' : ¬ (0 : Int) < 0 := by omega
              clear h0
              go_wp2_with fail
              go_loop [8, 11] (fun sv jv => ∃ (T : ByteArray) (j : Nat), sv = .string T ∧ jv = .int .i64 j ∧ j ≤ z ∧ Hid (BInv 10 m T 0) ∧ Hid (T.size ≠ 0) ∧ T.size ≤ 63 + j) (fun _ jv => z - (intOf jv).toNat)
              case atStart => exact ⟨T, 0, rfl, rfl, Nat.zero_le _, hT.out, H0.out, by omega⟩
              case round =>
                clear hT hz hE H0 h' hgo
                obtain ⟨T, j, rfl, rfl, hj, hT, hz0, hz⟩ := hrel
                by_cases hlt : j < z
                · have hlt' : (j : Int) < (z : Int) := by omega
                  go_wp2_with fail
                  go_round
                  case rel => exact ⟨_, j + 1, rfl, by go_num, by omega, BInv.zero hT.out HB.out, (by show _ ≠ 0; rw [ByteArray.size_append]; show ¬ 1 + _ = 0; omega), (by rw [ByteArray.size_append]; show 1 + _ ≤ _; omega)⟩
                  case measure => simp [intOf]; omega
                · obtain rfl : j = z := by omega
                  have hP := Plain_any T 10 wr (by unfold maxLen; omega)
                  obtain ⟨p1, p2⟩ := hT.out.done (by decide) hz0.out (by omega)
                  rw [show (((10 : Nat) : Int)) = 10 from rfl] at p1 p2
                  rw [p1, p2] at hP
                  have HP := Lib.hid hP
                  have HD := Lib.hid (fun w => Digits_any m w hm63)
                  clear hP p1 p2
                  have hsz := hbl.size
                  go_wp2_with fail
                  refine HP.out.mono ?_
                  rintro e w3 ⟨rfl, hb3⟩
                  go_wp2_with fail
                  refine (HD.out _).mono ?_
                  rintro e w4 ⟨rfl, hb4⟩
                  have hb34 := below_then hb3 hb4
                  go_wp2_with fail
                  go_roundw
                  case rel => exact ⟨2, by omega, by go_num, hbl.trans (hb34.mono hsz)⟩
                  case measure => simp [intOf]
      · have HB : Hid (0 < 16 ∧ 16 ≤ 16) := ⟨by decide, by decide⟩
        go_wp2_with fail
        go_loop [8, 9] (fun sv kv => ∃ (T : ByteArray) (q : Nat), sv = .string T ∧ kv = .int .i64 q ∧ Hid (BInv 16 m T q) ∧ q ≤ m ∧ T.size ≤ 63) (fun sv kv => 2 * (intOf kv).toNat + mz sv)
        case atStart => exact ⟨⟨#[]⟩, m, rfl, rfl, ⟨rfl, (by show m = m * 1 + 0; omega)⟩, Nat.le_refl _, Nat.zero_le _⟩
        case round =>
          obtain ⟨T, q, rfl, rfl, hT, hq, hz⟩ := hrel
          by_cases hgo : 0 < q
          · have HN : Hid (BInv 16 m (⟨#[hexC (q % 16)]⟩ ++ T) (q / 16)) := hT.out.step HB.out
            have hd : q % 16 < 16 := Nat.lt_of_lt_of_le (Nat.mod_lt _ HB.out.1) HB.out.2
            have HC := Lib.hid (hex_cut hd).1
            have hz2 : T.size < 63 := hT.out.small hgo (by decide) (by omega)
            have hq9 : q ≤ 9223372036854775807 := by omega
            have h' : (0 : Int) < (q : Int) := by omega
            go_wp2_with fail
            go_round
            case rel =>
              refine ⟨_, q / 16, rfl, by go_num, ?_, by omega, ?_⟩
              · rw [HC.out]; exact HN.out
              · rw [HC.out, ByteArray.size_append]; show 1 + _ ≤ _; omega
            case measure =>
              have h1 := mz_le (.string ((⟨#[48, 49, 50, 51, 52, 53, 54, 55, 56, 57, 97, 66, 99, 68, 101, 70]⟩ : ByteArray).extract (q % 16) (q % 16 + 1) ++ T))
              simp only [intOf]
              omega
          · obtain rfl : q = 0 := by omega
            have hE := empty_str T
            by_cases h0 : T.size = 0
            · rw [decide_eq_true h0] at hE
              have HN : Hid (BInv 16 m (⟨#[hexC (0 % 16)]⟩ ++ T) (0 / 16)) := hT.out.step HB.out
              have HC := Lib.hid (hex_cut (d := 0 % 16) (by decide)).1
              have h' : ¬ (0 : Int) < 0 := by omega
              have hmz : mz (.string T) = 1 := by rw [mz, if_pos h0]
              clear h0
              go_wp2_with fail
              go_round
              case rel =>
                refine ⟨_, 0, rfl, by go_num, ?_, by omega, ?_⟩
                · have := HC.out
                  simp only [Nat.zero_mod, Nat.zero_add] at this
                  have h2 := HN.out
                  simp only [Nat.zero_mod, Nat.zero_div] at h2
                  rw [this]; exact h2
                · have := HC.out
                  simp only [Nat.zero_mod, Nat.zero_add] at this
                  rw [this, ByteArray.size_append]; show 1 + _ ≤ _
                  have := empty_str T
                  rw [hE] at this
                  have := of_decide_eq_true this.symm
                  omega
              case measure =>
                have hc := HC.out
                simp only [Nat.zero_mod, Nat.zero_add] at hc
                rw [hc]
                have h1 : mz (.string ((⟨#[hexC 0]⟩ : ByteArray) ++ T)) = 0 := by
                  rw [mz, if_neg]; rw [ByteArray.size_append]; show ¬ 1 + _ = 0; omega
                rw [h1, hmz]; simp [intOf]
            · rw [decide_eq_false h0] at hE
              have H0 : Hid (T.size ≠ 0) := h0
              have h' : ¬ (0 : Int) < 0 := by omega
              clear h0
              go_wp2_with fail
              go_loop [8, 11] (fun sv jv => ∃ (T : ByteArray) (j : Nat), sv = .string T ∧ jv = .int .i64 j ∧ j ≤ z ∧ Hid (BInv 16 m T 0) ∧ Hid (T.size ≠ 0) ∧ T.size ≤ 63 + j) (fun _ jv => z - (intOf jv).toNat)
              case atStart => exact ⟨T, 0, rfl, rfl, Nat.zero_le _, hT.out, H0.out, by omega⟩
              case round =>
                clear hT hz hE H0 h' hgo
                obtain ⟨T, j, rfl, rfl, hj, hT, hz0, hz⟩ := hrel
                by_cases hlt : j < z
                · have hlt' : (j : Int) < (z : Int) := by omega
                  go_wp2_with fail
                  go_round
                  case rel => exact ⟨_, j + 1, rfl, by go_num, by omega, BInv.zero hT.out HB.out, (by show _ ≠ 0; rw [ByteArray.size_append]; show ¬ 1 + _ = 0; omega), (by rw [ByteArray.size_append]; show 1 + _ ≤ _; omega)⟩
                  case measure => simp [intOf]; omega
                · obtain rfl : j = z := by omega
                  have hP := Plain_any T 16 wr (by unfold maxLen; omega)
                  obtain ⟨p1, p2⟩ := hT.out.done (by decide) hz0.out (by omega)
                  rw [show (((16 : Nat) : Int)) = 16 from rfl] at p1 p2
                  rw [p1, p2] at hP
                  have HP := Lib.hid hP
                  have HD := Lib.hid (fun w => Digits_any m w hm63)
                  clear hP p1 p2
                  have hsz := hbl.size
                  go_wp2_with fail
                  refine HP.out.mono ?_
                  rintro e w3 ⟨rfl, hb3⟩
                  go_wp2_with fail
                  refine (HD.out _).mono ?_
                  rintro e w4 ⟨rfl, hb4⟩
                  have hb34 := below_then hb3 hb4
                  go_wp2_with fail
                  go_roundw
                  case rel => exact ⟨3, by omega, by go_num, hbl.trans (hb34.mono hsz)⟩
                  case measure => simp [intOf]
      · go_wp2_with fail
        go_ret
        exact ⟨rfl, hbwV.trans (hbl.mono hbwV.size)⟩
  · have hout : n < 0 ∨ (¬ n < 0 ∧ zs < 0) ∨ (¬ n < 0 ∧ ¬ zs < 0 ∧ 50 < zs) := by omega
    clear hin
    rcases hout with h1 | ⟨h1, h2⟩ | ⟨h1, h2, h3⟩
    all_goals
      go_wp2_with fail
      go_ret
      exact ⟨rfl, hb1⟩
end Go.Proofs.YtdnmllklceaknaaDoor
