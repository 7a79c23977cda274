/- Plain facts on decimal texts: what number they are, and their order. No condition. -/
import Derived.Test.YtdnmllklceaknaaDoorDgL
namespace Go.Proofs.YtdnmllklceaknaaDoor
open Dig
theorem hexN_chB {d : Nat} (h : d < 10) : hexD 10 (chB d) = true ∧ hexN (chB d) = d := by
  have e := chB_toNat h
  have h1 : hexD 10 (chB d) = true := by rw [hexD_ten, decide_eq_true_eq, e]; omega
  refine ⟨h1, ?_⟩
  have := hexN_ten h1
  rw [e] at this; omega
theorem val_lt : ∀ {l : List Nat}, Ok l → val l < 10 ^ l.length
  | [], _ => by simp [val]
  | d :: l, h => by
    have h1 := val_lt (l := l) fun x hx => h x (by simp [hx])
    have h2 := h d (by simp)
    simp only [val, List.length_cons, Nat.pow_succ]
    omega
theorem valS_lt (s : ByteArray) : valS s < 10 ^ s.size := by
  have h := val_lt (ofL_ok s)
  have hl : (ofL s).length ≤ s.size := by
    unfold ofL; split
    · simp
    · simp
  exact Nat.lt_of_lt_of_le h (Nat.pow_le_pow_right (by decide) hl)
theorem decRev_length (f : Nat) : ∀ n k, n < 10 ^ (k + 1) → (decRev f n).length ≤ k + 1 := by
  induction f with
  | zero => intro n k _; simp [decRev]
  | succ f ih =>
    intro n k h
    unfold decRev
    split
    · simp
    · rename_i hn
      match k, h with
      | 0, h => simp at h; omega
      | k + 1, h =>
        have := ih (n / 10) k (by rw [Nat.pow_succ] at h; omega)
        simp only [List.length_cons]; omega
theorem decS_len {n k : Nat} (h : n < 10 ^ (k + 1)) : (decS n).size ≤ k + 1 := by
  have := decRev_length (n + 1) n k h
  show ((dec n).map _).toArray.size ≤ _
  simpa [dec] using this
theorem dec_ok (n : Nat) : Ok (dec n) := fun d hd => decRev_ok (n + 1) n d (by simpa [dec] using hd)
theorem map_hexN : ∀ {l : List Nat}, Ok l → (l.map chB).map hexN = l ∧ (l.map chB).all (hexD 10) = true
  | [], _ => ⟨rfl, rfl⟩
  | d :: l, h => by
    obtain ⟨h1, h2⟩ := map_hexN (l := l) fun x hx => h x (by simp [hx])
    obtain ⟨h3, h4⟩ := hexN_chB (h d (by simp))
    refine ⟨by rw [List.map_cons, List.map_cons, h4, h1], ?_⟩
    rw [List.map_cons, List.all_cons, h3, h2]; rfl
theorem valS_dec {n : Nat} (h : (decS n).size ≤ 5000) : valS (decS n) = n := by
  obtain ⟨h1, h2⟩ := map_hexN (dec_ok n)
  have e : (decS n).data.toList = (dec n).map chB := by show ((dec n).map chB).toArray.toList = _; simp
  rw [valS, ofL, if_pos ⟨h, by rw [e]; exact h2⟩, e, List.map_reverse, h1, dec, List.reverse_reverse]
  exact decRev_val _ _ (by omega)
/-- A number, its greatest digit first. -/
def numB : List Nat → Nat
  | [] => 0
  | d :: l => d * 10 ^ l.length + numB l
theorem numB_rev : ∀ l : List Nat, numB l = val l.reverse
  | [] => rfl
  | d :: l => by
    rw [List.reverse_cons, val_append, numB, numB_rev l]
    simp [val, Nat.mul_comm]; omega
theorem numB_dec (n : Nat) : numB (dec n) = n := by
  rw [numB_rev, dec, List.reverse_reverse]; exact decRev_val _ _ (by omega)
theorem numB_lt : ∀ {l : List Nat}, Ok l → numB l < 10 ^ l.length
  | [], _ => by simp [numB]
  | d :: l, h => by
    have h1 := numB_lt (l := l) fun x hx => h x (by simp [hx])
    have h2 := h d (by simp)
    simp only [numB, List.length_cons, Nat.pow_succ]
    have : d * 10 ^ l.length ≤ 9 * 10 ^ l.length := Nat.mul_le_mul_right _ (by omega)
    omega
theorem chB_lt {a b : Nat} (ha : a < 10) (hb : b < 10) : decide (chB a < chB b) = decide (a < b) ∧ (chB a == chB b) = (a == b) := by
  have h1 := chB_toNat ha
  have h2 := chB_toNat hb
  refine ⟨?_, ?_⟩
  · rw [Bool.eq_iff_iff]; simp only [decide_eq_true_eq, UInt8.lt_iff_toNat_lt]; omega
  · rw [Bool.eq_iff_iff]; simp only [beq_iff_eq]
    constructor
    · intro e; have := congrArg UInt8.toNat e; omega
    · rintro rfl; rfl
theorem less_digits : ∀ {u v : List Nat}, Ok u → Ok v → u.length = v.length → Op.bytesLess (u.map chB) (v.map chB) = decide (numB u < numB v)
  | [], [], _, _, _ => by simp [Op.bytesLess, numB]
  | [], _ :: _, _, _, h => by simp at h
  | _ :: _, [], _, _, h => by simp at h
  | a :: u, b :: v, hu, hv, h => by
    have ha := hu a (by simp)
    have hb := hv b (by simp)
    have hu' : Ok u := fun x hx => hu x (by simp [hx])
    have hv' : Ok v := fun x hx => hv x (by simp [hx])
    have hl : u.length = v.length := by simpa using h
    have ih := less_digits hu' hv' hl
    obtain ⟨c1, c2⟩ := chB_lt ha hb
    have n1 := numB_lt hu'
    have n2 := numB_lt hv'
    simp only [List.map_cons, Op.bytesLess, numB, c1, c2, ih, hl]
    rw [hl] at n1
    obtain ⟨p, hp⟩ : ∃ p, 10 ^ v.length = p := ⟨_, rfl⟩
    rw [hp] at n1 n2 ⊢
    rcases Nat.lt_trichotomy a b with h1 | h1 | h1
    · have : (a + 1) * p ≤ b * p := Nat.mul_le_mul_right _ h1
      rw [Nat.add_mul] at this
      rw [decide_eq_true h1, decide_eq_true (show a * p + numB u < b * p + numB v by omega)]; rfl
    · subst h1
      rw [decide_eq_false (Nat.lt_irrefl a), Bool.eq_iff_iff]
      simp
    · have : (b + 1) * p ≤ a * p := Nat.mul_le_mul_right _ h1
      rw [Nat.add_mul] at this
      rw [decide_eq_false (show ¬ a < b by omega), decide_eq_false (show ¬ a * p + numB u < b * p + numB v by omega), beq_eq_false_iff_ne.2 (by omega)]; rfl
theorem dec_pos (n : Nat) : 1 ≤ (dec n).length := by
  have : (dec n).length = (decRev (n + 1) n).length := by simp [dec]
  rw [this]; unfold decRev; split <;> simp
theorem dec_low {n k : Nat} (h : k + 2 ≤ (dec n).length) : 10 ^ (k + 1) ≤ n := by
  rcases Nat.lt_or_ge n (10 ^ (k + 1)) with h1 | h1
  · have h2 := decRev_length (n + 1) n k h1
    have : (dec n).length = (decRev (n + 1) n).length := by simp [dec]
    omega
  · exact h1
theorem decS_size_eq (n : Nat) : (decS n).size = (dec n).length := by show ((dec n).map chB).toArray.size = _; simp
theorem decS_list (n : Nat) : (decS n).toList = (dec n).map chB := by
  rw [Lib.toList_data]; show ((dec n).map chB).toArray.toList = _; simp
theorem shorter {a b : Nat} (h : (dec a).length < (dec b).length) : a < b := by
  have h1 := dec_pos a
  obtain ⟨k, hk⟩ : ∃ k, (dec b).length = k + 2 := ⟨(dec b).length - 2, by omega⟩
  have h2 := dec_low (n := b) (k := k) (by omega)
  have h3 := numB_lt (dec_ok a)
  rw [numB_dec] at h3
  have h4 : 10 ^ (dec a).length ≤ 10 ^ (k + 1) := Nat.pow_le_pow_right (by decide) (by omega)
  omega
theorem lessS_dec (a b : Nat) : lessS (decS a) (decS b) = decide (a < b) := by
  rw [lessS, decS_size_eq, decS_size_eq, decS_list, decS_list]
  rcases Nat.lt_trichotomy (dec a).length (dec b).length with h | h | h
  · rw [decide_eq_true h, decide_eq_true (shorter h)]; rfl
  · rw [less_digits (dec_ok a) (dec_ok b) h, numB_dec, numB_dec, h]
    simp
  · have := shorter h
    rw [decide_eq_false (by omega), decide_eq_false (show ¬ a < b by omega), beq_eq_false_iff_ne.2 (by omega)]; rfl
end Go.Proofs.YtdnmllklceaknaaDoor
