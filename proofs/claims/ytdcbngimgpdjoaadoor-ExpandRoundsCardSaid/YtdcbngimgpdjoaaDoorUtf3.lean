/- Code points of a text of URI signs are its bytes: plain Lean. No condition. -/
import Derived.Test.YtdcbngimgpdjoaaDoorUtf2
import Derived.Test.YtdcbngimgpdjoaaDoorGv
namespace Go.Proofs.YtdcbngimgpdjoaaDoor
open Go.RowKit Go.Lib
theorem sign_small {l : List Int} (h : signN l ≠ 0) : ∀ k, k < signN l → nth l k < 128 := by
  have hw : ∀ x, wordB x = true → x < 128 := fun x hx => by simp [wordB] at hx; omega
  have ha : ∀ x, amongB uriL x = true → x < 128 := fun x hx => by
    unfold amongB at hx
    obtain ⟨b, hb, he⟩ := List.any_eq_true.1 hx
    have h2 : ∀ b ∈ uriL, b.toNat < 128 := by decide
    have := h2 b hb
    simp at he
    omega
  have hh : ∀ x, 0 ≤ hexI x → x < 128 := fun x hx => by unfold hexI at hx; split at hx <;> (try split at hx) <;> (try split at hx) <;> omega
  intro k hk
  unfold signN at h hk
  split at h
  · exact absurd rfl h
  · rename_i h0
    rw [if_neg h0] at hk
    split at h
    · rename_i h1
      rw [if_pos h1] at hk
      split at h
      · rename_i h2
        rw [if_pos h2] at hk
        match k, hk with
        | 0, _ => omega
        | 1, _ => exact hh _ h2.2.1
        | 2, _ => exact hh _ h2.2.2
        | k + 3, hk => omega
      · exact absurd rfl h
    · rename_i h1
      rw [if_neg h1] at hk
      split at h
      · rename_i h2
        rw [if_pos h2] at hk
        obtain rfl : k = 0 := by omega
        rcases h2 with h2 | h2
        · exact hw _ h2
        · exact ha _ h2
      · exact absurd rfl h
theorem validS_small : ∀ (n : Nat) (l : List Int), l.length ≤ n → validS l = true → ∀ x ∈ l, x < 128 := by
  intro n
  induction n with
  | zero =>
    intro l hl _ x hx
    obtain rfl : l = [] := List.length_eq_zero_iff.1 (by omega)
    cases hx
  | succ n ih =>
    intro l hl hv x hx
    by_cases h0 : signN l = 0
    · rw [validS_stop h0] at hv
      have : l = [] := by simpa using hv
      subst this
      cases hx
    · rw [validS_step h0] at hv
      obtain ⟨k, hk, rfl⟩ := List.mem_iff_getElem.1 hx
      by_cases hlt : k < signN l
      · have := sign_small h0 k hlt
        rwa [nth_eq hk] at this
      · refine ih (l.drop (signN l)) (by rw [List.length_drop]; omega) hv _ ?_
        have : l[k] = (l.drop (signN l))[k - signN l]'(by rw [List.length_drop]; omega) := by
          rw [List.getElem_drop]; congr 1; omega
        rw [this]
        exact List.getElem_mem _
theorem pt_ascii {s : ByteArray} {i : Nat} (h : (s.get! i).toNat < 128) : ptAt s i = ((s.get! i).toNat, 1) := by
  rw [ptAt, decode_at, dec1 h, if_neg (by simp; omega)]
theorem pt_small {s : ByteArray} {i : Nat} (hn : (ptAt s i).2 ≠ 0) (h : (ptAt s i).1 < 128) : (s.get! i).toNat < 128 := by
  obtain ⟨g1, g2⟩ := pt_good hn
  rw [g2, decode_at] at h
  rw [decode_at] at g1
  rcases decodeN_shape (s.size - i) (s.get! i).toNat (s.get! (i + 1)).toNat (s.get! (i + 2)).toNat (s.get! (i + 3)).toNat with ⟨c, e⟩ | ⟨c1, c2, c3, cv, e⟩ | ⟨c1, c2, c3, c4, cv, cs, e⟩ | ⟨c1, c2, c3, c4, c5, cv, cw, e⟩ | e
  · exact c
  · rw [e] at h; simp only at h; omega
  · rw [e] at h; simp only at h; omega
  · rw [e] at h; simp only at h; omega
  · exact absurd e g1
theorem bytesI_get {s : ByteArray} {k : Nat} (h : k < s.size) : s[k].toNat = (s.get! k).toNat := by
  have h2 : k < s.data.size := h
  show s.data[k].toNat = _
  simp [ByteArray.get!, getElem!_def]
  rw [Array.getElem?_eq_getElem h2]
theorem Dec.ascii {s : ByteArray} {i : Nat} {l : List Int} (h : Dec s i l) (ha : (∀ x ∈ l, x < 128) ∨ (∀ k, k < s.size → (s.get! k).toNat < 128)) : (∀ k, k < i → (s.get! k).toNat < 128) ∧ l = (bytesI s).take i := by
  induction h with
  | nil => exact ⟨fun k hk => by omega, by simp⟩
  | @step i l _ hi hn ih =>
    obtain ⟨h1, h2⟩ := ih (ha.imp (fun h x hx => h x (List.mem_append_left _ hx)) id)
    have hb : (s.get! i).toNat < 128 := by
      rcases ha with ha | ha
      · exact pt_small hn (by have := ha _ (List.mem_append_right _ (List.mem_singleton_self _)); omega)
      · exact ha i hi
    have hp := pt_ascii hb
    rw [hp]
    refine ⟨fun k hk => ?_, ?_⟩
    · by_cases e : k = i
      · rw [e]; exact hb
      · exact h1 k (by simp only at hk; omega)
    · rw [h2, bytesI_take s hi, bytesI_get hi]
/-- Is a text, by its code points, one of URI signs? -/
theorem valid_eq {s : ByteArray} {l : List Int} (h : Dec s s.size l) : (decide (l.length ≠ 0) && validS l) = tagB s := by
  have hbl := bytesI_len s
  have hall : ∀ (l' : List Int), l' = (bytesI s).take s.size → l' = bytesI s := fun l' h' => by rw [h', List.take_of_length_le (by rw [hbl]; exact Nat.le_refl _)]
  have key : validS l = validS (bytesI s) ∧ (l.length = 0 ↔ s.size = 0) := by
    have hz : l.length = 0 ↔ s.size = 0 := by
      refine ⟨fun h0 => ?_, fun h0 => by have := h.valid.2.2; omega⟩
      have : l = [] := List.length_eq_zero_iff.1 h0
      subst this
      have := (h.ascii (.inl (by simp))).2
      have h3 := hall _ this
      rw [← hbl, ← h3]; rfl
    refine ⟨?_, hz⟩
    by_cases hv : validS l = true
    · have := hall _ (h.ascii (.inl (validS_small _ l (Nat.le_refl _) hv))).2
      rw [← this]
    · have hv' : validS l = false := by simpa using hv
      rw [hv']
      by_cases hw : validS (bytesI s) = true
      · have hs := validS_small _ _ (Nat.le_refl _) hw
        have := hall _ (h.ascii (.inr fun k hk => by
          have := hs (s[k].toNat : Int) (List.mem_map.2 ⟨s[k], by simp [ByteArray.getElem_eq_getElem_data], rfl⟩)
          rw [bytesI_get hk] at this
          omega)).2
        rw [this] at hv
        exact absurd hw hv
      · symm; simpa using hw
  rw [tagB, key.1]
  by_cases e : s.size = 0
  · have : l.length = 0 := key.2.2 e
    simp [e, this]
  · have : l.length ≠ 0 := fun h => e (key.2.1 h)
    simp [e, this]
theorem valid_not {s : ByteArray} (h : validD s.data.toList = false) : tagB s = false := by
  rw [tagB]
  by_cases hw : validS (bytesI s) = true
  · have hs := validS_small _ _ (Nat.le_refl _) hw
    have := validD_ascii s.data.toList.length s.data.toList (fun b hb => by
      have := hs (b.toNat : Int) (List.mem_map.2 ⟨b, List.mem_of_mem_take hb, rfl⟩)
      omega)
    rw [List.drop_length, h] at this
    cases this
  · simp only [Bool.not_eq_true] at hw
    rw [hw, Bool.and_false]
end Go.Proofs.YtdcbngimgpdjoaaDoor
