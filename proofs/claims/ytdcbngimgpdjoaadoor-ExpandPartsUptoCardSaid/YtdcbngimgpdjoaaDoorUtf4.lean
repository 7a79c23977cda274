/- The walks of the reference's small and Text. Condition: a text is no longer than a million bytes. -/
import Derived.Test.YtdcbngimgpdjoaaDoorUtf1
import Derived.Test.YtdcbngimgpdjoaaDoorGv
import Derived.Lib.ConvBytes
import Derived.Lib.ValidLaws
namespace Go.Proofs.YtdcbngimgpdjoaaDoor
open Go.RowKit Go.Lib
/-- The code points of a text up to a place. -/
inductive Dec (s : ByteArray) : Nat → List Int → Prop
  | nil : Dec s 0 []
  | step {i : Nat} {l : List Int} : Dec s i l → i < s.size → (ptAt s i).2 ≠ 0 → Dec s (i + (ptAt s i).2) (l ++ [((ptAt s i).1 : Int)])
theorem pt_good {s : ByteArray} {i : Nat} (h : (ptAt s i).2 ≠ 0) : Utf8.decode s i ≠ (65533, 1) ∧ ptAt s i = Utf8.decode s i := by
  by_cases e : Utf8.decode s i = (65533, 1)
  · rw [ptAt, if_pos e] at h; exact absurd rfl h
  · exact ⟨e, by rw [ptAt, if_neg e]⟩
theorem pt_bad {s : ByteArray} {i : Nat} (h : (ptAt s i).2 = 0) : Utf8.decode s i = (65533, 1) := by
  by_cases e : Utf8.decode s i = (65533, 1)
  · exact e
  · rw [ptAt, if_neg e, ← decodeL_drop] at h
    have := decodeL_width (s.data.toList.drop i)
    omega
theorem drop_ne {s : ByteArray} {i : Nat} (h : i < s.size) : s.data.toList.drop i ≠ [] := by
  intro e
  have := congrArg List.length e
  simp at this
  have h2 : s.data.size = s.size := rfl
  omega
theorem Dec.valid {s : ByteArray} {i : Nat} {l : List Int} (h : Dec s i l) : i ≤ s.size ∧ validD s.data.toList = validD (s.data.toList.drop i) ∧ l.length ≤ i := by
  induction h with
  | nil => exact ⟨Nat.zero_le _, rfl, Nat.le_refl _⟩
  | @step i l _ hi hn ih =>
    obtain ⟨g1, g2⟩ := pt_good hn
    have hne := drop_ne hi
    have hle := decodeL_le _ hne
    rw [decodeL_drop, List.length_drop, Array.length_toList] at hle
    have h2 : s.data.size = s.size := rfl
    refine ⟨by rw [g2]; omega, ?_, by simp; omega⟩
    rw [ih.2.1, validD_step _ hne, decodeL_drop, if_neg (fun h => g1 (Prod.ext h.1 h.2)), List.drop_drop, g2]
theorem Dec.bad {s : ByteArray} {i : Nat} {l : List Int} (h : Dec s i l) (hi : i < s.size) (hn : (ptAt s i).2 = 0) : validD s.data.toList = false := by
  rw [h.valid.2.1, validD_step _ (drop_ne hi), decodeL_drop, pt_bad hn]
  rfl
theorem Dec.full {s : ByteArray} {l : List Int} (h : Dec s s.size l) : validD s.data.toList = true := by
  rw [h.valid.2.1, List.drop_of_length_le (by rw [Array.length_toList]; exact Nat.le_refl _)]
  rfl
/-- What Text tells: the code points, and whether the text is valid. -/
def TextR (s : ByteArray) (w : World) (e : Ending) (w' : World) : Prop := ∃ u v, e = .returned (.tuple #[u, .bool v]) ∧ v = validD s.data.toList ∧ (v = true → ∃ A' c l, u = .slice A' l.length c ∧ Dec s s.size l ∧ IntsAt w' w'.heap.size A' l) ∧ Below w.heap.size w w'
set_option maxRecDepth 100000 in
set_option maxHeartbeats 2000000 in
theorem small_any (s : ByteArray) (A : Option Addr) (cap : Nat) (w : World) (hs : s.size ≤ 1000000) (hcap : s.size ≤ cap) (hA : 0 < s.size → ∃ b, A = some ⟨b, 0, none⟩ ∧ b < w.heap.size ∧ BytesAt w b s) :
    Calls Tryd.prog 84 #[.slice A s.size cap] w (TextR s w) := by
  have Hs := Lib.hid hs
  have HA := Lib.hid hA
  clear hA
  go_enter Tryd.func84, Tryd.ntmps84
  go_wp2_with fail
  go_loopw [4, 5] (fun out i wr => ∃ (k : Nat) (l : List Int), k ≤ s.size ∧ i = .int .i64 (k : Int) ∧ ZOwn wr w.heap.size out l ∧ Hid (Dec s k l) ∧ Below w.heap.size w wr) (fun _ i _ => s.size - (intOf i).toNat)
  case atStart => exact ⟨0, [], Nat.zero_le _, rfl, .empty _ _, .nil, Below.refl _ _⟩
  case round =>
    obtain ⟨k, l, hk, rfl, hz, hd, hb⟩ := hrel
    by_cases hks : k < s.size
    · have hks' : (k : Int) < (s.size : Int) := by omega
      obtain ⟨b, rfl, hbl, hB⟩ := HA.out (by omega)
      have hBr : BytesAt wr b s := fun j hj => (hb.cell (p := ⟨b, j, none⟩) hbl).trans (hB j hj)
      have HP : Hid (Calls Tryd.prog 90 #[.slice (some ⟨b, k, none⟩) (s.size - k) (cap - k)] wr fun e w' => e = .returned (.tuple #[.int .i64 ((ptAt s k).1 : Nat), .int .i64 ((ptAt s k).2 : Nat)]) ∧ wr = w') := point_any s k (cap - k) b wr (by omega) hks hBr
      have hkc : k < cap := by omega
      have hdv := hd.out.valid
      have HBad : Hid ((ptAt s k).2 = 0 → validD s.data.toList = false) := fun h => hd.out.bad hks h
      have HNext : Hid ((ptAt s k).2 ≠ 0 → Dec s (k + (ptAt s k).2) (l ++ [((ptAt s k).1 : Int)])) := fun h => .step hd.out hks h
      have hll : l.length ≤ 1000000000 := by omega
      obtain ⟨c, hc⟩ : ∃ c, (ptAt s k).1 = c := ⟨_, rfl⟩
      obtain ⟨n, hn⟩ : ∃ n, (ptAt s k).2 = n := ⟨_, rfl⟩
      rw [hc, hn] at HP HNext
      rw [hn] at HBad
      have Hb := Lib.hid hb
      have hsz := hb.size
      have Hhk := Lib.hid hks
      clear hc hn hBr hB hbl hdv HA hd hb hk hs
      by_cases h0 : n = 0
      · subst h0
        have HV := Lib.hid (HBad.out rfl)
        clear HBad HNext
        go_wp2_with (go_at_call 90; refine HP.out.mono ?_; rintro e w' ⟨rfl, rfl⟩)
        go_ret2
        exact ⟨_, _, rfl, HV.out.symm, fun h => (by cases h), Hb.out⟩
      · have h0' : ((n : Int) == 0) = false := beq_eq_false_iff_ne.2 (by omega)
        have HD := Lib.hid (HNext.out h0)
        have hv := HD.out.valid.1
        have HV := Lib.hid hv
        have H0 := Lib.hid h0
        have HW : Hid (wrap64 ((k : Int) + (n : Int)) = k + n) := IntWalk.wrap64_in _ (by have := HV.out; have := Hs.out; omega)
        have hmz : ∀ z : Int, z = k + n → s.size - (intOf (.int .i64 z)).toNat < s.size - (intOf (.int .i64 (k : Int))).toNat := by intro z hz; subst hz; have := H0.out; have := Hhk.out; simp only [intOf]; omega
        clear HBad HNext hv h0
        go_wp2_with (first
          | (at_builtin; refine wpList_appZ rfl _ _ _ rfl rfl w.heap.size u4 l c rfl hz _ rfl rfl hll hsz ?_; intro v' w' hz' hb'; have Hb' := Lib.hid hb'; clear hb')
          | (go_at_call 90; refine HP.out.mono ?_; rintro e w' ⟨rfl, rfl⟩))
        exact ⟨⟨k + n, l ++ [(c : Int)], HV.out, congrArg (Value.int .i64) (HW.out.trans (by simp)), hz', HD, Hb.out.trans Hb'.out⟩, hmz _ HW.out⟩
    · obtain rfl : k = s.size := by omega
      have hks' : ¬ (s.size : Int) < (s.size : Int) := by omega
      have HV := Lib.hid hd.out.full
      obtain ⟨A', c', rfl, h1, h2, h3⟩ := hz.form
      have H2 := Lib.hid h2
      have Hb := Lib.hid hb
      clear h2 hb
      go_wp2_with fail
      go_ret2
      exact ⟨.slice A' l.length c', true, rfl, HV.out.symm, fun _ => ⟨A', c', l, rfl, hd.out, H2.out⟩, Hb.out⟩
theorem bytes_newT (w : World) (s : ByteArray) : ∃ W, Lib.bytesWorld w 5 s = W ∧ Below w.heap.size w W ∧ W.heap.size = w.heap.size + 1 ∧ BytesAt W w.heap.size s := by
  refine ⟨_, rfl, ?_, Lib.bytesWorld_size w _ s, fun k h => ?_⟩
  · exact Lib.below_freeze (((Below.refl _ w).drew).alloc (Nat.le_refl _) _) (p := ⟨w.heap.size, _, none⟩) (Nat.le_refl _) _
  · rw [Lib.bytesWorld_cell w _ s k h]
    have h2 : k < s.data.size := h
    simp [ByteArray.get!, getElem!_def]
    rw [Array.getElem?_eq_getElem h2]
    rfl
set_option maxRecDepth 100000 in
set_option maxHeartbeats 2000000 in
theorem Text_any (s : ByteArray) (w : World) (hs : s.size ≤ 1000000) :
    Calls Tryd.prog 79 #[.string s] w (TextR s w) := by
  have hcv := Lib.run_convert_string_bytes (P := Tryd.prog) w 9 92 5 s Tryd.underlying9 Tryd.underlying92 Tryd.underlying5
  obtain ⟨W, hW, hbW, hsW, hB⟩ := bytes_newT w s
  rw [hW] at hcv
  have HS : Hid (Calls Tryd.prog 84 #[.slice (some ⟨w.heap.size, 0, none⟩) s.size (grownCap w s.size 0 5)] W (TextR s W)) :=
    small_any s _ _ W hs (grownCap_ge w s.size 0 5) fun _ => ⟨_, rfl, by omega, hB⟩
  have HbW := Lib.hid hbW
  clear hW hbW hsW hB hs
  go_enter Tryd.func79, Tryd.ntmps79
  go_wp2_with (go_at_call 84; refine HS.out.mono ?_; rintro e w' ⟨u, v, rfl, hv, hl, hb⟩; have HX := Lib.hid (And.intro hv (And.intro hl (below_then HbW.out hb))); clear hv hl hb)
  go_ret2
  exact ⟨u, v, rfl, HX.out.1, HX.out.2.1, HX.out.2.2⟩
end Go.Proofs.YtdcbngimgpdjoaaDoor
/- Code points of a text of URI signs are its bytes: plain Lean. No condition. -/
namespace Go.Proofs.YtdcbngimgpdjoaaDoor
open Go.RowKit Go.Lib
theorem sign_small {l : List Int} (h : signN l ≠ 0) : ∀ k, k < signN l → nth l k < 128 := by
  have hw : ∀ x, wordB x = true → x < 128 := fun x hx => by simp [wordB] at hx; omega
  have ha : ∀ x, amongB uriL x = true → x < 128 := fun x hx => by
    unfold amongB at hx
    obtain ⟨b, hb, he⟩ := List.any_eq_true.1 hx
    have h2 : ∀ b ∈ uriL, b.toNat < 128 := by decide
    have := h2 b hb
    simp at he
    omega
  have hh : ∀ x, 0 ≤ hexI x → x < 128 := fun x hx => by unfold hexI at hx; split at hx <;> (try split at hx) <;> (try split at hx) <;> omega
  intro k hk
  unfold signN at h hk
  split at h
  · exact absurd rfl h
  · rename_i h0
    rw [if_neg h0] at hk
    split at h
    · rename_i h1
      rw [if_pos h1] at hk
      split at h
      · rename_i h2
        rw [if_pos h2] at hk
        match k, hk with
        | 0, _ => omega
        | 1, _ => exact hh _ h2.2.1
        | 2, _ => exact hh _ h2.2.2
        | k + 3, hk => omega
      · exact absurd rfl h
    · rename_i h1
      rw [if_neg h1] at hk
      split at h
      · rename_i h2
        rw [if_pos h2] at hk
        obtain rfl : k = 0 := by omega
        rcases h2 with h2 | h2
        · exact hw _ h2
        · exact ha _ h2
      · exact absurd rfl h
theorem validS_small : ∀ (n : Nat) (l : List Int), l.length ≤ n → validS l = true → ∀ x ∈ l, x < 128 := by
  intro n
  induction n with
  | zero =>
    intro l hl _ x hx
    obtain rfl : l = [] := List.length_eq_zero_iff.1 (by omega)
    cases hx
  | succ n ih =>
    intro l hl hv x hx
    by_cases h0 : signN l = 0
    · rw [validS_stop h0] at hv
      have : l = [] := by simpa using hv
      subst this
      cases hx
    · rw [validS_step h0] at hv
      obtain ⟨k, hk, rfl⟩ := List.mem_iff_getElem.1 hx
      by_cases hlt : k < signN l
      · have := sign_small h0 k hlt
        rwa [nth_eq hk] at this
      · refine ih (l.drop (signN l)) (by rw [List.length_drop]; omega) hv _ ?_
        have : l[k] = (l.drop (signN l))[k - signN l]'(by rw [List.length_drop]; omega) := by
          rw [List.getElem_drop]; congr 1; omega
        rw [this]
        exact List.getElem_mem _
theorem pt_ascii {s : ByteArray} {i : Nat} (h : (s.get! i).toNat < 128) : ptAt s i = ((s.get! i).toNat, 1) := by
  rw [ptAt, decode_at, dec1 h, if_neg (by simp; omega)]
theorem pt_small {s : ByteArray} {i : Nat} (hn : (ptAt s i).2 ≠ 0) (h : (ptAt s i).1 < 128) : (s.get! i).toNat < 128 := by
  obtain ⟨g1, g2⟩ := pt_good hn
  rw [g2, decode_at] at h
  rw [decode_at] at g1
  rcases decodeN_shape (s.size - i) (s.get! i).toNat (s.get! (i + 1)).toNat (s.get! (i + 2)).toNat (s.get! (i + 3)).toNat with ⟨c, e⟩ | ⟨c1, c2, c3, cv, e⟩ | ⟨c1, c2, c3, c4, cv, cs, e⟩ | ⟨c1, c2, c3, c4, c5, cv, cw, e⟩ | e
  · exact c
  · rw [e] at h; simp only at h; omega
  · rw [e] at h; simp only at h; omega
  · rw [e] at h; simp only at h; omega
  · exact absurd e g1
theorem bytesI_get {s : ByteArray} {k : Nat} (h : k < s.size) : s[k].toNat = (s.get! k).toNat := by
  have h2 : k < s.data.size := h
  show s.data[k].toNat = _
  simp [ByteArray.get!, getElem!_def]
  rw [Array.getElem?_eq_getElem h2]
theorem Dec.ascii {s : ByteArray} {i : Nat} {l : List Int} (h : Dec s i l) (ha : (∀ x ∈ l, x < 128) ∨ (∀ k, k < s.size → (s.get! k).toNat < 128)) : (∀ k, k < i → (s.get! k).toNat < 128) ∧ l = (bytesI s).take i := by
  induction h with
  | nil => exact ⟨fun k hk => by omega, by simp⟩
  | @step i l _ hi hn ih =>
    obtain ⟨h1, h2⟩ := ih (ha.imp (fun h x hx => h x (List.mem_append_left _ hx)) id)
    have hb : (s.get! i).toNat < 128 := by
      rcases ha with ha | ha
      · exact pt_small hn (by have := ha _ (List.mem_append_right _ (List.mem_singleton_self _)); omega)
      · exact ha i hi
    have hp := pt_ascii hb
    rw [hp]
    refine ⟨fun k hk => ?_, ?_⟩
    · by_cases e : k = i
      · rw [e]; exact hb
      · exact h1 k (by simp only at hk; omega)
    · rw [h2, bytesI_take s hi, bytesI_get hi]
/-- Is a text, by its code points, one of URI signs? -/
theorem valid_eq {s : ByteArray} {l : List Int} (h : Dec s s.size l) : (decide (l.length ≠ 0) && validS l) = tagB s := by
  have hbl := bytesI_len s
  have hall : ∀ (l' : List Int), l' = (bytesI s).take s.size → l' = bytesI s := fun l' h' => by rw [h', List.take_of_length_le (by rw [hbl]; exact Nat.le_refl _)]
  have key : validS l = validS (bytesI s) ∧ (l.length = 0 ↔ s.size = 0) := by
    have hz : l.length = 0 ↔ s.size = 0 := by
      refine ⟨fun h0 => ?_, fun h0 => by have := h.valid.2.2; omega⟩
      have : l = [] := List.length_eq_zero_iff.1 h0
      subst this
      have := (h.ascii (.inl (by simp))).2
      have h3 := hall _ this
      rw [← hbl, ← h3]; rfl
    refine ⟨?_, hz⟩
    by_cases hv : validS l = true
    · have := hall _ (h.ascii (.inl (validS_small _ l (Nat.le_refl _) hv))).2
      rw [← this]
    · have hv' : validS l = false := by simpa using hv
      rw [hv']
      by_cases hw : validS (bytesI s) = true
      · have hs := validS_small _ _ (Nat.le_refl _) hw
        have := hall _ (h.ascii (.inr fun k hk => by
          have := hs (s[k].toNat : Int) (List.mem_map.2 ⟨s[k], by simp [ByteArray.getElem_eq_getElem_data], rfl⟩)
          rw [bytesI_get hk] at this
          omega)).2
        rw [this] at hv
        exact absurd hw hv
      · symm; simpa using hw
  rw [tagB, key.1]
  by_cases e : s.size = 0
  · have : l.length = 0 := key.2.2 e
    simp [e, this]
  · have : l.length ≠ 0 := fun h => e (key.2.1 h)
    simp [e, this]
theorem valid_not {s : ByteArray} (h : validD s.data.toList = false) : tagB s = false := by
  rw [tagB]
  by_cases hw : validS (bytesI s) = true
  · have hs := validS_small _ _ (Nat.le_refl _) hw
    have := validD_ascii s.data.toList.length s.data.toList (fun b hb => by
      have := hs (b.toNat : Int) (List.mem_map.2 ⟨b, List.mem_of_mem_take hb, rfl⟩)
      omega)
    rw [List.drop_length, h] at this
    cases this
  · simp only [Bool.not_eq_true] at hw
    rw [hw, Bool.and_false]
end Go.Proofs.YtdcbngimgpdjoaaDoor
/- The walks of the reference's uri and Valid. Condition: a text is no longer than a million bytes. -/
namespace Go.Proofs.YtdcbngimgpdjoaaDoor
open Go.RowKit Go.Lib
theorem nth_drop (l : List Int) (i k : Nat) : nth (l.drop i) k = nth l (i + k) := by simp [nth]
set_option maxRecDepth 100000 in
set_option maxHeartbeats 2000000 in
theorem ruri_any (A : Option Addr) (c : Nat) (l : List Int) (i : Nat) (w : World) (hl : l.length ≤ 1000000000) (hi : i ≤ l.length) (hI : IntsAt w w.heap.size A l) :
    Calls Tryd.prog 80 #[.slice A l.length c, .int .i64 (i : Int)] w fun e w' => e = .returned (.int .i64 (signN (l.drop i))) ∧ w = w' := by
  by_cases h0 : i = l.length
  · subst h0
    have hs : signN (l.drop l.length) = 0 := by simp [signN]
    rw [hs]
    clear hs hI
    go_enter Tryd.func80, Tryd.ntmps80
    go_wp2_with fail
    go_ret
    exact ⟨rfl, rfl⟩
  · have hil : i < l.length := by omega
    have hil' : ¬ (l.length : Int) ≤ (i : Int) := by omega
    have hil2 : (i : Int) < (l.length : Int) := by omega
    obtain ⟨b, off, rfl, hbw, hcc⟩ := hI (by omega)
    have hc0 := hcc i hil
    have HC := Lib.hid hcc
    obtain ⟨r, hr⟩ : ∃ r, signN (l.drop i) = r := ⟨_, rfl⟩
    rw [hr]
    unfold signN at hr
    rw [List.length_drop, if_neg (by omega), nth_drop, nth_drop, nth_drop, Nat.add_zero] at hr
    have HR := Lib.hid hr
    obtain ⟨x, hx⟩ : ∃ x, nth l i = x := ⟨_, rfl⟩
    rw [hx] at HR hc0
    have hW := RWord_any x
    have hM := fun w => Ramong_any ⟨#[35, 59, 47, 63, 58, 64, 38, 61, 43, 36, 44, 95, 46, 33, 126, 42, 39, 40, 41, 91, 93]⟩ x w (by decide)
    have hMe : amongB (ByteArray.data ⟨#[35, 59, 47, 63, 58, 64, 38, 61, 43, 36, 44, 95, 46, 33, 126, 42, 39, 40, 41, 91, 93]⟩).toList x = amongB uriL x := rfl
    rw [hMe] at hM
    clear hr hcc hx h0 hMe hI
    cases hw : wordB x with
    | true =>
      rw [hw] at hW
      have hx37 : x ≠ 37 := by rintro rfl; exact absurd hw (by decide)
      have HR3 : Hid (1 = r) := by have := HR.out; rwa [if_neg hx37, if_pos (.inl hw)] at this
      have HW := Lib.hid hW
      clear hW hM hw hx37 HR
      go_enter Tryd.func80, Tryd.ntmps80
      go_wp2_with (go_at_call 85; refine (HW.out _).mono ?_; rintro e w' ⟨rfl, rfl⟩)
      go_ret
      exact ⟨ret_int (by have := HR3.out; omega), rfl⟩
    | false =>
      rw [hw] at hW
      have HW := Lib.hid hW
      cases ha : amongB uriL x with
      | true =>
        rw [ha] at hM
        have hx37 : x ≠ 37 := by rintro rfl; exact absurd ha (by decide)
        have HR3 : Hid (1 = r) := by have := HR.out; rwa [if_neg hx37, if_pos (.inr ha)] at this
        have HM := Lib.hid hM
        clear hW hM hw hx37 HR ha
        go_enter Tryd.func80, Tryd.ntmps80
        go_wp2_with (first
          | (go_at_call 85; refine (HW.out _).mono ?_; rintro e w' ⟨rfl, rfl⟩)
          | (go_at_call 86; refine (HM.out _).mono ?_; rintro e w' ⟨rfl, rfl⟩))
        go_ret
        exact ⟨ret_int (by have := HR3.out; omega), rfl⟩
      | false =>
        rw [ha] at hM
        have HM := Lib.hid hM
        by_cases hp : x = 37
        · subst hp
          have HR2 : Hid ((if 2 < l.length - i ∧ 0 ≤ hexI (nth l (i + 1)) ∧ 0 ≤ hexI (nth l (i + 2)) then 3 else 0) = r) := by have := HR.out; rwa [if_pos rfl] at this
          have hw2 : wrap64 ((i : Int) + 2) = i + 2 := IntWalk.wrap64_in _ (by omega)
          have hw1 : wrap64 ((i : Int) + 1) = i + 1 := IntWalk.wrap64_in _ (by omega)
          clear HR hW hM hw ha
          by_cases h2 : i + 2 < l.length
          · have h2i : (i : Int) + 2 < (l.length : Int) := by omega
            have h1i : (i : Int) + 1 < (l.length : Int) := by omega
            have hc1 := HC.out (i + 1) (by omega)
            have hc2 := HC.out (i + 2) (by omega)
            obtain ⟨z1, hz1⟩ : ∃ z, nth l (i + 1) = z := ⟨_, rfl⟩
            obtain ⟨z2, hz2⟩ : ∃ z, nth l (i + 2) = z := ⟨_, rfl⟩
            rw [hz1] at hc1 HR2
            rw [hz2] at hc2 HR2
            clear hz1 hz2
            by_cases k1 : 0 ≤ hexI z1
            · by_cases k2 : 0 ≤ hexI z2
              · have HR3 : Hid (3 = r) := by have := HR2.out; rwa [if_pos ⟨by omega, k1, k2⟩] at this
                clear HR2 h2
                go_enter Tryd.func80, Tryd.ntmps80
                go_wp2_with (first
              | (go_at_call 85; refine (HW.out _).mono ?_; rintro e w' ⟨rfl, rfl⟩)
              | (go_at_call 86; refine (HM.out _).mono ?_; rintro e w' ⟨rfl, rfl⟩)
              | (go_at_call 87; refine (RHex_any _ _).mono ?_; rintro e w' ⟨rfl, rfl⟩))
                go_ret
                exact ⟨ret_int (by have := HR3.out; omega), rfl⟩
              · have HR3 : Hid (0 = r) := by have := HR2.out; rwa [if_neg (fun h => k2 h.2.2)] at this
                have k2' : decide (0 ≤ hexI z2) = false := decide_eq_false k2
                clear HR2 h2
                go_enter Tryd.func80, Tryd.ntmps80
                go_wp2_with (first
              | (go_at_call 85; refine (HW.out _).mono ?_; rintro e w' ⟨rfl, rfl⟩)
              | (go_at_call 86; refine (HM.out _).mono ?_; rintro e w' ⟨rfl, rfl⟩)
              | (go_at_call 87; refine (RHex_any _ _).mono ?_; rintro e w' ⟨rfl, rfl⟩))
                go_ret
                exact ⟨ret_int (by have := HR3.out; omega), rfl⟩
            · have HR3 : Hid (0 = r) := by have := HR2.out; rwa [if_neg (fun h => k1 h.2.1)] at this
              have k1' : decide (0 ≤ hexI z1) = false := decide_eq_false k1
              clear HR2 h2
              go_enter Tryd.func80, Tryd.ntmps80
              go_wp2_with (first
              | (go_at_call 85; refine (HW.out _).mono ?_; rintro e w' ⟨rfl, rfl⟩)
              | (go_at_call 86; refine (HM.out _).mono ?_; rintro e w' ⟨rfl, rfl⟩)
              | (go_at_call 87; refine (RHex_any _ _).mono ?_; rintro e w' ⟨rfl, rfl⟩))
              go_ret
              exact ⟨ret_int (by have := HR3.out; omega), rfl⟩
          · have h2i : ¬ (i : Int) + 2 < (l.length : Int) := by omega
            have h2d := decide_eq_false h2i
            have HR3 : Hid (0 = r) := by have := HR2.out; rwa [if_neg (fun h => h2 (by omega))] at this
            clear HR2 h2
            go_enter Tryd.func80, Tryd.ntmps80
            go_wp2_with (first
              | (go_at_call 85; refine (HW.out _).mono ?_; rintro e w' ⟨rfl, rfl⟩)
              | (go_at_call 86; refine (HM.out _).mono ?_; rintro e w' ⟨rfl, rfl⟩))
            go_ret
            exact ⟨ret_int (by have := HR3.out; omega), rfl⟩
        · have hp' : (x == 37) = false := beq_eq_false_iff_ne.2 hp
          have HR3 : Hid (0 = r) := by have := HR.out; rwa [if_neg hp, if_neg (by rintro (h | h) <;> simp_all)] at this
          clear HR hW hM hw ha hp
          go_enter Tryd.func80, Tryd.ntmps80
          go_wp2_with (first
            | (go_at_call 85; refine (HW.out _).mono ?_; rintro e w' ⟨rfl, rfl⟩)
            | (go_at_call 86; refine (HM.out _).mono ?_; rintro e w' ⟨rfl, rfl⟩))
          go_ret
          exact ⟨ret_int (by have := HR3.out; omega), rfl⟩
set_option maxRecDepth 100000 in
set_option maxHeartbeats 2000000 in
theorem rValid_any (s : ByteArray) (w : World) (hs : s.size ≤ 1000000) :
    Calls Tryd.prog 67 #[.string s] w fun e w' => e = .returned (.bool (tagB s)) ∧ Below w.heap.size w w' := by
  have HT : Hid (Calls Tryd.prog 79 #[.string s] w (TextR s w)) := Text_any s w hs
  cases hv : validD s.data.toList with
  | false =>
    have HT0 : Hid (Calls Tryd.prog 79 #[.string s] w fun e w' => ∃ u, e = .returned (.tuple #[u, .bool false]) ∧ Below w.heap.size w w') := HT.out.mono (by
      rintro e w' ⟨u, v, rfl, h1, _, h3⟩
      rw [h1, hv]
      exact ⟨u, rfl, h3⟩)
    rw [valid_not hv]
    clear HT hv hs
    go_enter Tryd.func67, Tryd.ntmps67
    go_wp2_with (go_at_call 79; refine HT0.out.mono ?_; rintro e w1 ⟨u, rfl, hb⟩)
    go_ret
    exact ⟨rfl, hb⟩
  | true =>
    have HT1 : Hid (Calls Tryd.prog 79 #[.string s] w fun e w' => ∃ A c l, e = .returned (.tuple #[.slice A (List.length l) c, .bool true]) ∧ (List.length l ≤ 1000000 ∧ (decide (List.length l ≠ 0) && validS l) = tagB s ∧ IntsAt w' w'.heap.size A l) ∧ Below w.heap.size w w') := HT.out.mono (by
      rintro e w' ⟨u, v, rfl, h1, h2, h3⟩
      obtain ⟨A, c, l, rfl, hd, hI⟩ := h2 (by rw [h1, hv])
      rw [h1, hv]
      exact ⟨A, c, l, rfl, ⟨by have := hd.valid.2.2; omega, valid_eq hd, hI⟩, h3⟩)
    obtain ⟨r, hr⟩ : ∃ r, tagB s = r := ⟨_, rfl⟩
    rw [hr] at HT1 ⊢
    clear HT hv hs hr
    go_enter Tryd.func67, Tryd.ntmps67
    go_wp2_with (go_at_call 79; refine HT1.out.mono ?_; rintro e w1 ⟨A, c, l, rfl, hl, hb⟩; have Hl := Lib.hid hl; have Hb := Lib.hid hb; clear hl hb)
    · rename_i h
      have h' : l.length = 0 := by have := beq_iff_eq.1 h; omega
      have HR : Hid (r = false) := by show _ = _; rw [← Hl.out.2.1, h']; rfl
      go_ret
      exact ⟨ret_bool HR.out.symm, Hb.out⟩
    · rename_i h _ _
      have h' : l.length ≠ 0 := fun e => by rw [e] at h; cases h
      have HR : Hid (r = validS l) := by show _ = _; rw [← Hl.out.2.1]; simp [h']
      have H0 := Lib.hid h'
      clear h h'
      go_loop [5] (fun i => ∃ k : Nat, k ≤ l.length ∧ i = .int .i64 (k : Int) ∧ Hid (validS l = validS (l.drop k))) (fun i => l.length - (intOf i).toNat)
      case atStart => exact ⟨0, Nat.zero_le _, rfl, rfl⟩
      case round =>
        obtain ⟨k, hk, rfl, hm⟩ := hrel
        by_cases hkl : k < l.length
        · have hkl' : (k : Int) < (l.length : Int) := by omega
          have HU : Hid (Calls Tryd.prog 80 #[.slice A l.length c, .int .i64 (k : Int)] w1 fun e w' => e = .returned (.int .i64 (signN (l.drop k))) ∧ w1 = w') := ruri_any A c l k w1 (by have := Hl.out.1; omega) hk Hl.out.2.2
          obtain ⟨n, hn⟩ : ∃ n, signN (l.drop k) = n := ⟨_, rfl⟩
          rw [hn] at HU
          have hle := signN_le (l.drop k)
          rw [hn, List.length_drop] at hle
          have HN := Lib.hid hn
          have Hle := Lib.hid hle
          have Hkl := Lib.hid hkl
          clear hn hle hk hkl
          by_cases h0 : n = 0
          · have HV : Hid (r = false) := by
              show _ = _
              rw [HR.out, hm.out, validS_stop (HN.out.trans h0)]
              have h1 := Hkl.out
              cases hq : l.drop k with
              | nil => have := congrArg List.length hq; simp at this; omega
              | cons _ _ => rfl
            subst h0
            go_wp2_with (go_at_call 80; refine HU.out.mono ?_; rintro e w' ⟨rfl, rfl⟩)
            go_ret
            exact ⟨ret_bool HV.out.symm, Hb.out⟩
          · have h0' : ((n : Int) == 0) = false := beq_eq_false_iff_ne.2 (by omega)
            have HM : Hid (validS l = validS (l.drop (k + n))) := by
              show _ = _
              rw [hm.out, validS_step (by rw [HN.out]; exact h0), HN.out, List.drop_drop]
            have HW : Hid (wrap64 ((k : Int) + (n : Int)) = k + n) := IntWalk.wrap64_in _ (by have := Hle.out; have := Hl.out.1; omega)
            have H0n := Lib.hid h0
            have hmz : ∀ z : Int, z = k + n → l.length - (intOf (.int .i64 z)).toNat < l.length - (intOf (.int .i64 (k : Int))).toNat := by intro z hz; subst hz; have := H0n.out; have := Hkl.out; simp only [intOf]; omega
            clear h0
            go_wp2_with (go_at_call 80; refine HU.out.mono ?_; rintro e w' ⟨rfl, rfl⟩)
            exact ⟨⟨k + n, by have := Hle.out; have := Hkl.out; omega, congrArg (Value.int .i64) (HW.out.trans (by simp)), HM⟩, hmz _ HW.out⟩
        · obtain rfl : k = l.length := by omega
          have hkl' : ¬ (l.length : Int) < (l.length : Int) := by omega
          have HV : Hid (r = true) := by show _ = _; rw [HR.out, hm.out, List.drop_length]; rfl
          go_wp2_with fail
          go_ret
          exact ⟨ret_bool HV.out.symm, Hb.out⟩
end Go.Proofs.YtdcbngimgpdjoaaDoor
