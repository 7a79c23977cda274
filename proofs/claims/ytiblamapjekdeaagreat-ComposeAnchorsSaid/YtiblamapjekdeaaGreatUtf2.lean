/- The walks of the reference's small and Text. Condition: a text is no longer than two million bytes. -/
import Derived.Test.YtiblamapjekdeaaGreatUtf1
import Derived.Test.YtiblamapjekdeaaGreatZs
import Derived.Lib.ConvBytes
import Derived.Lib.ValidLaws
namespace Go.Proofs.YtiblamapjekdeaaGreat
open Go.RowKit Go.Lib
/-- The code points of a text up to a place. -/
inductive Dec (s : ByteArray) : Nat → List Int → Prop
  | nil : Dec s 0 []
  | step {i : Nat} {l : List Int} : Dec s i l → i < s.size → (ptAt s i).2 ≠ 0 → Dec s (i + (ptAt s i).2) (l ++ [((ptAt s i).1 : Int)])
theorem pt_good {s : ByteArray} {i : Nat} (h : (ptAt s i).2 ≠ 0) : Utf8.decode s i ≠ (65533, 1) ∧ ptAt s i = Utf8.decode s i := by
  by_cases e : Utf8.decode s i = (65533, 1)
  · rw [ptAt, if_pos e] at h; exact absurd rfl h
  · exact ⟨e, by rw [ptAt, if_neg e]⟩
theorem pt_bad {s : ByteArray} {i : Nat} (h : (ptAt s i).2 = 0) : Utf8.decode s i = (65533, 1) := by
  by_cases e : Utf8.decode s i = (65533, 1)
  · exact e
  · rw [ptAt, if_neg e, ← decodeL_drop] at h
    have := decodeL_width (s.data.toList.drop i)
    omega
theorem drop_ne {s : ByteArray} {i : Nat} (h : i < s.size) : s.data.toList.drop i ≠ [] := by
  intro e
  have := congrArg List.length e
  simp at this
  have h2 : s.data.size = s.size := rfl
  omega
theorem Dec.valid {s : ByteArray} {i : Nat} {l : List Int} (h : Dec s i l) : i ≤ s.size ∧ validD s.data.toList = validD (s.data.toList.drop i) ∧ l.length ≤ i := by
  induction h with
  | nil => exact ⟨Nat.zero_le _, rfl, Nat.le_refl _⟩
  | @step i l _ hi hn ih =>
    obtain ⟨g1, g2⟩ := pt_good hn
    have hne := drop_ne hi
    have hle := decodeL_le _ hne
    rw [decodeL_drop, List.length_drop, Array.length_toList] at hle
    have h2 : s.data.size = s.size := rfl
    refine ⟨by rw [g2]; omega, ?_, by simp; omega⟩
    rw [ih.2.1, validD_step _ hne, decodeL_drop, if_neg (fun h => g1 (Prod.ext h.1 h.2)), List.drop_drop, g2]
theorem Dec.bad {s : ByteArray} {i : Nat} {l : List Int} (h : Dec s i l) (hi : i < s.size) (hn : (ptAt s i).2 = 0) : validD s.data.toList = false := by
  rw [h.valid.2.1, validD_step _ (drop_ne hi), decodeL_drop, pt_bad hn]
  rfl
theorem Dec.full {s : ByteArray} {l : List Int} (h : Dec s s.size l) : validD s.data.toList = true := by
  rw [h.valid.2.1, List.drop_of_length_le (by rw [Array.length_toList]; exact Nat.le_refl _)]
  rfl
/-- What Text tells: the code points, and whether the text is valid. -/
def TextR (s : ByteArray) (w : World) (e : Ending) (w' : World) : Prop := ∃ u v, e = .returned (.tuple #[u, .bool v]) ∧ v = validD s.data.toList ∧ (v = true → ∃ A' c l, u = .slice A' l.length c ∧ Dec s s.size l ∧ IntsAt w' w'.heap.size A' l) ∧ Below w.heap.size w w'
set_option maxRecDepth 100000 in
set_option maxHeartbeats 2000000 in
theorem small_any (s : ByteArray) (A : Option Addr) (cap : Nat) (w : World) (hs : s.size ≤ 2000000) (hcap : s.size ≤ cap) (hA : 0 < s.size → ∃ b, A = some ⟨b, 0, none⟩ ∧ b < w.heap.size ∧ BytesAt w b s) :
    Calls Tryz.prog 52 #[.slice A s.size cap] w (TextR s w) := by
  have Hs := Lib.hid hs
  have HA := Lib.hid hA
  clear hA
  go_enter Tryz.func52, Tryz.ntmps52
  go_wp2_with fail
  go_loopw [4, 5] (fun out i wr => ∃ (k : Nat) (l : List Int), k ≤ s.size ∧ i = .int .i64 (k : Int) ∧ ZOwn wr w.heap.size out l ∧ Hid (Dec s k l) ∧ Below w.heap.size w wr) (fun _ i _ => s.size - (intOf i).toNat)
  case atStart => exact ⟨0, [], Nat.zero_le _, rfl, .empty _ _, .nil, Below.refl _ _⟩
  case round =>
    obtain ⟨k, l, hk, rfl, hz, hd, hb⟩ := hrel
    by_cases hks : k < s.size
    · have hks' : (k : Int) < (s.size : Int) := by omega
      obtain ⟨b, rfl, hbl, hB⟩ := HA.out (by omega)
      have hBr : BytesAt wr b s := fun j hj => (hb.cell (p := ⟨b, j, none⟩) hbl).trans (hB j hj)
      have HP : Hid (Calls Tryz.prog 80 #[.slice (some ⟨b, k, none⟩) (s.size - k) (cap - k)] wr fun e w' => e = .returned (.tuple #[.int .i64 ((ptAt s k).1 : Nat), .int .i64 ((ptAt s k).2 : Nat)]) ∧ wr = w') := point_any s k (cap - k) b wr (by omega) hks hBr
      have hkc : k < cap := by omega
      have hdv := hd.out.valid
      have HBad : Hid ((ptAt s k).2 = 0 → validD s.data.toList = false) := fun h => hd.out.bad hks h
      have HNext : Hid ((ptAt s k).2 ≠ 0 → Dec s (k + (ptAt s k).2) (l ++ [((ptAt s k).1 : Int)])) := fun h => .step hd.out hks h
      have hll : l.length ≤ 1000000000 := by omega
      obtain ⟨c, hc⟩ : ∃ c, (ptAt s k).1 = c := ⟨_, rfl⟩
      obtain ⟨n, hn⟩ : ∃ n, (ptAt s k).2 = n := ⟨_, rfl⟩
      rw [hc, hn] at HP HNext
      rw [hn] at HBad
      have Hb := Lib.hid hb
      have hsz := hb.size
      have Hhk := Lib.hid hks
      clear hc hn hBr hB hbl hdv HA hd hb hk hs
      by_cases h0 : n = 0
      · subst h0
        have HV := Lib.hid (HBad.out rfl)
        clear HBad HNext
        go_wp2_with (go_at_call 80; refine HP.out.mono ?_; rintro e w' ⟨rfl, rfl⟩)
        go_ret2
        exact ⟨_, _, rfl, HV.out.symm, fun h => (by cases h), Hb.out⟩
      · have h0' : ((n : Int) == 0) = false := beq_eq_false_iff_ne.2 (by omega)
        have HD := Lib.hid (HNext.out h0)
        have hv := HD.out.valid.1
        have HV := Lib.hid hv
        have H0 := Lib.hid h0
        have HW : Hid (wrap64 ((k : Int) + (n : Int)) = k + n) := IntWalk.wrap64_in _ (by have := HV.out; have := Hs.out; omega)
        have hmz : ∀ z : Int, z = k + n → s.size - (intOf (.int .i64 z)).toNat < s.size - (intOf (.int .i64 (k : Int))).toNat := by intro z hz; subst hz; have := H0.out; have := Hhk.out; simp only [intOf]; omega
        clear HBad HNext hv h0
        go_wp2_with (first
          | (at_builtin; refine wpList_appZ rfl _ _ _ rfl rfl w.heap.size u4 l c rfl hz _ rfl rfl hll hsz ?_; intro v' w' hz' hb'; have Hb' := Lib.hid hb'; clear hb')
          | (go_at_call 80; refine HP.out.mono ?_; rintro e w' ⟨rfl, rfl⟩))
        exact ⟨⟨k + n, l ++ [(c : Int)], HV.out, congrArg (Value.int .i64) (HW.out.trans (by simp)), hz', HD, Hb.out.trans Hb'.out⟩, hmz _ HW.out⟩
    · obtain rfl : k = s.size := by omega
      have hks' : ¬ (s.size : Int) < (s.size : Int) := by omega
      have HV := Lib.hid hd.out.full
      obtain ⟨A', c', rfl, h1, h2, h3⟩ := hz.form
      have H2 := Lib.hid h2
      have Hb := Lib.hid hb
      clear h2 hb
      go_wp2_with fail
      go_ret2
      exact ⟨.slice A' l.length c', true, rfl, HV.out.symm, fun _ => ⟨A', c', l, rfl, hd.out, H2.out⟩, Hb.out⟩
theorem bytes_newT (w : World) (s : ByteArray) : ∃ W, Lib.bytesWorld w 5 s = W ∧ Below w.heap.size w W ∧ W.heap.size = w.heap.size + 1 ∧ BytesAt W w.heap.size s := by
  refine ⟨_, rfl, ?_, Lib.bytesWorld_size w _ s, fun k h => ?_⟩
  · exact Lib.below_freeze (((Below.refl _ w).drew).alloc (Nat.le_refl _) _) (p := ⟨w.heap.size, _, none⟩) (Nat.le_refl _) _
  · rw [Lib.bytesWorld_cell w _ s k h]
    have h2 : k < s.data.size := h
    simp [ByteArray.get!, getElem!_def]
    rw [Array.getElem?_eq_getElem h2]
    rfl
set_option maxRecDepth 100000 in
set_option maxHeartbeats 2000000 in
theorem Text_any (s : ByteArray) (w : World) (hs : s.size ≤ 2000000) :
    Calls Tryz.prog 75 #[.string s] w (TextR s w) := by
  have hcv := Lib.run_convert_string_bytes (P := Tryz.prog) w 9 82 5 s Tryz.underlying9 Tryz.underlying82 Tryz.underlying5
  obtain ⟨W, hW, hbW, hsW, hB⟩ := bytes_newT w s
  rw [hW] at hcv
  have HS : Hid (Calls Tryz.prog 52 #[.slice (some ⟨w.heap.size, 0, none⟩) s.size (grownCap w s.size 0 5)] W (TextR s W)) :=
    small_any s _ _ W hs (grownCap_ge w s.size 0 5) fun _ => ⟨_, rfl, by omega, hB⟩
  have HbW := Lib.hid hbW
  clear hW hbW hsW hB hs
  go_enter Tryz.func75, Tryz.ntmps75
  go_wp2_with (go_at_call 52; refine HS.out.mono ?_; rintro e w' ⟨u, v, rfl, hv, hl, hb⟩; have HX := Lib.hid (And.intro hv (And.intro hl (below_then HbW.out hb))); clear hv hl hb)
  go_ret2
  exact ⟨u, v, rfl, HX.out.1, HX.out.2.1, HX.out.2.2⟩
end Go.Proofs.YtiblamapjekdeaaGreat
