/- Lines, chomped as a text asks, are the text again: plain Lean. No condition. -/
import Derived.Test.YtnofdlpifpjlbaaDoorLcB
import Derived.Test.YtnofdlpifpjlbaaDoorLgC
import Derived.Lib.MapLaws
namespace Go.Proofs.YtnofdlpifpjlbaaDoor
open Go.Lib
theorem encZ (r : Int) : (encodeRune r).map (fun b => (b.toNat : Int)) = encodeRuneZ r := by
  unfold encodeRune
  rw [List.map_map]
  conv => rhs; rw [← List.map_id (encodeRuneZ r)]
  refine List.map_congr_left fun x hx => ?_
  obtain ⟨h0, h1⟩ := encodeRuneZ_byte r x hx
  simp [Function.comp]
  omega
theorem Dec.enc {s : ByteArray} {i : Nat} {l : List Int} (h : Dec s i l) : l.flatMap encodeRune = s.data.toList.take i := by
  induction h with
  | nil => simp
  | @step i l h hi hn ih =>
    obtain ⟨g1, g2⟩ := pt_good hn
    have hd := decodeL_drop s i
    have he := encode_decode (s.data.toList.drop i) (drop_ne hi) (fun h => g1 (by rw [← hd]; exact Prod.ext h.1 h.2))
    rw [hd, ← g2] at he
    rw [List.flatMap_append, ih, List.take_add]
    simp [he]
theorem Dec.bytes {s : ByteArray} {l : List Int} (h : Dec s s.size l) : encL l = s.data.toList.map fun b => (b.toNat : Int) := by
  have h1 := h.enc
  rw [List.take_of_length_le (by rw [Array.length_toList]; exact Nat.le_refl _)] at h1
  rw [← h1, List.map_flatMap]
  unfold encL
  congr 1
  funext c
  exact (encZ c).symm
/-- How a row is chomped. -/
def chompR : List Int → Int
  | [] => 1
  | a :: r => if a ≠ 10 then 1 else match r with
    | [] => 2
    | b :: _ => if b ≠ 10 then 0 else 2
def chompP (l : List Int) : Int := chompR l.reverse
theorem enc_rev (c : Int) : ∃ z r, (encodeRuneZ c).reverse = z :: r ∧ (z = 10 ↔ c = 10) ∧ (c = 10 → r = []) := by
  by_cases h1 : 0 ≤ c ∧ c ≤ 127
  · exact ⟨c, [], by rw [encodeRuneZ_one h1.1 h1.2]; rfl, Iff.rfl, fun _ => rfl⟩
  · by_cases h2 : 128 ≤ c ∧ c ≤ 2047
    · exact ⟨_, _, by rw [encodeRuneZ_two h2.1 h2.2]; rfl, by omega, by omega⟩
    · by_cases h3 : (2048 ≤ c ∧ c < 55296) ∨ (57343 < c ∧ c ≤ 65535)
      · exact ⟨_, _, by rw [encodeRuneZ_three h3]; rfl, by omega, by omega⟩
      · by_cases h4 : 65536 ≤ c ∧ c ≤ 1114111
        · exact ⟨_, _, by rw [encodeRuneZ_four h4.1 h4.2]; rfl, by omega, by omega⟩
        · exact ⟨_, _, by rw [encodeRuneZ_bad (by omega)]; rfl, by omega, by omega⟩
theorem encL_rev (l : List Int) : (encL l).reverse = l.reverse.flatMap fun c => (encodeRuneZ c).reverse := by
  induction l with
  | nil => rfl
  | cons a l ih =>
    have h1 : encL (a :: l) = encodeRuneZ a ++ encL l := rfl
    rw [h1, List.reverse_append, ih, List.reverse_cons, List.flatMap_append]
    simp
theorem chomp_enc (l : List Int) : chompP (encL l) = chompP l := by
  unfold chompP
  rw [encL_rev]
  cases l.reverse with
  | nil => rfl
  | cons a r =>
    obtain ⟨z, q, e, h1, h2⟩ := enc_rev a
    rw [List.flatMap_cons, e, List.cons_append]
    by_cases ha : a = 10
    · rw [h2 ha, h1.2 ha, ha, List.nil_append]
      cases r with
      | nil => rfl
      | cons b r =>
        obtain ⟨z', q', e', h1', _⟩ := enc_rev b
        rw [List.flatMap_cons, e', List.cons_append]
        simp only [chompR]
        by_cases hb : b = 10
        · rw [hb, h1'.2 hb]
        · have hz : z' ≠ 10 := fun h => hb (h1'.1 h)
          simp [hb, hz]
    · have hz : z ≠ 10 := fun h => ha (h1.1 h)
      simp [chompR, ha, hz]
theorem chomp_list {l : List Int} {n : Nat} (hn : l.length = n) : (if n = 0 then (1 : Int) else if nth l (n - 1) ≠ 10 then 1 else if 1 < n ∧ nth l (n - 2) ≠ 10 then 0 else 2) = chompP l := by
  unfold chompP
  obtain ⟨m, hm⟩ : ∃ m, l.reverse = m := ⟨_, rfl⟩
  have hl : l = m.reverse := by rw [← hm, List.reverse_reverse]
  rw [hm]
  subst hl
  rw [List.length_reverse] at hn
  cases m with
  | nil => simp at hn; subst hn; rfl
  | cons a r =>
    rw [List.length_cons] at hn
    have h1 : nth (a :: r).reverse (n - 1) = a := by
      rw [← hn, Nat.add_sub_cancel]
      simp [nth, List.getD]
    rw [if_neg (by omega), h1]
    by_cases ha : a = 10
    · subst ha
      rw [if_neg (by simp)]
      cases r with
      | nil => simp at hn; subst hn; rfl
      | cons b r =>
        rw [List.length_cons] at hn
        have h2 : nth (10 :: b :: r).reverse (n - 2) = b := by
          rw [← hn, show r.length + 1 + 1 - 2 = r.length by omega]
          simp [nth, List.getD]
        rw [h2]
        by_cases hb : b = 10
        · simp [chompR, hb]
        · rw [if_pos ⟨by omega, hb⟩]
          simp [chompR, hb]
    · rw [if_pos ha]
      simp [chompR, ha]
theorem chomp_dec {s : ByteArray} {l : List Int} (h : Dec s s.size l) : chompI s = chompP l := by
  rw [← chomp_enc, h.bytes]
  exact chomp_list (by simp [bytesI])
/-- Taking lines apart. -/
def stepL (s : List (List Int) × List Int) (c : Int) : List (List Int) × List Int := if c = 10 then (s.1 ++ [s.2], []) else (s.1, s.2 ++ [c])
def splitL (p : List Int) : List (List Int) × List Int := p.foldl stepL ([], [])
theorem splitL_snoc (p : List Int) (c : Int) : splitL (p ++ [c]) = stepL (splitL p) c := by simp [splitL]
def flatS (R : List (List Int)) : List Int := R.flatMap (· ++ [10])
theorem flatS_append (a b : List (List Int)) : flatS (a ++ b) = flatS a ++ flatS b := by simp [flatS]
theorem split_flat : ∀ (p : List Int) (s : List (List Int) × List Int), flatS (p.foldl stepL s).1 ++ (p.foldl stepL s).2 = flatS s.1 ++ s.2 ++ p := by
  intro p
  induction p with
  | nil => simp
  | cons c p ih =>
    intro s
    rw [List.foldl_cons, ih]
    unfold stepL
    by_cases h : c = 10
    · subst h; simp [flatS]
    · simp [h]
theorem split_no : ∀ (p : List Int) (s : List (List Int) × List Int), (10 ∉ s.2 ∧ ∀ r ∈ s.1, 10 ∉ r) → 10 ∉ (p.foldl stepL s).2 ∧ ∀ r ∈ (p.foldl stepL s).1, 10 ∉ r := by
  intro p
  induction p with
  | nil => intro s h; exact h
  | cons c p ih =>
    intro s h
    rw [List.foldl_cons]
    refine ih _ ?_
    unfold stepL
    by_cases hc : c = 10
    · rw [if_pos hc]
      refine ⟨by simp, fun r hr => ?_⟩
      rcases List.mem_append.1 hr with hr | hr
      · exact h.2 r hr
      · rw [List.mem_singleton.1 hr]; exact h.1
    · rw [if_neg hc]
      refine ⟨fun hm => ?_, h.2⟩
      rcases List.mem_append.1 hm with hm | hm
      · exact h.1 hm
      · exact hc (List.mem_singleton.1 hm).symm
theorem split_len : ∀ (p : List Int) (s : List (List Int) × List Int), (p.foldl stepL s).1.length + (p.foldl stepL s).2.length ≤ s.1.length + s.2.length + p.length ∧ (∀ r ∈ (p.foldl stepL s).1, r.length ≤ s.2.length + p.length ∨ r ∈ s.1) := by
  intro p
  induction p with
  | nil => intro s; exact ⟨by simp, fun r hr => .inr hr⟩
  | cons c p ih =>
    intro s
    rw [List.foldl_cons]
    obtain ⟨h1, h2⟩ := ih (stepL s c)
    unfold stepL at h1 h2 ⊢
    by_cases hc : c = 10
    · rw [if_pos hc] at h1 h2 ⊢
      refine ⟨by simp at h1 ⊢; omega, fun r hr => ?_⟩
      rcases h2 r hr with h | h
      · left; simp at h ⊢; omega
      · rcases List.mem_append.1 h with h | h
        · exact .inr h
        · rw [List.mem_singleton.1 h]; left; omega
    · rw [if_neg hc] at h1 h2 ⊢
      refine ⟨by simp at h1 ⊢; omega, fun r hr => ?_⟩
      rcases h2 r hr with h | h
      · left; simp at h ⊢; omega
      · exact .inr h
def linesL (p : List Int) : List (List Int) := if (splitL p).2 = [] then (splitL p).1 else (splitL p).1 ++ [(splitL p).2]
/-- Up to the last line that is not empty. -/
structure IsWhole (L : List (List Int)) (n : Nat) : Prop where
  le : n ≤ L.length
  rest : ∀ k, n ≤ k → k < L.length → L[k]? = some []
  last : n = 0 ∨ ∃ r, L[n - 1]? = some r ∧ r ≠ []
def joinN (L : List (List Int)) : Nat → List Int
  | 0 => []
  | n + 1 => joinN L n ++ (if 0 < n then [10] else []) ++ L.getD n []
theorem joinN_flat (L : List (List Int)) : ∀ n, 0 < n → n ≤ L.length → joinN L n ++ [10] = flatS (L.take n) := by
  intro n
  induction n with
  | zero => intro h; omega
  | succ n ih =>
    intro _ hn
    have htk : L.take (n + 1) = L.take n ++ [L.getD n []] := by
      rw [List.take_succ_eq_append_getElem (by omega)]
      simp [show n < L.length by omega]
    rw [htk, flatS_append]
    simp only [joinN]
    by_cases h0 : 0 < n
    · rw [if_pos h0, ← ih h0 (by omega)]
      simp [flatS]
    · have : n = 0 := by omega
      subst this
      simp [joinN, flatS]
def chompedL (out : List Int) (n all : Nat) (chomp : Int) : List Int :=
  if chomp = 2 then out ++ List.replicate (all - n + (if 0 < n then 1 else 0)) 10 else if 0 < n ∧ chomp ≠ 1 then out ++ [10] else out
theorem flat_empty : ∀ (L : List (List Int)), (∀ r ∈ L, r = []) → flatS L = List.replicate L.length 10 := by
  intro L
  induction L with
  | nil => intro _; rfl
  | cons a L ih =>
    intro h
    have h1 := ih fun r hr => h r (List.mem_cons_of_mem _ hr)
    have h2 := h a List.mem_cons_self
    subst h2
    have : flatS ([] :: L) = [10] ++ flatS L := by simp [flatS]
    rw [this, h1, List.length_cons, List.replicate_succ]; rfl
theorem chompP_one (l : List Int) (a : Int) (h : a ≠ 10) : chompP (l ++ [a]) = 1 := by simp [chompP, chompR, h]
theorem chompP_zero (l : List Int) (a : Int) (h : a ≠ 10) : chompP (l ++ [a] ++ [10]) = 0 := by simp [chompP, chompR, h]
theorem chompP_two (l : List Int) (k : Nat) : chompP (l ++ List.replicate (k + 2) 10) = 2 := by
  unfold chompP
  rw [List.reverse_append, List.reverse_replicate, List.replicate_succ, List.replicate_succ]; rfl
theorem chompP_all (k : Nat) : chompP (List.replicate (k + 1) 10) = 2 := by
  unfold chompP
  rw [List.reverse_replicate]
  cases k with
  | zero => rfl
  | succ k => rw [List.replicate_succ, List.replicate_succ]; rfl
theorem snoc_of {l : List Int} (h : l ≠ []) : ∃ q a, l = q ++ [a] ∧ a ∈ l := ⟨l.dropLast, l.getLast h, (List.dropLast_concat_getLast h).symm, List.getLast_mem h⟩
/-- Lines, chomped as the text asks, are the text again. -/
theorem lit_law {p : List Int} (hp : p ≠ []) {n : Nat} (hw : IsWhole (linesL p) n) : chompedL (joinN (linesL p) n) n (linesL p).length (chompP p) = p := by
  have hf : flatS (splitL p).1 ++ (splitL p).2 = p := by
    have := split_flat p ([], [])
    simpa [flatS, splitL] using this
  have hno := split_no p ([], []) ⟨by simp, by simp⟩
  obtain ⟨R, hR⟩ : ∃ R, (splitL p).1 = R := ⟨_, rfl⟩
  obtain ⟨r, hr⟩ : ∃ r, (splitL p).2 = r := ⟨_, rfl⟩
  have hno' : 10 ∉ r ∧ ∀ q ∈ R, 10 ∉ q := by rw [← hr, ← hR]; exact hno
  have hlin : linesL p = if r = [] then R else R ++ [r] := by rw [linesL, hr, hR]
  rw [hlin] at hw ⊢
  rw [hR, hr] at hf
  clear hno hR hr hlin
  by_cases h0 : r = []
  · subst h0
    rw [if_pos rfl] at hw ⊢
    rw [List.append_nil] at hf
    have hR0 : R ≠ [] := by rintro rfl; exact hp (by rw [← hf]; rfl)
    have hrest : flatS (R.drop n) = List.replicate (R.length - n) 10 := by
      rw [flat_empty (R.drop n) (fun q hq => ?_), List.length_drop]
      obtain ⟨k, hk, e⟩ := List.mem_iff_getElem.1 hq
      rw [List.length_drop] at hk
      have h1 := hw.rest (n + k) (by omega) (by omega)
      rw [List.getElem?_eq_getElem (by omega)] at h1
      rw [List.getElem_drop] at e
      rw [← e]
      exact Option.some.inj h1
    have hcut : p = flatS (R.take n) ++ List.replicate (R.length - n) 10 := by
      rw [← hrest, ← flatS_append, List.take_append_drop, hf]
    by_cases hn : n = 0
    · subst hn
      rw [List.take_zero] at hcut
      have hlen : 0 < R.length := List.length_pos_iff.2 hR0
      obtain ⟨m, hm⟩ : ∃ m, R.length = m + 1 := ⟨R.length - 1, by omega⟩
      have e : p = List.replicate (m + 1) 10 := by rw [hcut]; simp [flatS, hm]
      rw [e, chompP_all, chompedL, if_pos rfl, hm]
      simp [joinN]
    · have hj := joinN_flat R n (by omega) hw.le
      rw [← hj] at hcut
      rcases hw.last with h | ⟨q, hq, hq0⟩
      · exact absurd h hn
      · obtain ⟨m, rfl⟩ : ∃ m, n = m + 1 := ⟨n - 1, by omega⟩
        rw [Nat.add_sub_cancel] at hq
        obtain ⟨hml, hqe⟩ := List.getElem?_eq_some_iff.1 hq
        obtain ⟨q', a, hqa, hmem⟩ := snoc_of hq0
        have ha : a ≠ 10 := fun e => hno'.2 q (hqe ▸ List.getElem_mem hml) (e ▸ hmem)
        obtain ⟨J, hJ⟩ : ∃ J, joinN R (m + 1) = J ++ [a] := by
          refine ⟨joinN R m ++ (if 0 < m then [10] else []) ++ q', ?_⟩
          simp only [joinN]
          have : R.getD m [] = q := by simp [List.getD, hq]
          rw [this, hqa, ← List.append_assoc]
        rw [hJ] at hcut ⊢
        by_cases hz : R.length - (m + 1) = 0
        · rw [hz] at hcut
          simp only [List.replicate_zero, List.append_nil] at hcut
          rw [hcut, chompP_zero J a ha, chompedL, if_neg (by decide), if_pos ⟨by omega, by decide⟩]
        · obtain ⟨t, ht⟩ : ∃ t, R.length - (m + 1) = t + 1 := ⟨R.length - (m + 1) - 1, by omega⟩
          rw [ht] at hcut
          have e : p = J ++ [a] ++ List.replicate (t + 2) 10 := by
            rw [hcut, List.append_assoc, show [(10 : Int)] ++ List.replicate (t + 1) 10 = List.replicate (t + 2) 10 from rfl]
          rw [e, chompP_two, chompedL, if_pos rfl, if_pos (by omega), ht]
  · rw [if_neg h0] at hw ⊢
    have hlen : (R ++ [r]).length = R.length + 1 := by simp
    have hn : n = R.length + 1 := by
      have h1 := hw.le
      rw [hlen] at h1
      by_cases h2 : n = R.length + 1
      · exact h2
      · have h3 := hw.rest R.length (by omega) (by omega)
        simp at h3
        exact absurd h3 h0
    subst hn
    have hj := joinN_flat (R ++ [r]) (R.length + 1) (by omega) (by omega)
    rw [List.take_of_length_le (by omega), flatS_append] at hj
    have hj2 : joinN (R ++ [r]) (R.length + 1) = p := by
      have : flatS [r] = r ++ [10] := by simp [flatS]
      rw [this, ← List.append_assoc, hf] at hj
      exact List.append_cancel_right hj
    obtain ⟨q', a, hqa, hmem⟩ := snoc_of h0
    have ha : a ≠ 10 := fun e => hno'.1 (e ▸ hmem)
    have hc : chompP p = 1 := by rw [← hf, hqa, ← List.append_assoc]; exact chompP_one _ a ha
    rw [hc, chompedL, if_neg (by decide), if_neg (by simp), hj2]
end Go.Proofs.YtnofdlpifpjlbaaDoor
