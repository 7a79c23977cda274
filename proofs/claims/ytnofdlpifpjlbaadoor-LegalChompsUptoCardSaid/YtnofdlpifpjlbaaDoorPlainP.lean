/- Texts without quotes as plain functions of a list of numbers; the plain laws. No condition. -/
import Derived.Test.YtnofdlpifpjlbaaDoorCharsP
import Derived.Test.YtnofdlpifpjlbaaDoorOpen
namespace Go.Proofs.YtnofdlpifpjlbaaDoor
def safeB (c : Int) (flow : Bool) : Bool := printB c && !blankB c && c != 10 && c != 13 && c != 65279 && !(flow && flowB c)
def safeAt (l : List Int) (i : Nat) (flow : Bool) : Bool := decide (i < l.length) && safeB (nth l i) flow
def begB (l : List Int) (flow : Bool) : Bool :=
  if safeAt l 0 flow = false then false else if nth l 0 = 45 ∨ nth l 0 = 63 ∨ nth l 0 = 58 then safeAt l 1 flow else !signB (nth l 0)
def hit (l : List Int) (flow : Bool) (i : Nat) : Bool :=
  (nth l i == 58 && !safeAt l (i + 1) flow) || (nth l i == 35 && decide (0 < i) && blankB (nth l (i - 1))) || (flow && flowB (nth l i))
def stopFrom (l : List Int) (flow : Bool) : Nat → Nat → Nat
  | 0, i => i
  | f + 1, i => if hit l flow i then i else stopFrom l flow f (i + 1)
/-- Where a text ends, with the blanks at its end. -/
def stopN (l : List Int) (flow : Bool) : Nat := stopFrom l flow l.length 0
def trimN (l : List Int) : Nat → Nat
  | 0 => 0
  | n + 1 => if blankB (nth l n) then trimN l n else n + 1
def endN (l : List Int) (flow : Bool) : Nat := trimN l (stopN l flow)
def keyI (l : List Int) (flow : Bool) : Int := if stopN l flow < l.length ∧ nth l (stopN l flow) = 58 then stopN l flow else -1
theorem stopFrom_spec (l : List Int) (flow : Bool) : ∀ f i, i + f = l.length → i ≤ stopFrom l flow f i ∧ stopFrom l flow f i ≤ l.length ∧ (∀ j, i ≤ j → j < stopFrom l flow f i → hit l flow j = false) ∧
    (stopFrom l flow f i < l.length → hit l flow (stopFrom l flow f i) = true)
  | 0, i, h => by simp only [stopFrom]; exact ⟨Nat.le_refl _, by omega, fun j _ _ => by omega, fun _ => by omega⟩
  | f + 1, i, h => by
    simp only [stopFrom]
    by_cases hi : hit l flow i = true
    · rw [if_pos hi]; exact ⟨Nat.le_refl _, by omega, fun j _ _ => by omega, fun _ => hi⟩
    · rw [if_neg hi]
      obtain ⟨h1, h2, h3, h4⟩ := stopFrom_spec l flow f (i + 1) (by omega)
      refine ⟨by omega, h2, fun j hj hlt => ?_, h4⟩
      by_cases e : j = i
      · subst e; exact bool_no.2 hi
      · exact h3 j (by omega) hlt
theorem stop_spec (l : List Int) (flow : Bool) : stopN l flow ≤ l.length ∧ (∀ j, j < stopN l flow → hit l flow j = false) ∧ (stopN l flow < l.length → hit l flow (stopN l flow) = true) := by
  obtain ⟨_, h2, h3, h4⟩ := stopFrom_spec l flow l.length 0 (by omega)
  exact ⟨h2, fun j hj => h3 j (by omega) hj, h4⟩
theorem stop_eq {l : List Int} {flow : Bool} {n : Nat} (hn : n ≤ l.length) (h : ∀ j, j < n → hit l flow j = false) (hh : n < l.length → hit l flow n = true) : n = stopN l flow := by
  obtain ⟨h1, h2, h3⟩ := stop_spec l flow
  rcases Nat.lt_trichotomy n (stopN l flow) with hlt | he | hgt
  · have := h2 n hlt; rw [hh (by omega)] at this; cases this
  · exact he
  · have := h _ hgt; rw [h3 (by omega)] at this; cases this
theorem trim_le (l : List Int) : ∀ n, trimN l n ≤ n
  | 0 => Nat.le_refl _
  | n + 1 => by simp only [trimN]; split; exact Nat.le_succ_of_le (trim_le l n); exact Nat.le_refl _
theorem trim_blank (l : List Int) : ∀ n j, trimN l n ≤ j → j < n → blankB (nth l j) = true
  | 0, j, _, h => by omega
  | n + 1, j, h1, h2 => by
    simp only [trimN] at h1
    split at h1
    · by_cases e : j = n
      · subst e; assumption
      · exact trim_blank l n j h1 (by omega)
    · omega
theorem trim_end (l : List Int) : ∀ n, 0 < trimN l n → blankB (nth l (trimN l n - 1)) = false
  | 0, h => by simp [trimN] at h
  | n + 1, h => by
    simp only [trimN] at h ⊢
    split
    · rename_i hb; rw [if_pos hb] at h; exact trim_end l n h
    · rename_i hb; exact bool_no.2 hb
theorem trim_eq {l : List Int} {n m : Nat} (hm : m ≤ n) (hb : ∀ j, m ≤ j → j < n → blankB (nth l j) = true) (he : 0 < m → blankB (nth l (m - 1)) = false) : m = trimN l n := by
  rcases Nat.lt_trichotomy m (trimN l n) with hlt | h | hgt
  · have h1 := trim_end l n (by omega)
    have h2 := trim_le l n
    rw [hb _ (by omega) (by omega)] at h1; cases h1
  · exact h
  · have h1 := he (by omega)
    rw [trim_blank l n (m - 1) (by omega) (by omega)] at h1; cases h1
theorem trim_mono (l : List Int) {n m : Nat} (h : n ≤ m) : trimN l n ≤ trimN l m := by
  by_cases hlt : trimN l m < trimN l n
  · have h1 := trim_end l n (by omega)
    have h2 := trim_le l n
    rw [trim_blank l m _ (by omega) (by omega)] at h1; cases h1
  · omega
theorem safe_mono {c : Int} (h : safeB c true = true) : safeB c false = true := by
  simp only [safeB, Bool.and_eq_true, Bool.true_and, Bool.false_and] at h ⊢
  exact ⟨h.1, rfl⟩
theorem safeAt_mono {l : List Int} {i : Nat} (h : safeAt l i true = true) : safeAt l i false = true := by
  simp only [safeAt, Bool.and_eq_true] at h ⊢
  exact ⟨h.1, safe_mono h.2⟩
theorem hit_mono {l : List Int} {i : Nat} (h : hit l false i = true) : hit l true i = true := by
  simp only [hit, Bool.or_eq_true, Bool.and_eq_true, Bool.false_and, Bool.true_and, Bool.not_eq_true'] at h ⊢
  rcases h with (⟨h1, h2⟩ | h) | h
  · refine .inl (.inl ⟨h1, ?_⟩)
    cases hs : safeAt l (i + 1) true with
    | false => rfl
    | true => rw [safeAt_mono hs] at h2; cases h2
  · exact .inl (.inr h)
  · cases h
theorem stop_mono (l : List Int) : stopN l true ≤ stopN l false := by
  obtain ⟨h1, h2, h3⟩ := stop_spec l false
  obtain ⟨k1, k2, k3⟩ := stop_spec l true
  by_cases hlt : stopN l false < stopN l true
  · have := k2 _ hlt
    rw [hit_mono (h3 (by omega))] at this; cases this
  · omega
theorem end_mono (l : List Int) : endN l true ≤ endN l false := trim_mono l (stop_mono l)
theorem beg_mono {l : List Int} (h : begB l true = true) : begB l false = true := by
  unfold begB at h ⊢
  split at h
  · cases h
  · rename_i hs
    have hs' : safeAt l 0 true = true := by simpa using hs
    rw [if_neg (by rw [safeAt_mono hs']; simp)]
    split at h
    · rename_i hc; rw [if_pos hc]; exact safeAt_mono h
    · rename_i hc; rw [if_neg hc]; exact h
end Go.Proofs.YtnofdlpifpjlbaaDoor
