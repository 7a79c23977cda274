/- Taking away nodes without Kids, again and again: plain Lean. No condition. -/
import Derived.Test.YtdcbngimgpdjoaaDoorGc
namespace Go.Proofs.YtdcbngimgpdjoaaDoor
/-- How many Kids of u are not taken away. -/
def leftN (kids : Nat → List Nat) (R : List Nat) (u : Nat) : Nat := ((kids u).filter fun y => decide (y ∉ R)).length
/-- Who has k among its Kids, once for each time, in the order of l. -/
def upsN (kids : Nat → List Nat) (l : List Nat) (k : Nat) : List Nat := l.flatMap fun x => List.replicate ((kids x).count k) x
theorem upsN_snoc (kids : Nat → List Nat) (l : List Nat) (x k : Nat) : upsN kids (l ++ [x]) k = upsN kids l k ++ List.replicate ((kids x).count k) x := by simp [upsN]
theorem upsN_mem {kids : Nat → List Nat} {l : List Nat} {k u : Nat} (h : u ∈ upsN kids l k) : u ∈ l := by
  obtain ⟨x, hx, hu⟩ := List.mem_flatMap.1 h
  rw [List.mem_replicate] at hu
  exact hu.2 ▸ hx
theorem upsN_count {kids : Nat → List Nat} (k : Nat) : ∀ {l : List Nat}, l.Nodup → ∀ u ∈ l, (upsN kids l k).count u = (kids u).count k := by
  intro l
  induction l with
  | nil => simp
  | cons x l ih =>
    intro hn u hu
    rw [List.nodup_cons] at hn
    simp only [upsN, List.flatMap_cons, List.count_append, List.count_replicate]
    by_cases e : x = u
    · subst e
      have h0 : (upsN kids l k).count x = 0 := List.count_eq_zero_of_not_mem fun h => hn.1 (upsN_mem h)
      unfold upsN at h0
      simp [h0]
    · have := ih hn.2 u (by rcases List.mem_cons.1 hu with rfl | h; exact absurd rfl e; exact h)
      unfold upsN at this
      simp [e, this]
theorem count_out {kids : Nat → List Nat} {R : List Nat} {k : Nat} (hk : k ∉ R) (u : Nat) : leftN kids R u = leftN kids (R ++ [k]) u + (kids u).count k := by
  unfold leftN
  induction kids u with
  | nil => simp
  | cons y l ih =>
    simp only [List.filter_cons, List.count_cons, List.mem_append, List.mem_singleton]
    by_cases e : y = k
    · subst e; simp [hk] at ih ⊢; omega
    · by_cases h : y ∈ R
      · simp [e, h] at ih ⊢; exact ih
      · simp [e, h] at ih ⊢; omega
/-- How taking away stands: R is away, free is free. -/
structure Kn (kids : Nat → List Nat) (L R free : List Nat) (lf : Nat → Nat) : Prop where
  nd : (R ++ free).Nodup
  sub : ∀ x ∈ R ++ free, x ∈ L
  left : ∀ u ∈ L, lf u = leftN kids R u
  zero : ∀ u ∈ L, (lf u = 0 ↔ u ∈ R ++ free)
  acc : ∀ x ∈ R, Acc (edge kids) x
/-- The same, while k is being taken away: j of those that have it are told. -/
structure Ki (kids : Nat → List Nat) (L R free : List Nat) (k j : Nat) (lf : Nat → Nat) : Prop where
  nd : (R ++ k :: free).Nodup
  sub : ∀ x ∈ R ++ k :: free, x ∈ L
  left : ∀ u ∈ L, lf u + ((upsN kids L k).take j).count u = leftN kids R u
  zero : ∀ u ∈ L, (lf u = 0 ↔ u ∈ R ++ k :: free)
  acc : ∀ x ∈ R ++ [k], Acc (edge kids) x
theorem Kn.pop {kids : Nat → List Nat} {L R free : List Nat} {k : Nat} {lf : Nat → Nat} (h : Kn kids L R (k :: free) lf) : Ki kids L R free k 0 lf := by
  refine ⟨h.nd, h.sub, fun u hu => by simpa using h.left u hu, h.zero, fun x hx => ?_⟩
  rcases List.mem_append.1 hx with hx | hx
  · exact h.acc x hx
  · simp at hx; subst hx
    have hL := h.sub x (by simp)
    have h0 := (h.zero x hL).2 (by simp)
    rw [h.left x hL] at h0
    refine ⟨_, fun y hy => h.acc y ?_⟩
    unfold leftN at h0
    have h1 := List.filter_eq_nil_iff.1 (List.eq_nil_of_length_eq_zero h0) y hy
    simpa using h1
theorem Ki.fin {kids : Nat → List Nat} {L R free : List Nat} {k : Nat} {lf : Nat → Nat} (hL : L.Nodup) (h : Ki kids L R free k (upsN kids L k).length lf) : Kn kids L (R ++ [k]) free lf := by
  have hk : k ∉ R := by
    have := h.nd
    rw [List.nodup_append] at this
    exact fun hin => this.2.2 k hin k (by simp) rfl
  refine ⟨by simpa using h.nd, by simpa using h.sub, fun u hu => ?_, by simpa using h.zero, h.acc⟩
  have h1 := h.left u hu
  rw [List.take_length, upsN_count k hL u hu, count_out hk u] at h1
  omega
theorem Ki.step {kids : Nat → List Nat} {L R free : List Nat} {k j : Nat} {lf : Nat → Nat} (hLn : L.Nodup) (h : Ki kids L R free k j lf) (hj : j < (upsN kids L k).length) {u : Nat} (hu : (upsN kids L k)[j] = u) :
    u ∈ L ∧ 1 ≤ lf u ∧ (lf u - 1 = 0 → Ki kids L R (u :: free) k (j + 1) (fun x => if x = u then lf u - 1 else lf x)) ∧ (lf u - 1 ≠ 0 → Ki kids L R free k (j + 1) (fun x => if x = u then lf u - 1 else lf x)) := by
  have huL : u ∈ L := upsN_mem (hu ▸ List.getElem_mem hj)
  have htk : (upsN kids L k).take (j + 1) = (upsN kids L k).take j ++ [u] := by
    rw [List.take_succ_eq_append_getElem hj, hu]
  have hc : ((upsN kids L k).take (j + 1)).count u ≤ (kids u).count k := by
    rw [← upsN_count k hLn u huL]
    exact List.Sublist.count_le _ (List.take_sublist _ _)
  have hk : k ∉ R := by
    have := h.nd
    rw [List.nodup_append] at this
    exact fun hin => this.2.2 k hin k (by simp) rfl
  have hl := h.left u huL
  have ho := count_out (kids := kids) hk u
  rw [htk, List.count_append] at hc
  simp at hc
  have h1 : 1 ≤ lf u := by omega
  have hleft : ∀ x ∈ L, (if x = u then lf u - 1 else lf x) + ((upsN kids L k).take (j + 1)).count x = leftN kids R x := fun x hx => by
    rw [htk, List.count_append]
    by_cases e : x = u
    · subst e; simp; omega
    · rw [if_neg e, List.count_eq_zero_of_not_mem (l := [u]) (by simpa using e)]
      exact h.left x hx
  have hnot : u ∉ R ++ k :: free := fun hin => by have := (h.zero u huL).2 hin; omega
  refine ⟨huL, h1, fun h0 => ⟨?_, ?_, hleft, ?_, h.acc⟩, fun h0 => ⟨h.nd, h.sub, hleft, ?_, h.acc⟩⟩
  · have := h.nd
    simp only [List.nodup_append, List.nodup_cons, List.mem_cons, List.mem_append] at this hnot ⊢
    refine ⟨this.1, ⟨?_, ?_, this.2.1.2⟩, ?_⟩
    · rintro (rfl | h2)
      · exact hnot (.inr (.inl rfl))
      · exact this.2.1.1 h2
    · exact fun h2 => hnot (.inr (.inr h2))
    · rintro a ha b (rfl | rfl | hb)
      · exact this.2.2 a ha b (.inl rfl)
      · rintro rfl; exact hnot (.inl ha)
      · exact this.2.2 a ha b (.inr hb)
  · intro x hx
    simp only [List.mem_append, List.mem_cons] at hx
    rcases hx with hx | rfl | rfl | hx
    · exact h.sub x (by simp [hx])
    · exact h.sub x (by simp)
    · exact huL
    · exact h.sub x (by simp [hx])
  · intro x hx
    by_cases e : x = u
    · subst e; simp [h0]
    · rw [if_neg e, h.zero x hx]; simp [e]
  · intro x hx
    by_cases e : x = u
    · subst e; simp only [if_true]; exact ⟨fun h2 => absurd h2 h0, fun h2 => absurd h2 hnot⟩
    · rw [if_neg e]; exact h.zero x hx
theorem nodup_sub : ∀ (R L : List Nat), R.Nodup → (∀ x ∈ R, x ∈ L) → R.length ≤ L.length := by
  intro R
  induction R with
  | nil => simp
  | cons x R ih =>
    intro L hn hs
    rw [List.nodup_cons] at hn
    have hx := hs x List.mem_cons_self
    have := ih (L.erase x) hn.2 fun y hy => (List.mem_erase_of_ne (by rintro rfl; exact hn.1 hy)).2 (hs y (List.mem_cons_of_mem _ hy))
    rw [List.length_erase_of_mem hx] at this
    have hp := List.length_pos_of_mem hx
    simp only [List.length_cons]; omega
theorem nodup_full {R L : List Nat} (hn : R.Nodup) (hs : ∀ x ∈ R, x ∈ L) (hl : L.length ≤ R.length) : ∀ x ∈ L, x ∈ R := fun x hx => by
  refine Classical.byContradiction fun hc => ?_
  have := nodup_sub R (L.erase x) hn fun y hy => (List.mem_erase_of_ne (by rintro rfl; exact hc hy)).2 (hs y hy)
  rw [List.length_erase_of_mem hx] at this
  have hp := List.length_pos_of_mem hx
  omega
/-- At the end: what is not away, goes round. -/
theorem Kn.fin {kids : Nat → List Nat} {L R : List Nat} {lf : Nat → Nat} (hL : ∀ x ∈ L, ∀ y ∈ kids x, y ∈ L) (hLn : L.Nodup) (h : Kn kids L R [] lf) : R.length ≤ L.length ∧ (R.length < L.length ↔ ∃ x ∈ L, ¬ Acc (edge kids) x) := by
  have hn : R.Nodup := by have := h.nd; simpa using this
  have hs : ∀ x ∈ R, x ∈ L := fun x hx => h.sub x (by simp [hx])
  have hle : R.length ≤ L.length := nodup_sub R L hn hs
  refine ⟨hle, fun hlt => ?_, fun ⟨x, hx, hna⟩ => ?_⟩
  · obtain ⟨x, hxL, hxR⟩ : ∃ x ∈ L, x ∉ R := Classical.byContradiction fun hc => by
      have := nodup_sub L R hLn fun x hx => Classical.byContradiction fun h => hc ⟨x, hx, h⟩
      omega
    refine ⟨x, hxL, fun ha => ?_⟩
    induction ha with
    | intro x _ ih =>
      have h0 : lf x ≠ 0 := fun e => hxR (by simpa using (h.zero x hxL).1 e)
      rw [h.left x hxL] at h0
      obtain ⟨y, hy⟩ := List.exists_mem_of_length_pos (Nat.pos_of_ne_zero h0)
      rw [List.mem_filter] at hy
      exact ih y hy.1 (hL x hxL y hy.1) (by simpa using hy.2)
  · rcases Nat.lt_or_ge R.length L.length with h1 | h1
    · exact h1
    · exact absurd (h.acc x (nodup_full hn hs h1 x hx)) hna
end Go.Proofs.YtdcbngimgpdjoaaDoor
