/- A ring of nodes, and a chain, in plain Lean. No condition. -/
import Derived.Test.YtdcbngimgpdjoaaDoorGal
namespace Go.Proofs.YtdcbngimgpdjoaaDoor
open Go.RowKit Go.Shelf Go.Deep
def ringK (n back i : Nat) : List Int := if i + 1 < n then [((i + 1 : Nat) : Int)] else if back < n then [(back : Int)] else []
def ringN (n back i : Nat) : Nd := ⟨2, ⟨#[120]⟩, ⟨#[]⟩, ringK n back i, false⟩
def ring (n back : Nat) : Gr := ⟨(List.range n).map (ringN n back), [0]⟩
theorem ring_len (n back : Nat) : (ring n back).nodes.length = n := by simp [ring]
theorem ring_nd {n back i : Nat} (h : i < n) : nd (ring n back).nodes i = ringN n back i := by simp [nd, ring, h]
theorem ring_next {n back i : Nat} (h : i + 1 < n) : kidN (ring n back) i = [i + 1] := by
  rw [kidN, ring_nd (by omega), ringN]
  simp only [ringK, if_pos h]
  simp
theorem ring_last {n back i : Nat} (h : i + 1 = n) : kidN (ring n back) i = if back < n then [back] else [] := by
  rw [kidN, ring_nd (by omega), ringN]
  simp only [ringK, if_neg (show ¬ i + 1 < n by omega)]
  split <;> simp
theorem ringK_len (n back i : Nat) : (ringK n back i).length ≤ 1 := by unfold ringK; split <;> (try split) <;> simp
theorem ring_ok (n back : Nat) (hn : n ≤ 50) (hb : back ≤ 50) : (ring n back).ok := by
  refine ⟨by rw [ring_len]; unfold maxLen; omega, by simp [ring, maxLen], fun e he => ?_, fun e he => ?_⟩
  · simp only [ring, List.mem_map, List.mem_range] at he
    obtain ⟨i, hi, rfl⟩ := he
    refine ⟨by rfl, by simp [ringN, maxLen, ByteArray.size], by simp [ringN, maxLen, ByteArray.size], by have := ringK_len n back i; simp only [ringN, maxLen]; omega, fun z hz => ?_⟩
    have hz2 : 0 ≤ z ∧ z ≤ 50 := by
      simp only [ringN, ringK] at hz
      split at hz
      · simp at hz; omega
      · split at hz
        · simp at hz; omega
        · simp at hz
    have h := wrap64_wf z
    rwa [IntWalk.wrap64_in z (by omega)] at h
  · simp only [ring, List.mem_map, List.mem_range] at he
    obtain ⟨i, _, rfl⟩ := he
    have := ringK_len n back i
    simp only [ringN]; omega
theorem ring_right (n back : Nat) (hn : 1 ≤ n) (hn2 : n ≤ 50) : rightB (ring n back) = true := by
  have hs : ∀ l : List Nat, sumK (l.map (ringN n back)) ≤ l.length := by
    intro l
    induction l with
    | nil => simp [sumK]
    | cons a l ih =>
      have := ringK_len n back a
      simp [sumK, ringN] at ih ⊢; omega
  have h1 := hs (List.range n)
  rw [List.length_range] at h1
  have hx : (ring n back).nodes = (List.range n).map (ringN n back) := rfl
  simp only [rightB, Bool.and_eq_true, decide_eq_true_eq]
  refine ⟨⟨⟨⟨by rw [ring_len]; omega, by simp [ring]⟩, ?_⟩, by rw [hx]; omega⟩, ?_⟩
  · rw [ring_len]; simp [areB, ring]; omega
  · rw [List.all_eq_true]
    intro e he
    rw [hx] at he
    simp only [List.mem_map, List.mem_range] at he
    obtain ⟨i, hi, rfl⟩ := he
    rw [ring_len]
    have h2 : nodeB (ringN n back i) = nodeB ⟨2, ⟨#[120]⟩, ⟨#[]⟩, [], false⟩ := rfl
    have h3 : nodeB ⟨2, ⟨#[120]⟩, ⟨#[]⟩, [], false⟩ = true := by kernel_rfl
    rw [h2, h3, Bool.true_and]
    simp only [areB, ringN, ringK, List.all_eq_true]
    intro z hz
    split at hz
    · simp at hz; subst hz; simp; omega
    · split at hz
      · simp at hz; subst hz; simp; omega
      · simp at hz
theorem ring_dfs {n back : Nat} : ∀ (d i f : Nat), i + d + 1 = n → dfs (kidN (ring n back)) (f + d + 3) (List.range i) [i] = List.range n := by
  intro d
  induction d with
  | zero =>
    intro i f h
    rw [Nat.add_zero, dfs, if_neg (by simp), ring_last (by omega), ← List.range_succ, Nat.succ_eq_add_one, show i + 1 = n by omega]
    split
    · rw [List.append_nil, dfs, if_pos (by simp; omega)]
      rfl
    · rfl
  | succ d ih =>
    intro i f h
    rw [show f + (d + 1) + 3 = (f + d + 3) + 1 by omega, dfs, if_neg (by simp), ring_next (by omega), ← List.range_succ, List.append_nil]
    exact ih (i + 1) f (by omega)
theorem ring_met {n back : Nat} (hn : 1 ≤ n) (hn2 : n ≤ 50) : metL (ring n back) 0 = List.range n := by
  have := ring_dfs (n := n) (back := back) (n - 1) 0 (20001 - (n - 1) - 3) (by omega)
  rw [show 20001 - (n - 1) - 3 + (n - 1) + 3 = 20001 by omega] at this
  exact this
theorem ring_used {n back k : Nat} : ∀ m, m + 1 ≤ n → usedBy (kidN (ring n back)) (List.range m) k = if 1 ≤ k ∧ k ≤ m then 1 else 0 := by
  intro m
  induction m with
  | zero => intro _; simp [usedBy]; omega
  | succ m ih =>
    intro h
    rw [List.range_succ, usedBy_snoc, ih (by omega), ring_next (by omega)]
    by_cases e : k = m + 1
    · subst e; simp
    · rw [List.count_eq_zero_of_not_mem (by simpa using e)]
      by_cases h1 : 1 ≤ k ∧ k ≤ m
      · rw [if_pos h1, if_pos (by omega)]
      · rw [if_neg h1, if_neg (by omega)]
theorem ring_is {n back : Nat} (hn : 1 ≤ n) (hn2 : n ≤ 50) {r : Int} (h0 : 0 ≤ r) (h1 : r < n) : isB (ring n back) r = true := by
  rw [isB, ring_right n back hn hn2, ring_len]
  simp [h0, h1]
theorem ring_uses {n back : Nat} (hn : 1 ≤ n) (hn2 : n ≤ 50) : usesL (ring n back) 0 = (List.range n).map fun k => if k = back then 2 else 1 := by
  rw [usesL, ring_is hn hn2 (by omega) (by omega), if_pos rfl, ring_len]
  simp only [Int.toNat_zero, ring_met hn hn2]
  refine List.map_congr_left fun k hk => ?_
  have hk' := List.mem_range.1 hk
  obtain ⟨m, rfl⟩ : ∃ m, n = m + 1 := ⟨n - 1, by omega⟩
  rw [usesF, List.range_succ, usedBy_snoc, ring_used m (by omega), ring_last rfl]
  by_cases hb : back < m + 1
  · rw [if_pos hb]
    by_cases e : k = back
    · subst e
      by_cases hz : k = 0
      · subst hz; simp
      · rw [if_neg hz, if_pos (by omega)]; simp
    · rw [List.count_eq_zero_of_not_mem (by simpa using e), if_neg e]
      by_cases hz : k = 0
      · subst hz; simp
      · rw [if_neg hz, if_pos (by omega)]
  · rw [if_neg hb, if_neg (show ¬ k = back by omega)]
    simp only [List.count_nil]
    by_cases hz : k = 0
    · subst hz; simp
    · rw [if_neg hz, if_pos (by omega)]
theorem ring_leads {n back i : Nat} : ∀ d, i + d < n → Leads (kidN (ring n back)) i (i + d) := by
  intro d
  induction d with
  | zero => intro _; exact .refl
  | succ d ih => intro h; exact (ih (by omega)).step (by rw [ring_next (by omega)]; simp; omega)
theorem ring_acc {n back : Nat} (hb : n ≤ back) : ∀ d i, i + d + 1 = n → Acc (edge (kidN (ring n back))) i := by
  intro d
  induction d with
  | zero =>
    intro i h
    refine ⟨_, fun y hy => ?_⟩
    unfold edge at hy
    rw [ring_last (by omega), if_neg (by omega)] at hy
    simp at hy
  | succ d ih =>
    intro i h
    refine ⟨_, fun y hy => ?_⟩
    unfold edge at hy
    rw [ring_next (by omega)] at hy
    simp at hy
    subst hy
    exact ih (i + 1) (by omega)
theorem ring_cyc {n back : Nat} (hn : 1 ≤ n) (hn2 : n ≤ 50) {r : Nat} (hr : r < n) : cyclicB (ring n back) r = decide (back < n) := by
  rw [cyclicB, ring_is hn hn2 (by omega) (by omega), Bool.true_and, Int.toNat_natCast]
  have hR := RightG.of (ring_right n back hn hn2)
  have hc := hR.cyc (root := r) (by rw [ring_len]; exact hr)
  by_cases hb : back < n
  · rw [decide_eq_true hb, hc]
    intro ha
    have hl1 : Leads (kidN (ring n back)) r (n - 1) := by have := ring_leads (n := n) (back := back) (i := r) (n - 1 - r) (by omega); rwa [show r + (n - 1 - r) = n - 1 by omega] at this
    have hm : back ∈ kidN (ring n back) (n - 1) := by rw [ring_last (by omega), if_pos hb]; simp
    have hl2 : Leads (kidN (ring n back)) back (n - 1) := by have := ring_leads (n := n) (back := back) (i := back) (n - 1 - back) (by omega); rwa [show back + (n - 1 - back) = n - 1 by omega] at this
    exact no_round ((hl1.step hm).acc ha) (n - 1) hl2 hm
  · rw [decide_eq_false hb]
    cases h : cycL (ring n back) r
    · rfl
    · exact absurd (ring_acc (by omega) (n - 1 - r) r (by omega)) (hc.1 h)
theorem ring_reach {n back : Nat} (hn : 1 ≤ n) (hn2 : n ≤ 50) : (reachL (ring n back) 0).length = n := by
  rw [reachL, ring_is hn hn2 (by omega) (by omega), if_pos rfl]
  simp only [Int.toNat_zero, ring_met hn hn2, List.length_range]
end Go.Proofs.YtdcbngimgpdjoaaDoor
