/- Bombs in plain Lean: right, without a round, and how many nodes they unfold to. -/
import Derived.Test.YtdcbngimgpdjoaaDoorXk
namespace Go.Proofs.YtdcbngimgpdjoaaDoor
open Go.RowKit Go.Shelf Go.Deep
theorem bomb_len (n t : Nat) : (bombG n t).nodes.length = n := by simp [bombG]
theorem bomb_nd {n t i : Nat} (h : i < n) : nd (bombG n t).nodes i = bombN n t i := by simp [nd, bombG, h]
theorem bomb_next {n t i : Nat} (h : i + 1 < n) : kidN (bombG n t) i = List.replicate t (i + 1) := by
  rw [kidN, bomb_nd (by omega), bombN]
  simp only [if_pos h]
  simp
theorem bomb_last {n t i : Nat} (h : i + 1 = n) : kidN (bombG n t) i = [] := by
  rw [kidN, bomb_nd (by omega), bombN]
  simp only [if_neg (show ¬ i + 1 < n by omega)]
  simp
theorem bombK_len (n t i : Nat) : (bombN n t i).kids.length ≤ t := by unfold bombN; dsimp only; split <;> simp
theorem bomb_kid {n t i : Nat} {z : Int} (hz : z ∈ (bombN n t i).kids) : z = ((i + 1 : Nat) : Int) ∧ i + 1 < n := by
  simp only [bombN] at hz
  split at hz
  · rename_i h; exact ⟨(List.mem_replicate.1 hz).2, h⟩
  · simp at hz
theorem bomb_ok (n t : Nat) (hn : n ≤ 60) (ht : t ≤ 9) : (bombG n t).ok := by
  refine ⟨by rw [bomb_len]; unfold maxLen; omega, by simp [bombG, maxLen], fun e he => ?_, fun e he => ?_⟩
  · simp only [bombG, List.mem_map, List.mem_range] at he
    obtain ⟨i, hi, rfl⟩ := he
    refine ⟨by rfl, by simp [bombN, maxLen, ByteArray.size], by simp [bombN, maxLen, ByteArray.size], by have := bombK_len n t i; simp only [maxLen]; omega, fun z hz => ?_⟩
    obtain ⟨rfl, hz2⟩ := bomb_kid hz
    have h := wrap64_wf ((i + 1 : Nat) : Int)
    rwa [IntWalk.wrap64_in _ (by omega)] at h
  · simp only [bombG, List.mem_map, List.mem_range] at he
    obtain ⟨i, _, rfl⟩ := he
    have := bombK_len n t i
    omega
theorem bomb_right (n t : Nat) (hn : 1 ≤ n) (hn2 : n ≤ 60) (ht : t ≤ 9) : rightB (bombG n t) = true := by
  have hs : ∀ l : List Nat, sumK (l.map (bombN n t)) ≤ t * l.length := by
    intro l
    induction l with
    | nil => simp [sumK]
    | cons a l ih =>
      have := bombK_len n t a
      simp only [sumK, List.map_cons, List.sum_cons, List.length_cons, List.map_map] at ih ⊢
      rw [Nat.mul_succ]; omega
  have h1 := hs (List.range n)
  rw [List.length_range] at h1
  have h5 : t * n ≤ 9 * 60 := Nat.mul_le_mul ht hn2
  have hx : (bombG n t).nodes = (List.range n).map (bombN n t) := rfl
  simp only [rightB, Bool.and_eq_true, decide_eq_true_eq]
  refine ⟨⟨⟨⟨by rw [bomb_len]; omega, by simp [bombG]⟩, ?_⟩, by rw [hx]; omega⟩, ?_⟩
  · rw [bomb_len]; simp [areB, bombG]; omega
  · rw [List.all_eq_true]
    intro e he
    rw [hx] at he
    simp only [List.mem_map, List.mem_range] at he
    obtain ⟨i, hi, rfl⟩ := he
    rw [bomb_len]
    have h2 : nodeB (bombN n t i) = nodeB ⟨2, ⟨#[120]⟩, ⟨#[]⟩, [], false⟩ := rfl
    have h3 : nodeB ⟨2, ⟨#[120]⟩, ⟨#[]⟩, [], false⟩ = true := by kernel_rfl
    rw [h2, h3, Bool.true_and]
    simp only [areB, List.all_eq_true]
    intro z hz
    obtain ⟨rfl, hz2⟩ := bomb_kid hz
    simp; omega
/-- How many nodes: the last, so many times the next and one, and never more than the greatest. -/
def wantN (t : Nat) : Nat → Nat
  | 0 => 1
  | k + 1 => min (1 + t * wantN t k) great
theorem wantN_le (t k : Nat) : wantN t k ≤ great := by
  cases k with
  | zero => unfold wantN great; omega
  | succ k => exact Nat.min_le_right _ _
theorem wantN_pos (t k : Nat) : 1 ≤ wantN t k := by
  cases k with
  | zero => unfold wantN; omega
  | succ k => unfold wantN great; omega
theorem foldl_rep (s : Nat) : ∀ (t a : Nat), a ≤ great → (List.replicate t s).foldl sumN a = min (a + t * s) great := by
  intro t
  induction t with
  | zero => intro a ha; simp; omega
  | succ t ih =>
    intro a ha
    rw [List.replicate_succ, List.foldl_cons, ih _ (sumN_le _ _), Nat.succ_mul]
    unfold sumN
    omega
theorem bomb_acc (n t : Nat) : ∀ (d i : Nat), i + d + 1 = n → Acc (edge (kidN (bombG n t))) i ∧ sizeA (kidN (bombG n t)) i = wantN t d ∧ deepA (kidN (bombG n t)) i ≤ d + 1 := by
  intro d
  induction d with
  | zero =>
    intro i h
    have ha : Acc (edge (kidN (bombG n t))) i := ⟨_, fun y hy => by rw [edge, bomb_last (by omega)] at hy; cases hy⟩
    refine ⟨ha, ?_, ?_⟩
    · rw [sizeA_eq ha, bomb_last (by omega)]; rfl
    · rw [deepA_eq ha, bomb_last (by omega)]; exact Nat.le_refl _
  | succ d ih =>
    intro i h
    obtain ⟨h1, h2, h3⟩ := ih (i + 1) (by omega)
    have hk := bomb_next (n := n) (t := t) (i := i) (by omega)
    have ha : Acc (edge (kidN (bombG n t))) i := ⟨_, fun y hy => by rw [edge, hk] at hy; rw [(List.mem_replicate.1 hy).2]; exact h1⟩
    refine ⟨ha, ?_, ?_⟩
    · rw [sizeA_eq ha, hk, List.map_replicate, h2, foldl_rep _ _ _ (by unfold great; omega)]; rfl
    · rw [deepA_eq ha, hk, List.map_replicate]
      exact foldl_deep _ _ _ (fun c hc => by rw [(List.mem_replicate.1 hc).2]; omega) (by omega)
/-- One round of the law's count. -/
theorem wantN_step {t k : Nat} : (0 < t ∧ 4611686018427387903 / t < wantN t k ∧ wantN t (k + 1) = 4611686018427387904) ∨ (¬ (0 < t ∧ 4611686018427387903 / t < wantN t k) ∧ wantN t (k + 1) = 1 + t * wantN t k ∧ t * wantN t k < 4611686018427387904) := by
  by_cases h0 : 0 < t
  · by_cases h : 4611686018427387903 / t < wantN t k
    · left
      refine ⟨h0, h, ?_⟩
      have h1 : 4611686018427387903 < wantN t k * t := by rwa [Nat.div_lt_iff_lt_mul h0] at h
      rw [Nat.mul_comm] at h1
      show min _ _ = _
      unfold great; omega
    · right
      refine ⟨fun h2 => h h2.2, ?_⟩
      have h1 : ¬ 4611686018427387903 < wantN t k * t := by rwa [Nat.div_lt_iff_lt_mul h0] at h
      rw [Nat.mul_comm] at h1
      refine ⟨?_, by omega⟩
      show min _ _ = _
      unfold great; omega
  · right
    obtain rfl : t = 0 := by omega
    refine ⟨fun h2 => h0 h2.1, ?_, by omega⟩
    show min _ _ = _
    unfold great; omega
section
variable (n t : Nat) (hn : 1 ≤ n) (hn2 : n ≤ 60) (ht : t ≤ 9)
include hn hn2 ht
theorem bomb_err : errB (bombG n t) 0 = 0 := by
  have hr := bomb_right n t hn hn2 ht
  have hl := bomb_len n t
  have hi : isB (bombG n t) 0 = true := by
    rw [isB, hr, hl]
    simp; omega
  have h1 : cyclicB (bombG n t) 0 = false := by
    have h2 := (RightG.of hr).cyc (root := 0) (by rw [hl]; omega)
    have h3 := (bomb_acc n t (n - 1) 0 (by omega)).1
    rw [cyclicB, hi]
    cases h : cycL (bombG n t) 0 with
    | false => simpa using h
    | true => exact absurd h3 (h2.1 h)
  rw [errB, hi, h1]; rfl
theorem bomb_size : sizeB (bombG n t) 0 = wantN t (n - 1) := by
  rw [sizeB, if_pos (bomb_err n t hn hn2 ht)]; exact (bomb_acc n t (n - 1) 0 (by omega)).2.1
theorem bomb_deep : deepB (bombG n t) 0 ≤ 60 := by
  rw [deepB, if_pos (bomb_err n t hn hn2 ht)]; have := (bomb_acc n t (n - 1) 0 (by omega)).2.2; show deepA _ 0 ≤ 60; omega
theorem bomb_terr (most : Int) (hm : most ≤ 2000) : terrB (bombG n t) 0 most = if (wantN t (n - 1) : Int) > most then 14 else 0 := by
  have h1 := bomb_deep n t hn hn2 ht
  rw [terrB, if_neg (by rw [bomb_err n t hn hn2 ht]; simp), if_neg (by omega), bomb_size n t hn hn2 ht, show min most 1000000 = most by omega]
theorem bomb_none (most : Int) (hm : most ≤ 2000) (h : (wantN t (n - 1) : Int) > most) : treeB (bombG n t) 0 most = default := by
  rw [treeB, bomb_terr n t hn hn2 ht most hm, if_pos h, if_neg (by decide)]
theorem bomb_tree (most : Int) (hm : most ≤ 2000) (h : ¬ (wantN t (n - 1) : Int) > most) : (treeB (bombG n t) 0 most).count = wantN t (n - 1) := by
  rw [treeB, bomb_terr n t hn hn2 ht most hm, if_neg h, if_pos rfl]
  obtain ⟨ha, hs, _⟩ := bomb_acc n t (n - 1) 0 (by omega)
  rw [size_count ha] at hs
  show (treeA _ 0).count = _
  unfold great at hs
  omega
end
end Go.Proofs.YtdcbngimgpdjoaaDoor
