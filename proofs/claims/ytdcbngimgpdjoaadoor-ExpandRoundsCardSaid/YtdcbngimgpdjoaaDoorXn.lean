/- The law ExpandRounds in plain Lean: a list of lists with a way back, and a scalar beside it; and one node's Kids put anew. -/
import Derived.Test.YtdcbngimgpdjoaaDoorXk
namespace Go.Proofs.YtdcbngimgpdjoaaDoor
open Go.RowKit Go.Shelf Go.Deep
def rndK (n back i : Nat) : List Int := if i + 1 < n then [((i + 1 : Nat) : Int)] else if back < n then [(back : Int)] else []
def rndN (n back i : Nat) : Nd := ⟨2, ⟨#[120]⟩, ⟨#[]⟩, rndK n back i, false⟩
def scaN : Nd := ⟨1, ⟨#[120]⟩, ⟨#[]⟩, [], false⟩
def rndG (n back : Nat) : Gr := ⟨(List.range n).map (rndN n back) ++ [scaN], [0]⟩
theorem rnd_len (n back : Nat) : (rndG n back).nodes.length = n + 1 := by simp [rndG]
theorem rnd_nd {n back i : Nat} (h : i < n) : nd (rndG n back).nodes i = rndN n back i := by
  rw [nd_eq (by rw [rnd_len]; omega)]
  simp only [rndG]
  rw [List.getElem_append_left (by simpa using h)]
  simp
theorem rnd_ndS (n back : Nat) : nd (rndG n back).nodes n = scaN := by
  rw [nd_eq (by rw [rnd_len]; omega)]
  simp only [rndG]
  rw [List.getElem_append_right (by simp)]
  simp
theorem rnd_next {n back i : Nat} (h : i + 1 < n) : kidN (rndG n back) i = [i + 1] := by
  rw [kidN, rnd_nd (by omega), rndN]
  simp only [rndK, if_pos h]
  simp
theorem rnd_last {n back i : Nat} (h : i + 1 = n) : kidN (rndG n back) i = if back < n then [back] else [] := by
  rw [kidN, rnd_nd (by omega), rndN]
  simp only [rndK, if_neg (show ¬ i + 1 < n by omega)]
  split <;> simp
theorem rnd_sca (n back : Nat) : kidN (rndG n back) n = [] := by rw [kidN, rnd_ndS]; rfl
theorem rndK_len (n back i : Nat) : (rndK n back i).length ≤ 1 := by unfold rndK; split <;> (try split) <;> simp
theorem rnd_mem {n back : Nat} {e : Nd} (he : e ∈ (rndG n back).nodes) : (∃ i, i < n ∧ e = rndN n back i) ∨ e = scaN := by
  simp only [rndG, List.mem_append, List.mem_map, List.mem_range, List.mem_singleton] at he
  rcases he with ⟨i, hi, rfl⟩ | rfl
  · exact .inl ⟨i, hi, rfl⟩
  · exact .inr rfl
theorem rndK_mem {n back i : Nat} {z : Int} (hi : i < n) (hz : z ∈ rndK n back i) : 0 ≤ z ∧ z < n := by
  unfold rndK at hz
  split at hz
  · simp at hz; omega
  · split at hz
    · simp at hz; omega
    · simp at hz
theorem rnd_ok (n back : Nat) (hn : n ≤ 50) : (rndG n back).ok := by
  refine ⟨by rw [rnd_len]; unfold maxLen; omega, by simp [rndG, maxLen], fun e he => ?_, fun e he => ?_⟩
  · rcases rnd_mem he with ⟨i, hi, rfl⟩ | rfl
    · refine ⟨by rfl, by simp [rndN, maxLen, ByteArray.size], by simp [rndN, maxLen, ByteArray.size], by have := rndK_len n back i; simp only [rndN, maxLen]; omega, fun z hz => ?_⟩
      have hz2 := rndK_mem hi hz
      have h := wrap64_wf z
      rwa [IntWalk.wrap64_in z (by omega)] at h
    · exact ⟨by rfl, by simp [scaN, maxLen, ByteArray.size], by simp [scaN, maxLen, ByteArray.size], by simp [scaN, maxLen], fun z hz => by simp [scaN] at hz⟩
  · rcases rnd_mem he with ⟨i, hi, rfl⟩ | rfl
    · have := rndK_len n back i
      simp only [rndN]; omega
    · simp [scaN]
theorem rnd_right (n back : Nat) (hn2 : n ≤ 50) : rightB (rndG n back) = true := by
  have hs : ∀ l : List Nat, sumK (l.map (rndN n back)) ≤ l.length := by
    intro l
    induction l with
    | nil => simp [sumK]
    | cons a l ih =>
      have := rndK_len n back a
      simp [sumK, rndN] at ih ⊢; omega
  have h1 := hs (List.range n)
  rw [List.length_range] at h1
  have h2 : sumK (rndG n back).nodes ≤ n := by
    have : sumK (rndG n back).nodes = sumK ((List.range n).map (rndN n back)) + 0 := by
      simp [sumK, rndG, scaN]
    omega
  simp only [rightB, Bool.and_eq_true, decide_eq_true_eq]
  refine ⟨⟨⟨⟨by rw [rnd_len]; omega, by simp [rndG]⟩, ?_⟩, by omega⟩, ?_⟩
  · rw [rnd_len]; simp [areB, rndG]
  · rw [List.all_eq_true]
    intro e he
    rw [rnd_len]
    rcases rnd_mem he with ⟨i, hi, rfl⟩ | rfl
    · have h2 : nodeB (rndN n back i) = nodeB ⟨2, ⟨#[120]⟩, ⟨#[]⟩, [], false⟩ := rfl
      have h3 : nodeB ⟨2, ⟨#[120]⟩, ⟨#[]⟩, [], false⟩ = true := by kernel_rfl
      rw [h2, h3, Bool.true_and]
      simp only [areB, List.all_eq_true]
      intro z hz
      have := rndK_mem hi hz
      simp; omega
    · have h3 : nodeB scaN = true := by kernel_rfl
      rw [h3]
      simp [areB, scaN]
/-- With a way back no node of the lists comes to an end. -/
theorem rnd_round {n back : Nat} (hb : back < n) {x : Nat} (ha : Acc (edge (kidN (rndG n back))) x) : ¬ x < n := by
  induction ha with
  | intro x _ ih =>
    intro hx
    by_cases h : x + 1 < n
    · exact ih (x + 1) (by rw [edge, rnd_next h]; exact List.mem_singleton.2 rfl) h
    · exact ih back (by rw [edge, rnd_last (by omega), if_pos hb]; exact List.mem_singleton.2 rfl) hb
theorem rnd_acc (n back : Nat) (hb : ¬ back < n) : ∀ (d i : Nat), i + d + 1 = n → Acc (edge (kidN (rndG n back))) i ∧ sizeA (kidN (rndG n back)) i = min (d + 1) great ∧ deepA (kidN (rndG n back)) i ≤ d + 1 := by
  intro d
  induction d with
  | zero =>
    intro i h
    have hk : kidN (rndG n back) i = [] := by rw [rnd_last (by omega), if_neg hb]
    have ha : Acc (edge (kidN (rndG n back))) i := ⟨_, fun y hy => by rw [edge, hk] at hy; cases hy⟩
    refine ⟨ha, ?_, ?_⟩
    · rw [sizeA_eq ha, hk]; rfl
    · rw [deepA_eq ha, hk]; exact Nat.le_refl _
  | succ d ih =>
    intro i h
    obtain ⟨h1, h2, h3⟩ := ih (i + 1) (by omega)
    have hk := rnd_next (n := n) (back := back) (i := i) (by omega)
    have ha : Acc (edge (kidN (rndG n back))) i := ⟨_, fun y hy => by rw [edge, hk] at hy; rw [List.mem_singleton.1 hy]; exact h1⟩
    refine ⟨ha, ?_, ?_⟩
    · rw [sizeA_eq ha, hk, List.map_singleton, h2]
      simp only [List.foldl_cons, List.foldl_nil, sumN]
      unfold great; omega
    · rw [deepA_eq ha, hk]
      simp only [List.map_cons, List.map_nil, List.foldl_cons, List.foldl_nil]
      omega
theorem rnd_accS (n back : Nat) : Acc (edge (kidN (rndG n back))) n ∧ sizeA (kidN (rndG n back)) n = 1 ∧ deepA (kidN (rndG n back)) n = 1 := by
  have ha : Acc (edge (kidN (rndG n back))) n := ⟨_, fun y hy => by rw [edge, rnd_sca] at hy; cases hy⟩
  exact ⟨ha, by rw [sizeA_eq ha, rnd_sca]; rfl, by rw [deepA_eq ha, rnd_sca]; rfl⟩
theorem rnd_is {n back root : Nat} (hn : n ≤ 50) (hr : root ≤ n) : isB (rndG n back) root = true := by
  rw [isB, rnd_right n back hn, rnd_len]
  simp; omega
theorem rnd_cyc0 {n back root : Nat} (hn : n ≤ 50) (hr : root ≤ n) (ha : Acc (edge (kidN (rndG n back))) root) : errB (rndG n back) root = 0 := by
  have h2 := (RightG.of (rnd_right n back hn)).cyc (root := root) (by rw [rnd_len]; omega)
  have h3 : cyclicB (rndG n back) root = cycL (rndG n back) root := by rw [cyclicB, rnd_is hn hr]; simp
  have h4 : cycL (rndG n back) root = false := by
    cases h : cycL (rndG n back) root with
    | false => rfl
    | true => exact absurd ha (h2.1 h)
  rw [errB, rnd_is hn hr, h3, h4]; rfl
theorem rnd_cyc1 {n back root : Nat} (hn : n ≤ 50) (hr : root ≤ n) (ha : ¬ Acc (edge (kidN (rndG n back))) root) : errB (rndG n back) root = 13 := by
  have h2 := (RightG.of (rnd_right n back hn)).cyc (root := root) (by rw [rnd_len]; omega)
  have h3 : cyclicB (rndG n back) root = cycL (rndG n back) root := by rw [cyclicB, rnd_is hn hr]; simp
  rw [errB, rnd_is hn hr, h3, h2.2 ha]; rfl
/-- What the law asks, in its three cases. -/
theorem rnd_S {n back : Nat} (hn : n ≤ 50) (most : Int) : errB (rndG n back) n = 0 ∧ sizeB (rndG n back) n = 1 ∧ (terrB (rndG n back) n most = if most > 0 then 0 else 14) := by
  have ha := rnd_accS n back
  have he : errB (rndG n back) n = 0 := rnd_cyc0 hn (Nat.le_refl _) ha.1
  have hs : sizeB (rndG n back) n = 1 := by rw [sizeB, if_pos he]; exact ha.2.1
  have hd : deepB (rndG n back) n = 1 := by rw [deepB, if_pos he]; exact ha.2.2
  refine ⟨he, hs, ?_⟩
  rw [terrB, if_neg (by rw [he]; simp), hd, hs]
  simp only [Nat.reduceLT, if_false]
  by_cases h : most > 0
  · rw [if_pos h, if_neg (by omega)]
  · rw [if_neg h, if_pos (by omega)]
theorem rnd_C {n back root : Nat} (hn : n ≤ 50) (hb : back < n) (hr : root < n) (most : Int) : errB (rndG n back) root = 13 ∧ sizeB (rndG n back) root = 0 ∧ terrB (rndG n back) root most = 13 ∧ treeB (rndG n back) root most = default := by
  have he : errB (rndG n back) root = 13 := rnd_cyc1 hn (by omega) fun h => rnd_round hb h hr
  have ht : terrB (rndG n back) root most = 13 := by rw [terrB, if_pos (by rw [he]; simp), he]
  exact ⟨he, by rw [sizeB, if_neg (by rw [he]; simp)], ht, by rw [treeB, if_neg (by rw [ht]; simp)]⟩
theorem rnd_L {n back root : Nat} (hn : n ≤ 50) (hb : back = n) (hr : root < n) (most : Int) : errB (rndG n back) root = 0 ∧ sizeB (rndG n back) root = n - root ∧ (terrB (rndG n back) root most = if most ≥ ((n - root : Nat) : Int) then 0 else 14) := by
  have ha := rnd_acc n back (by omega) (n - root - 1) root (by omega)
  have he : errB (rndG n back) root = 0 := rnd_cyc0 hn (by omega) ha.1
  have hs : sizeB (rndG n back) root = n - root := by
    rw [sizeB, if_pos he]
    show sizeA _ root = _
    rw [ha.2.1]; unfold great; omega
  have hd : deepB (rndG n back) root ≤ 60 := by
    rw [deepB, if_pos he]
    show deepA _ root ≤ 60
    have := ha.2.2; omega
  refine ⟨he, hs, ?_⟩
  rw [terrB, if_neg (by rw [he]; simp), if_neg (by omega), hs]
  by_cases h : most ≥ ((n - root : Nat) : Int)
  · rw [if_pos h, if_neg (by omega)]
  · rw [if_neg h, if_pos (by omega)]
/-- One node's Kids, put anew. -/
def kidE (e : NdK) (ks : List Int) (A : Option Addr) (c : Nat) : NdK := (⟨e.1.kind, e.1.tag, e.1.text, ks, e.1.plain⟩, A, c)
theorem nrows_lenX (L : List NdK) : (nrows L).length = L.length * 5 := by
  induction L with
  | nil => rfl
  | cons a L ih =>
    have hl : (nrow a).length = 5 := rfl
    have h2 : nrows (a :: L) = nrow a ++ nrows L := by simp [nrows]
    rw [h2, List.length_append, ih, hl, List.length_cons]; omega
theorem nrows_kid {L : List NdK} {k : Nat} (h : k < L.length) (ks : List Int) (A : Option Addr) (c : Nat) : nrows (L.set k (kidE L[k] ks A c)) = (nrows L).set (k * 5 + 3) (.slice A ks.length c) := by
  apply List.ext_getElem?
  intro j
  have hL := nrows_lenX L
  by_cases hj : j < L.length * 5
  · obtain ⟨q, r, hr, rfl⟩ : ∃ q r, r < 5 ∧ j = q * 5 + r := ⟨j / 5, j % 5, Nat.mod_lt _ (by omega), by omega⟩
    have hq : q < L.length := by omega
    rw [nrows_get _ q r (by rw [List.length_set]; exact hq) hr, List.getElem_set, List.getElem?_set]
    by_cases e1 : k = q
    · subst e1
      rw [if_pos rfl]
      match r, hr with
      | 0, _ => rw [if_neg (by omega), nrows_get L k 0 hq (by omega)]; rfl
      | 1, _ => rw [if_neg (by omega), nrows_get L k 1 hq (by omega)]; rfl
      | 2, _ => rw [if_neg (by omega), nrows_get L k 2 hq (by omega)]; rfl
      | 3, _ => rw [if_pos rfl, if_pos (by omega)]; rfl
      | 4, _ => rw [if_neg (by omega), nrows_get L k 4 hq (by omega)]; rfl
    · rw [if_neg e1, if_neg (by omega), nrows_get L q r hq hr]
  · rw [List.getElem?_eq_none (by rw [nrows_lenX, List.length_set]; omega), List.getElem?_eq_none (by rw [List.length_set, hL]; omega)]
theorem NdsOwn.kid {W : World} {N g c n k : Nat} {L : List NdK} {ks : List Int} {A : Option Addr} {c' : Nat} (h : NdsOwn W N (.slice (some ⟨g, 0, none⟩) n c) L) (hl : L.length = n) (hk : k < L.length) (he : KidOk W N (.slice (some ⟨g, 0, none⟩) n c) (kidE L[k] ks A c')) :
    NdsOwn (W.setCell ⟨g, k * 5 + 3, none⟩ (.slice A ks.length c')) N (.slice (some ⟨g, 0, none⟩) n c) (L.set k (kidE L[k] ks A c')) := by
  subst hl
  have hb : ∀ b, b ≠ g → (W.setCell ⟨g, k * 5 + 3, none⟩ (.slice A ks.length c')).heap[b]? = W.heap[b]? := fun b hl => Below.heap_setCell W ⟨g, _, none⟩ _ b hl
  have hz : (W.setCell ⟨g, k * 5 + 3, none⟩ (.slice A ks.length c')).heap.size = W.heap.size := by simp
  refine ⟨?_, fun x hx => ?_⟩
  · rw [List.length_set, nrows_kid hk]
    exact (h.own.stored (k * 5 + 3) (.slice A ks.length c')).1
  · have key : ∀ e0, KidOk W N (.slice (some ⟨g, 0, none⟩) L.length c) e0 → KidOk (W.setCell ⟨g, k * 5 + 3, none⟩ (.slice A ks.length c')) N (.slice (some ⟨g, 0, none⟩) L.length c) e0 := fun e0 h0 => h0.keep (by rw [hz]; exact Nat.le_refl _) fun b _ _ hn => hb b (fun e => hn (by rw [e]; rfl))
    rcases List.mem_or_eq_of_mem_set hx with h0 | rfl
    · exact key x (h.kids x h0)
    · exact key _ he
end Go.Proofs.YtdcbngimgpdjoaaDoor
