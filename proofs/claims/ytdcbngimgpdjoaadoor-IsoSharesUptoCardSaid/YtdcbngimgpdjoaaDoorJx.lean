/- The law IsoShares. Conditions: utf8's tables lie in the world; the text holds no more than a million million letters. -/
import Derived.Test.YtdcbngimgpdjoaaDoorJa
import Derived.Lib.ValidLaws
import Derived.Test.YtdcbngimgpdjoaaDoorGb
import Derived.Deep.RegionHeld3
namespace Go.Proofs.YtdcbngimgpdjoaaDoor
open Go.RowKit Go.Shelf Go.Deep Go.Lib
theorem decodeN_more {n b0 b1 b2 b3 c1 c2 c3 : Nat} (h1 : (1 < n + 1 ∧ c1 / 64 = 2) ↔ (1 < n ∧ b1 / 64 = 2)) (h2 : (2 < n + 1 ∧ c2 / 64 = 2) ↔ (2 < n ∧ b2 / 64 = 2)) (h3 : (3 < n + 1 ∧ c3 / 64 = 2) ↔ (3 < n ∧ b3 / 64 = 2))
    (e1 : 1 < n → c1 = b1) (e2 : 2 < n → c2 = b2) (e3 : 3 < n → c3 = b3) : decodeN (n + 1) b0 c1 c2 c3 = decodeN n b0 b1 b2 b3 := by
  unfold decodeN
  simp only [h1, h2, h3]
  by_cases q1 : 1 < n ∧ b1 / 64 = 2
  · rw [e1 q1.1]
    by_cases q2 : 2 < n ∧ b2 / 64 = 2
    · rw [e2 q2.1]
      by_cases q3 : 3 < n ∧ b3 / 64 = 2
      · rw [e3 q3.1]
      · simp only [q3, and_false, if_false]
    · simp only [q2, and_false, false_and, if_false]
  · simp only [q1, and_false, false_and, if_false]
theorem decodeN_width {n b0 b1 b2 b3 : Nat} (hn : 1 ≤ n) : 1 ≤ (decodeN n b0 b1 b2 b3).2 ∧ (decodeN n b0 b1 b2 b3).2 ≤ n := by
  unfold decodeN
  repeat' split
  all_goals simp only
  all_goals omega
theorem getD_app {l : List UInt8} {k : Nat} (h : k < l.length) : (l ++ [118]).getD k 0 = l.getD k 0 := by
  simp [List.getD_eq_getElem?_getD, List.getElem?_append_left h]
theorem getD_at {l : List UInt8} {k : Nat} (h : k = l.length) : (l ++ [118]).getD k 0 = 118 := by
  subst h; simp [List.getD_eq_getElem?_getD]
theorem decodeL_snoc {l : List UInt8} (h : l ≠ []) : decodeL (l ++ [118]) = decodeL l := by
  have hl := List.length_pos_iff.2 h
  rw [decodeL_N, decodeL_N, List.length_append, getD_app hl]
  have key : ∀ k, (k < l.length + 1 ∧ ((l ++ [118]).getD k 0).toNat / 64 = 2) ↔ (k < l.length ∧ (l.getD k 0).toNat / 64 = 2) := fun k => by
    by_cases hk : k < l.length
    · rw [getD_app hk]; constructor <;> (rintro ⟨_, h⟩; exact ⟨by omega, h⟩)
    · constructor
      · rintro ⟨h1, h2⟩
        rw [getD_at (by omega)] at h2
        exact absurd h2 (by decide)
      · rintro ⟨h1, _⟩; exact absurd h1 hk
  exact decodeN_more (key 1) (key 2) (key 3) (fun h => by rw [getD_app h]) (fun h => by rw [getD_app h]) (fun h => by rw [getD_app h])
theorem validD_snoc : ∀ (m : Nat) (l : List UInt8), l.length ≤ m → validD (l ++ [118]) = validD l := by
  intro m
  induction m with
  | zero =>
    intro l hl
    obtain rfl : l = [] := List.length_eq_zero_iff.1 (by omega)
    rw [List.nil_append, validD_cons _ _ (by decide)]
  | succ m ih =>
    intro l hl
    by_cases hne : l = []
    · subst hne; rw [List.nil_append, validD_cons _ _ (by decide)]
    · have h0 := List.length_pos_iff.2 hne
      rw [validD_step _ (by simp), validD_step l hne, decodeL_snoc hne]
      have hw : 1 ≤ (decodeL l).2 ∧ (decodeL l).2 ≤ l.length := by rw [decodeL_N]; exact decodeN_width h0
      rw [List.drop_append_of_le_length hw.2, ih _ (by rw [List.length_drop]; omega)]
theorem textB_snoc (s : ByteArray) (h : s.size ≤ 1000) : textB (s ++ ⟨#[118]⟩) = textB s := by
  unfold textB
  have h1 : (s ++ ⟨#[118]⟩ : ByteArray).data.toList = s.data.toList ++ [118] := by simp
  have h2 : (s ++ ⟨#[118]⟩ : ByteArray).size = s.size + 1 := by rw [ByteArray.size_append]; rfl
  rw [h1, h2, validD_snoc _ _ (Nat.le_refl _), decide_eq_true (by omega), decide_eq_true (by omega)]
def sx (s : ByteArray) : Nd := ⟨1, ⟨#[120]⟩, s, [], false⟩
def st (k : Int) (l : List Int) : Nd := ⟨k, ⟨#[116]⟩, ⟨#[]⟩, l, false⟩
def gOne (s : ByteArray) : Gr := ⟨[st 2 [1, 1], sx s], [0]⟩
def gTwo (s : ByteArray) : Gr := ⟨[st 2 [1, 2], sx s, sx s], [0]⟩
def gAb (s : ByteArray) : Gr := ⟨[st 3 [1, 2], sx s, sx (s ++ ⟨#[118]⟩)], [0]⟩
def gBa (s : ByteArray) : Gr := ⟨[st 3 [2, 1], sx s, sx (s ++ ⟨#[118]⟩)], [0]⟩
def gRing : Gr := ⟨[st 2 [0]], [0]⟩
def gRings : Gr := ⟨[st 2 [1], st 2 [0]], [0]⟩
def gRoots (s : ByteArray) : Gr := ⟨[sx s], [0, 0]⟩
def gApart (s : ByteArray) : Gr := ⟨[sx s, sx s], [0, 1]⟩
theorem o_one (s : ByteArray) : orderL (gOne s) = [0, 1] := by kernel_rfl
theorem o_two (s : ByteArray) : orderL (gTwo s) = [0, 1, 2] := by kernel_rfl
theorem o_ab (s : ByteArray) : orderL (gAb s) = [0, 1, 2] := by kernel_rfl
theorem o_ba (s : ByteArray) : orderL (gBa s) = [0, 2, 1] := by kernel_rfl
theorem o_ring : orderL gRing = [0] := by kernel_rfl
theorem o_rings : orderL gRings = [0, 1] := by kernel_rfl
theorem o_roots (s : ByteArray) : orderL (gRoots s) = [0] := by kernel_rfl
theorem o_apart (s : ByteArray) : orderL (gApart s) = [0, 1] := by kernel_rfl
theorem same_len {G H : Gr} (h : (orderL G).length ≠ (orderL H).length) : sameB G H = false := by
  unfold sameB
  rw [decide_eq_false, Bool.and_false]
  intro e
  have := congrArg (fun g => g.nodes.length) e
  simp only [bareG, formG, List.length_map] at this
  exact h this
theorem same_text {G H : Gr} {k i j : Nat} (h1 : (orderL G)[k]? = some i) (h2 : (orderL H)[k]? = some j) (h : (nd G.nodes i).text ≠ (nd H.nodes j).text) : sameB G H = false := by
  unfold sameB
  rw [decide_eq_false, Bool.and_false]
  intro e
  have := congrArg (fun g => g.nodes[k]?) e
  simp only [bareG, formG, List.getElem?_map, h1, h2, Option.map_some, Option.some.injEq] at this
  have h3 := congrArg Nd.text this
  exact h h3
theorem app_ne (s : ByteArray) : s ≠ s ++ ⟨#[118]⟩ := fun e => by
  have := congrArg ByteArray.size e
  rw [ByteArray.size_append] at this
  have h : (⟨#[118]⟩ : ByteArray).size = 1 := rfl
  omega
theorem sh0 (s : ByteArray) : sameB (gOne s) (gTwo s) = false ∧ sameB (gTwo s) (gOne s) = false := ⟨same_len (by rw [o_one, o_two]; decide), same_len (by rw [o_one, o_two]; decide)⟩
theorem sh1 (s : ByteArray) : sameB (gAb s) (gBa s) = false ∧ sameB (gBa s) (gAb s) = false :=
  ⟨same_text (k := 1) (i := 1) (j := 2) (by rw [o_ab]; rfl) (by rw [o_ba]; rfl) (app_ne s), same_text (k := 1) (i := 2) (j := 1) (by rw [o_ba]; rfl) (by rw [o_ab]; rfl) (fun e => app_ne s e.symm)⟩
theorem sh2 : sameB gRing gRings = false ∧ sameB gRings gRing = false := ⟨same_len (by rw [o_ring, o_rings]; decide), same_len (by rw [o_ring, o_rings]; decide)⟩
theorem sh3 (s : ByteArray) : sameB (gRoots s) (gApart s) = false ∧ sameB (gApart s) (gRoots s) = false := ⟨same_len (by rw [o_roots, o_apart]; decide), same_len (by rw [o_roots, o_apart]; decide)⟩
theorem same_self (G : Gr) : sameB G G = rightB G := by simp [sameB]
theorem nodeB_sx (s : ByteArray) : nodeB (sx s) = textB s := by
  have h1 : tagB ⟨#[120]⟩ = true := by kernel_rfl
  have h2 : (decide ((⟨#[120]⟩ : ByteArray).size ≤ 1000) && !((⟨#[120]⟩ : ByteArray).toList == [33])) = true := by kernel_rfl
  unfold nodeB kindB sx
  simp only [h1, h2]
  simp
theorem nodeB_st1 : nodeB (st 2 [1, 1]) = true := by kernel_rfl
theorem nodeB_st2 : nodeB (st 3 [1, 2]) = true := by kernel_rfl
theorem r_one (s : ByteArray) : rightB (gOne s) = textB s := by
  simp [rightB, gOne, areB, sumK, nodeB_sx, nodeB_st1]
  simp [sx, st]
theorem sh_all (s : ByteArray) (h : s.size ≤ 1000) : sameB (gOne s) (gOne s) = textB s ∧ sameB (gAb s) (gAb s) = textB s ∧ sameB (gRoots s) (gRoots s) = textB s ∧ rightB (gOne s) = textB s := by
  refine ⟨by rw [same_self, r_one], ?_, ?_, r_one s⟩
  · rw [same_self]
    simp [rightB, gAb, areB, sumK, nodeB_sx, nodeB_st2, textB_snoc s h]
    simp [sx, st]
  · rw [same_self]
    simp [rightB, gRoots, areB, sumK, nodeB_sx]
    simp [sx]
theorem sx_ok (s : ByteArray) (h : s.size ≤ 1000) : (sx s).ok := ⟨rfl, by show (1 : Nat) ≤ _; decide, by show s.size ≤ _; unfold maxLen; omega, by show (0 : Nat) ≤ _; decide, fun z hz => by simp [sx] at hz⟩
theorem st_ok {k : Int} {l : List Int} (hk : k = 2 ∨ k = 3) (hl : l.length ≤ 2) (hz : ∀ z ∈ l, z = 0 ∨ z = 1 ∨ z = 2) : (st k l).ok :=
  ⟨by rcases hk with rfl | rfl <;> rfl, by show (1 : Nat) ≤ _; decide, by show (0 : Nat) ≤ _; decide, by show l.length ≤ _; unfold maxLen; omega, fun z h => by rcases hz z h with rfl | rfl | rfl <;> rfl⟩
theorem gok {G : Gr} (h1 : G.nodes.length ≤ 3) (h2 : G.roots.length ≤ 2) (h3 : ∀ e ∈ G.nodes, e.ok) (h4 : ∀ e ∈ G.nodes, e.kids.length ≤ 2) : G.ok :=
  ⟨by unfold maxLen; omega, by unfold maxLen; omega, h3, fun e he => by have := h4 e he; omega⟩
theorem sv_size {s : ByteArray} (h : s.size ≤ 100) : (s ++ ⟨#[118]⟩ : ByteArray).size ≤ 1000 := by
  rw [ByteArray.size_append]
  have : (⟨#[118]⟩ : ByteArray).size = 1 := rfl
  omega
theorem okOne {s : ByteArray} (h : s.size ≤ 100) : (gOne s).ok := gok (by simp [gOne]) (by simp [gOne]) (fun e he => by
  simp [gOne] at he; rcases he with rfl | rfl
  · exact st_ok (by simp) (by simp) (by simp)
  · exact sx_ok s (by omega)) (fun e he => by simp [gOne] at he; rcases he with rfl | rfl <;> simp [st, sx])
theorem okTwo {s : ByteArray} (h : s.size ≤ 100) : (gTwo s).ok := gok (by simp [gTwo]) (by simp [gTwo]) (fun e he => by
  simp [gTwo] at he; rcases he with rfl | rfl
  · exact st_ok (by simp) (by simp) (by simp)
  · exact sx_ok s (by omega)) (fun e he => by simp [gTwo] at he; rcases he with rfl | rfl <;> simp [st, sx])
theorem okAb {s : ByteArray} (h : s.size ≤ 100) : (gAb s).ok := gok (by simp [gAb]) (by simp [gAb]) (fun e he => by
  simp [gAb] at he; rcases he with rfl | rfl | rfl
  · exact st_ok (by simp) (by simp) (by simp)
  · exact sx_ok s (by omega)
  · exact sx_ok _ (sv_size h)) (fun e he => by simp [gAb] at he; rcases he with rfl | rfl | rfl <;> simp [st, sx])
theorem okBa {s : ByteArray} (h : s.size ≤ 100) : (gBa s).ok := gok (by simp [gBa]) (by simp [gBa]) (fun e he => by
  simp [gBa] at he; rcases he with rfl | rfl | rfl
  · exact st_ok (by simp) (by simp) (by simp)
  · exact sx_ok s (by omega)
  · exact sx_ok _ (sv_size h)) (fun e he => by simp [gBa] at he; rcases he with rfl | rfl | rfl <;> simp [st, sx])
theorem okRing : gRing.ok := gok (by simp [gRing]) (by simp [gRing]) (fun e he => by simp [gRing] at he; subst he; exact st_ok (by simp) (by simp) (by simp)) (fun e he => by simp [gRing] at he; subst he; simp [st])
theorem okRings : gRings.ok := gok (by simp [gRings]) (by simp [gRings]) (fun e he => by simp [gRings] at he; rcases he with rfl | rfl <;> exact st_ok (by simp) (by simp) (by simp)) (fun e he => by simp [gRings] at he; rcases he with rfl | rfl <;> simp [st])
theorem okRoots {s : ByteArray} (h : s.size ≤ 100) : (gRoots s).ok := gok (by simp [gRoots]) (by simp [gRoots]) (fun e he => by simp [gRoots] at he; subst he; exact sx_ok s (by omega)) (fun e he => by simp [gRoots] at he; subst he; simp [sx])
theorem okApart {s : ByteArray} (h : s.size ≤ 100) : (gApart s).ok := gok (by simp [gApart]) (by simp [gApart]) (fun e he => by simp [gApart] at he; subst he; exact sx_ok s (by omega)) (fun e he => by simp [gApart] at he; subst he; simp [sx])
theorem okROne {s : ByteArray} (h : s.size ≤ 100) : (gOne s).okR := by
  refine ⟨by simp [gOne, maxLen], by simp [gOne, maxLen], fun e he => ?_, fun e he => ?_, fun e he => ?_⟩ <;> simp [gOne] at he <;> rcases he with rfl | rfl
  · show (1 : Nat) ≤ _; decide
  · show (1 : Nat) ≤ _; decide
  · show (0 : Nat) ≤ _; decide
  · show s.size ≤ _; omega
  · simp [st]
  · simp [sx]
/-- What lies where, behind them. -/
structure ShRows (w1 : World) (s : ByteArray) (W : World) : Prop where
  size : w1.heap.size + 34 ≤ W.heap.size
  below : Below w1.heap.size w1 W
  q0 : W.heap[w1.heap.size]? = some (.cells #[.int .i64 1, .string ⟨#[120]⟩, .string s, .slice none 0 0, .bool false] 33 (0, 0))
  q1 : W.heap[w1.heap.size + 1]? = some (.cells #[.int .i64 1, .string ⟨#[120]⟩, .string (s ++ ⟨#[118]⟩), .slice none 0 0, .bool false] 33 (0, 0))
  q2 : W.heap[w1.heap.size + 1 + 1]? = some (.cells #[.int .i64 1, .int .i64 1] 3 (0, 0))
  q3 : W.heap[w1.heap.size + 1 + 1 + 1]? = some (.cells #[.int .i64 2, .string ⟨#[116]⟩, .string ⟨#[]⟩, .slice (some ⟨w1.heap.size + 1 + 1, 0, none⟩) 2 2, .bool false, .int .i64 1, .string ⟨#[120]⟩, .string s, .slice none 0 0, .bool false] 33 (0, 0))
  q4 : W.heap[w1.heap.size + 1 + 1 + 1 + 1]? = some (.cells #[.int .i64 0] 3 (0, 0))
  q5 : W.heap[w1.heap.size + 1 + 1 + 1 + 1 + 1]? = some (.cells #[.slice (some ⟨w1.heap.size + 1 + 1 + 1, 0, none⟩) 2 2, .slice (some ⟨w1.heap.size + 1 + 1 + 1 + 1, 0, none⟩) 1 1] 25 (0, 0))
  q6 : W.heap[w1.heap.size + 1 + 1 + 1 + 1 + 1 + 1]? = some (.cells #[.int .i64 1, .int .i64 2] 3 (0, 0))
  q7 : W.heap[w1.heap.size + 1 + 1 + 1 + 1 + 1 + 1 + 1]? = some (.cells #[.int .i64 2, .string ⟨#[116]⟩, .string ⟨#[]⟩, .slice (some ⟨w1.heap.size + 1 + 1 + 1 + 1 + 1 + 1, 0, none⟩) 2 2, .bool false, .int .i64 1, .string ⟨#[120]⟩, .string s, .slice none 0 0, .bool false, .int .i64 1, .string ⟨#[120]⟩, .string s, .slice none 0 0, .bool false] 33 (0, 0))
  q8 : W.heap[w1.heap.size + 1 + 1 + 1 + 1 + 1 + 1 + 1 + 1]? = some (.cells #[.int .i64 0] 3 (0, 0))
  q9 : W.heap[w1.heap.size + 1 + 1 + 1 + 1 + 1 + 1 + 1 + 1 + 1]? = some (.cells #[.slice (some ⟨w1.heap.size + 1 + 1 + 1 + 1 + 1 + 1 + 1, 0, none⟩) 3 3, .slice (some ⟨w1.heap.size + 1 + 1 + 1 + 1 + 1 + 1 + 1 + 1, 0, none⟩) 1 1] 25 (0, 0))
  q10 : W.heap[w1.heap.size + 1 + 1 + 1 + 1 + 1 + 1 + 1 + 1 + 1 + 1]? = some (.cells #[.int .i64 1, .int .i64 2] 3 (0, 0))
  q11 : W.heap[w1.heap.size + 1 + 1 + 1 + 1 + 1 + 1 + 1 + 1 + 1 + 1 + 1]? = some (.cells #[.int .i64 3, .string ⟨#[116]⟩, .string ⟨#[]⟩, .slice (some ⟨w1.heap.size + 1 + 1 + 1 + 1 + 1 + 1 + 1 + 1 + 1 + 1, 0, none⟩) 2 2, .bool false, .int .i64 1, .string ⟨#[120]⟩, .string s, .slice none 0 0, .bool false, .int .i64 1, .string ⟨#[120]⟩, .string (s ++ ⟨#[118]⟩), .slice none 0 0, .bool false] 33 (0, 0))
  q12 : W.heap[w1.heap.size + 1 + 1 + 1 + 1 + 1 + 1 + 1 + 1 + 1 + 1 + 1 + 1]? = some (.cells #[.int .i64 0] 3 (0, 0))
  q13 : W.heap[w1.heap.size + 1 + 1 + 1 + 1 + 1 + 1 + 1 + 1 + 1 + 1 + 1 + 1 + 1]? = some (.cells #[.slice (some ⟨w1.heap.size + 1 + 1 + 1 + 1 + 1 + 1 + 1 + 1 + 1 + 1 + 1, 0, none⟩) 3 3, .slice (some ⟨w1.heap.size + 1 + 1 + 1 + 1 + 1 + 1 + 1 + 1 + 1 + 1 + 1 + 1, 0, none⟩) 1 1] 25 (0, 0))
  q14 : W.heap[w1.heap.size + 1 + 1 + 1 + 1 + 1 + 1 + 1 + 1 + 1 + 1 + 1 + 1 + 1 + 1]? = some (.cells #[.int .i64 2, .int .i64 1] 3 (0, 0))
  q15 : W.heap[w1.heap.size + 1 + 1 + 1 + 1 + 1 + 1 + 1 + 1 + 1 + 1 + 1 + 1 + 1 + 1 + 1]? = some (.cells #[.int .i64 3, .string ⟨#[116]⟩, .string ⟨#[]⟩, .slice (some ⟨w1.heap.size + 1 + 1 + 1 + 1 + 1 + 1 + 1 + 1 + 1 + 1 + 1 + 1 + 1 + 1, 0, none⟩) 2 2, .bool false, .int .i64 1, .string ⟨#[120]⟩, .string s, .slice none 0 0, .bool false, .int .i64 1, .string ⟨#[120]⟩, .string (s ++ ⟨#[118]⟩), .slice none 0 0, .bool false] 33 (0, 0))
  q16 : W.heap[w1.heap.size + 1 + 1 + 1 + 1 + 1 + 1 + 1 + 1 + 1 + 1 + 1 + 1 + 1 + 1 + 1 + 1]? = some (.cells #[.int .i64 0] 3 (0, 0))
  q17 : W.heap[w1.heap.size + 1 + 1 + 1 + 1 + 1 + 1 + 1 + 1 + 1 + 1 + 1 + 1 + 1 + 1 + 1 + 1 + 1]? = some (.cells #[.slice (some ⟨w1.heap.size + 1 + 1 + 1 + 1 + 1 + 1 + 1 + 1 + 1 + 1 + 1 + 1 + 1 + 1 + 1, 0, none⟩) 3 3, .slice (some ⟨w1.heap.size + 1 + 1 + 1 + 1 + 1 + 1 + 1 + 1 + 1 + 1 + 1 + 1 + 1 + 1 + 1 + 1, 0, none⟩) 1 1] 25 (0, 0))
  q18 : W.heap[w1.heap.size + 1 + 1 + 1 + 1 + 1 + 1 + 1 + 1 + 1 + 1 + 1 + 1 + 1 + 1 + 1 + 1 + 1 + 1]? = some (.cells #[.int .i64 0] 3 (0, 0))
  q19 : W.heap[w1.heap.size + 1 + 1 + 1 + 1 + 1 + 1 + 1 + 1 + 1 + 1 + 1 + 1 + 1 + 1 + 1 + 1 + 1 + 1 + 1]? = some (.cells #[.int .i64 2, .string ⟨#[116]⟩, .string ⟨#[]⟩, .slice (some ⟨w1.heap.size + 1 + 1 + 1 + 1 + 1 + 1 + 1 + 1 + 1 + 1 + 1 + 1 + 1 + 1 + 1 + 1 + 1 + 1, 0, none⟩) 1 1, .bool false] 33 (0, 0))
  q20 : W.heap[w1.heap.size + 1 + 1 + 1 + 1 + 1 + 1 + 1 + 1 + 1 + 1 + 1 + 1 + 1 + 1 + 1 + 1 + 1 + 1 + 1 + 1]? = some (.cells #[.int .i64 0] 3 (0, 0))
  q21 : W.heap[w1.heap.size + 1 + 1 + 1 + 1 + 1 + 1 + 1 + 1 + 1 + 1 + 1 + 1 + 1 + 1 + 1 + 1 + 1 + 1 + 1 + 1 + 1]? = some (.cells #[.slice (some ⟨w1.heap.size + 1 + 1 + 1 + 1 + 1 + 1 + 1 + 1 + 1 + 1 + 1 + 1 + 1 + 1 + 1 + 1 + 1 + 1 + 1, 0, none⟩) 1 1, .slice (some ⟨w1.heap.size + 1 + 1 + 1 + 1 + 1 + 1 + 1 + 1 + 1 + 1 + 1 + 1 + 1 + 1 + 1 + 1 + 1 + 1 + 1 + 1, 0, none⟩) 1 1] 25 (0, 0))
  q22 : W.heap[w1.heap.size + 1 + 1 + 1 + 1 + 1 + 1 + 1 + 1 + 1 + 1 + 1 + 1 + 1 + 1 + 1 + 1 + 1 + 1 + 1 + 1 + 1 + 1]? = some (.cells #[.int .i64 1] 3 (0, 0))
  q23 : W.heap[w1.heap.size + 1 + 1 + 1 + 1 + 1 + 1 + 1 + 1 + 1 + 1 + 1 + 1 + 1 + 1 + 1 + 1 + 1 + 1 + 1 + 1 + 1 + 1 + 1]? = some (.cells #[.int .i64 0] 3 (0, 0))
  q24 : W.heap[w1.heap.size + 1 + 1 + 1 + 1 + 1 + 1 + 1 + 1 + 1 + 1 + 1 + 1 + 1 + 1 + 1 + 1 + 1 + 1 + 1 + 1 + 1 + 1 + 1 + 1]? = some (.cells #[.int .i64 2, .string ⟨#[116]⟩, .string ⟨#[]⟩, .slice (some ⟨w1.heap.size + 1 + 1 + 1 + 1 + 1 + 1 + 1 + 1 + 1 + 1 + 1 + 1 + 1 + 1 + 1 + 1 + 1 + 1 + 1 + 1 + 1 + 1, 0, none⟩) 1 1, .bool false, .int .i64 2, .string ⟨#[116]⟩, .string ⟨#[]⟩, .slice (some ⟨w1.heap.size + 1 + 1 + 1 + 1 + 1 + 1 + 1 + 1 + 1 + 1 + 1 + 1 + 1 + 1 + 1 + 1 + 1 + 1 + 1 + 1 + 1 + 1 + 1, 0, none⟩) 1 1, .bool false] 33 (0, 0))
  q25 : W.heap[w1.heap.size + 1 + 1 + 1 + 1 + 1 + 1 + 1 + 1 + 1 + 1 + 1 + 1 + 1 + 1 + 1 + 1 + 1 + 1 + 1 + 1 + 1 + 1 + 1 + 1 + 1]? = some (.cells #[.int .i64 0] 3 (0, 0))
  q26 : W.heap[w1.heap.size + 1 + 1 + 1 + 1 + 1 + 1 + 1 + 1 + 1 + 1 + 1 + 1 + 1 + 1 + 1 + 1 + 1 + 1 + 1 + 1 + 1 + 1 + 1 + 1 + 1 + 1]? = some (.cells #[.slice (some ⟨w1.heap.size + 1 + 1 + 1 + 1 + 1 + 1 + 1 + 1 + 1 + 1 + 1 + 1 + 1 + 1 + 1 + 1 + 1 + 1 + 1 + 1 + 1 + 1 + 1 + 1, 0, none⟩) 2 2, .slice (some ⟨w1.heap.size + 1 + 1 + 1 + 1 + 1 + 1 + 1 + 1 + 1 + 1 + 1 + 1 + 1 + 1 + 1 + 1 + 1 + 1 + 1 + 1 + 1 + 1 + 1 + 1 + 1, 0, none⟩) 1 1] 25 (0, 0))
  q27 : W.heap[w1.heap.size + 1 + 1 + 1 + 1 + 1 + 1 + 1 + 1 + 1 + 1 + 1 + 1 + 1 + 1 + 1 + 1 + 1 + 1 + 1 + 1 + 1 + 1 + 1 + 1 + 1 + 1 + 1]? = some (.cells #[.int .i64 1, .string ⟨#[120]⟩, .string s, .slice none 0 0, .bool false] 33 (0, 0))
  q28 : W.heap[w1.heap.size + 1 + 1 + 1 + 1 + 1 + 1 + 1 + 1 + 1 + 1 + 1 + 1 + 1 + 1 + 1 + 1 + 1 + 1 + 1 + 1 + 1 + 1 + 1 + 1 + 1 + 1 + 1 + 1]? = some (.cells #[.int .i64 0, .int .i64 0] 3 (0, 0))
  q29 : W.heap[w1.heap.size + 1 + 1 + 1 + 1 + 1 + 1 + 1 + 1 + 1 + 1 + 1 + 1 + 1 + 1 + 1 + 1 + 1 + 1 + 1 + 1 + 1 + 1 + 1 + 1 + 1 + 1 + 1 + 1 + 1]? = some (.cells #[.slice (some ⟨w1.heap.size + 1 + 1 + 1 + 1 + 1 + 1 + 1 + 1 + 1 + 1 + 1 + 1 + 1 + 1 + 1 + 1 + 1 + 1 + 1 + 1 + 1 + 1 + 1 + 1 + 1 + 1 + 1, 0, none⟩) 1 1, .slice (some ⟨w1.heap.size + 1 + 1 + 1 + 1 + 1 + 1 + 1 + 1 + 1 + 1 + 1 + 1 + 1 + 1 + 1 + 1 + 1 + 1 + 1 + 1 + 1 + 1 + 1 + 1 + 1 + 1 + 1 + 1, 0, none⟩) 2 2] 25 (0, 0))
  q30 : W.heap[w1.heap.size + 1 + 1 + 1 + 1 + 1 + 1 + 1 + 1 + 1 + 1 + 1 + 1 + 1 + 1 + 1 + 1 + 1 + 1 + 1 + 1 + 1 + 1 + 1 + 1 + 1 + 1 + 1 + 1 + 1 + 1]? = some (.cells #[.int .i64 1, .string ⟨#[120]⟩, .string s, .slice none 0 0, .bool false, .int .i64 1, .string ⟨#[120]⟩, .string s, .slice none 0 0, .bool false] 33 (0, 0))
  q31 : W.heap[w1.heap.size + 1 + 1 + 1 + 1 + 1 + 1 + 1 + 1 + 1 + 1 + 1 + 1 + 1 + 1 + 1 + 1 + 1 + 1 + 1 + 1 + 1 + 1 + 1 + 1 + 1 + 1 + 1 + 1 + 1 + 1 + 1]? = some (.cells #[.int .i64 0, .int .i64 1] 3 (0, 0))
  q32 : W.heap[w1.heap.size + 1 + 1 + 1 + 1 + 1 + 1 + 1 + 1 + 1 + 1 + 1 + 1 + 1 + 1 + 1 + 1 + 1 + 1 + 1 + 1 + 1 + 1 + 1 + 1 + 1 + 1 + 1 + 1 + 1 + 1 + 1 + 1]? = some (.cells #[.slice (some ⟨w1.heap.size + 1 + 1 + 1 + 1 + 1 + 1 + 1 + 1 + 1 + 1 + 1 + 1 + 1 + 1 + 1 + 1 + 1 + 1 + 1 + 1 + 1 + 1 + 1 + 1 + 1 + 1 + 1 + 1 + 1 + 1, 0, none⟩) 2 2, .slice (some ⟨w1.heap.size + 1 + 1 + 1 + 1 + 1 + 1 + 1 + 1 + 1 + 1 + 1 + 1 + 1 + 1 + 1 + 1 + 1 + 1 + 1 + 1 + 1 + 1 + 1 + 1 + 1 + 1 + 1 + 1 + 1 + 1 + 1, 0, none⟩) 2 2] 25 (0, 0))
  q33 : W.heap[w1.heap.size + 1 + 1 + 1 + 1 + 1 + 1 + 1 + 1 + 1 + 1 + 1 + 1 + 1 + 1 + 1 + 1 + 1 + 1 + 1 + 1 + 1 + 1 + 1 + 1 + 1 + 1 + 1 + 1 + 1 + 1 + 1 + 1 + 1]? = some (.cells #[.slice (some ⟨w1.heap.size + 1 + 1 + 1, 0, none⟩) 2 2, .slice (some ⟨w1.heap.size + 1 + 1 + 1 + 1, 0, none⟩) 1 1, .slice (some ⟨w1.heap.size + 1 + 1 + 1 + 1 + 1 + 1 + 1, 0, none⟩) 3 3, .slice (some ⟨w1.heap.size + 1 + 1 + 1 + 1 + 1 + 1 + 1 + 1, 0, none⟩) 1 1, .slice (some ⟨w1.heap.size + 1 + 1 + 1 + 1 + 1 + 1 + 1 + 1 + 1 + 1 + 1, 0, none⟩) 3 3, .slice (some ⟨w1.heap.size + 1 + 1 + 1 + 1 + 1 + 1 + 1 + 1 + 1 + 1 + 1 + 1, 0, none⟩) 1 1, .slice (some ⟨w1.heap.size + 1 + 1 + 1 + 1 + 1 + 1 + 1 + 1 + 1 + 1 + 1 + 1 + 1 + 1 + 1, 0, none⟩) 3 3, .slice (some ⟨w1.heap.size + 1 + 1 + 1 + 1 + 1 + 1 + 1 + 1 + 1 + 1 + 1 + 1 + 1 + 1 + 1 + 1, 0, none⟩) 1 1, .slice (some ⟨w1.heap.size + 1 + 1 + 1 + 1 + 1 + 1 + 1 + 1 + 1 + 1 + 1 + 1 + 1 + 1 + 1 + 1 + 1 + 1 + 1, 0, none⟩) 1 1, .slice (some ⟨w1.heap.size + 1 + 1 + 1 + 1 + 1 + 1 + 1 + 1 + 1 + 1 + 1 + 1 + 1 + 1 + 1 + 1 + 1 + 1 + 1 + 1, 0, none⟩) 1 1, .slice (some ⟨w1.heap.size + 1 + 1 + 1 + 1 + 1 + 1 + 1 + 1 + 1 + 1 + 1 + 1 + 1 + 1 + 1 + 1 + 1 + 1 + 1 + 1 + 1 + 1 + 1 + 1, 0, none⟩) 2 2, .slice (some ⟨w1.heap.size + 1 + 1 + 1 + 1 + 1 + 1 + 1 + 1 + 1 + 1 + 1 + 1 + 1 + 1 + 1 + 1 + 1 + 1 + 1 + 1 + 1 + 1 + 1 + 1 + 1, 0, none⟩) 1 1, .slice (some ⟨w1.heap.size + 1 + 1 + 1 + 1 + 1 + 1 + 1 + 1 + 1 + 1 + 1 + 1 + 1 + 1 + 1 + 1 + 1 + 1 + 1 + 1 + 1 + 1 + 1 + 1 + 1 + 1 + 1, 0, none⟩) 1 1, .slice (some ⟨w1.heap.size + 1 + 1 + 1 + 1 + 1 + 1 + 1 + 1 + 1 + 1 + 1 + 1 + 1 + 1 + 1 + 1 + 1 + 1 + 1 + 1 + 1 + 1 + 1 + 1 + 1 + 1 + 1 + 1, 0, none⟩) 2 2, .slice (some ⟨w1.heap.size + 1 + 1 + 1 + 1 + 1 + 1 + 1 + 1 + 1 + 1 + 1 + 1 + 1 + 1 + 1 + 1 + 1 + 1 + 1 + 1 + 1 + 1 + 1 + 1 + 1 + 1 + 1 + 1 + 1 + 1, 0, none⟩) 2 2, .slice (some ⟨w1.heap.size + 1 + 1 + 1 + 1 + 1 + 1 + 1 + 1 + 1 + 1 + 1 + 1 + 1 + 1 + 1 + 1 + 1 + 1 + 1 + 1 + 1 + 1 + 1 + 1 + 1 + 1 + 1 + 1 + 1 + 1 + 1, 0, none⟩) 2 2] 41 (0, 0))
set_option maxRecDepth 100000 in
set_option maxHeartbeats 8000000 in
theorem sh_lits (w1 : World) (s : ByteArray) : ∃ V34, ((((((((((((((((((((((((((((((((((w1.alloc (.cells #[.int .i64 1, .string ⟨#[120]⟩, .string s, .slice none 0 0, .bool false] 33)).alloc (.cells #[.int .i64 1, .string ⟨#[120]⟩, .string (s ++ ⟨#[118]⟩), .slice none 0 0, .bool false] 33)).alloc (.cells #[.int .i64 1, .int .i64 1] 3)).alloc (.cells #[.int .i64 2, .string ⟨#[116]⟩, .string ⟨#[]⟩, .slice (some ⟨w1.heap.size + 1 + 1, 0, none⟩) 2 2, .bool false, .int .i64 1, .string ⟨#[120]⟩, .string s, .slice none 0 0, .bool false] 33)).alloc (.cells #[.int .i64 0] 3)).alloc (.cells #[.slice (some ⟨w1.heap.size + 1 + 1 + 1, 0, none⟩) 2 2, .slice (some ⟨w1.heap.size + 1 + 1 + 1 + 1, 0, none⟩) 1 1] 25)).alloc (.cells #[.int .i64 1, .int .i64 2] 3)).alloc (.cells #[.int .i64 2, .string ⟨#[116]⟩, .string ⟨#[]⟩, .slice (some ⟨w1.heap.size + 1 + 1 + 1 + 1 + 1 + 1, 0, none⟩) 2 2, .bool false, .int .i64 1, .string ⟨#[120]⟩, .string s, .slice none 0 0, .bool false, .int .i64 1, .string ⟨#[120]⟩, .string s, .slice none 0 0, .bool false] 33)).alloc (.cells #[.int .i64 0] 3)).alloc (.cells #[.slice (some ⟨w1.heap.size + 1 + 1 + 1 + 1 + 1 + 1 + 1, 0, none⟩) 3 3, .slice (some ⟨w1.heap.size + 1 + 1 + 1 + 1 + 1 + 1 + 1 + 1, 0, none⟩) 1 1] 25)).alloc (.cells #[.int .i64 1, .int .i64 2] 3)).alloc (.cells #[.int .i64 3, .string ⟨#[116]⟩, .string ⟨#[]⟩, .slice (some ⟨w1.heap.size + 1 + 1 + 1 + 1 + 1 + 1 + 1 + 1 + 1 + 1, 0, none⟩) 2 2, .bool false, .int .i64 1, .string ⟨#[120]⟩, .string s, .slice none 0 0, .bool false, .int .i64 1, .string ⟨#[120]⟩, .string (s ++ ⟨#[118]⟩), .slice none 0 0, .bool false] 33)).alloc (.cells #[.int .i64 0] 3)).alloc (.cells #[.slice (some ⟨w1.heap.size + 1 + 1 + 1 + 1 + 1 + 1 + 1 + 1 + 1 + 1 + 1, 0, none⟩) 3 3, .slice (some ⟨w1.heap.size + 1 + 1 + 1 + 1 + 1 + 1 + 1 + 1 + 1 + 1 + 1 + 1, 0, none⟩) 1 1] 25)).alloc (.cells #[.int .i64 2, .int .i64 1] 3)).alloc (.cells #[.int .i64 3, .string ⟨#[116]⟩, .string ⟨#[]⟩, .slice (some ⟨w1.heap.size + 1 + 1 + 1 + 1 + 1 + 1 + 1 + 1 + 1 + 1 + 1 + 1 + 1 + 1, 0, none⟩) 2 2, .bool false, .int .i64 1, .string ⟨#[120]⟩, .string s, .slice none 0 0, .bool false, .int .i64 1, .string ⟨#[120]⟩, .string (s ++ ⟨#[118]⟩), .slice none 0 0, .bool false] 33)).alloc (.cells #[.int .i64 0] 3)).alloc (.cells #[.slice (some ⟨w1.heap.size + 1 + 1 + 1 + 1 + 1 + 1 + 1 + 1 + 1 + 1 + 1 + 1 + 1 + 1 + 1, 0, none⟩) 3 3, .slice (some ⟨w1.heap.size + 1 + 1 + 1 + 1 + 1 + 1 + 1 + 1 + 1 + 1 + 1 + 1 + 1 + 1 + 1 + 1, 0, none⟩) 1 1] 25)).alloc (.cells #[.int .i64 0] 3)).alloc (.cells #[.int .i64 2, .string ⟨#[116]⟩, .string ⟨#[]⟩, .slice (some ⟨w1.heap.size + 1 + 1 + 1 + 1 + 1 + 1 + 1 + 1 + 1 + 1 + 1 + 1 + 1 + 1 + 1 + 1 + 1 + 1, 0, none⟩) 1 1, .bool false] 33)).alloc (.cells #[.int .i64 0] 3)).alloc (.cells #[.slice (some ⟨w1.heap.size + 1 + 1 + 1 + 1 + 1 + 1 + 1 + 1 + 1 + 1 + 1 + 1 + 1 + 1 + 1 + 1 + 1 + 1 + 1, 0, none⟩) 1 1, .slice (some ⟨w1.heap.size + 1 + 1 + 1 + 1 + 1 + 1 + 1 + 1 + 1 + 1 + 1 + 1 + 1 + 1 + 1 + 1 + 1 + 1 + 1 + 1, 0, none⟩) 1 1] 25)).alloc (.cells #[.int .i64 1] 3)).alloc (.cells #[.int .i64 0] 3)).alloc (.cells #[.int .i64 2, .string ⟨#[116]⟩, .string ⟨#[]⟩, .slice (some ⟨w1.heap.size + 1 + 1 + 1 + 1 + 1 + 1 + 1 + 1 + 1 + 1 + 1 + 1 + 1 + 1 + 1 + 1 + 1 + 1 + 1 + 1 + 1 + 1, 0, none⟩) 1 1, .bool false, .int .i64 2, .string ⟨#[116]⟩, .string ⟨#[]⟩, .slice (some ⟨w1.heap.size + 1 + 1 + 1 + 1 + 1 + 1 + 1 + 1 + 1 + 1 + 1 + 1 + 1 + 1 + 1 + 1 + 1 + 1 + 1 + 1 + 1 + 1 + 1, 0, none⟩) 1 1, .bool false] 33)).alloc (.cells #[.int .i64 0] 3)).alloc (.cells #[.slice (some ⟨w1.heap.size + 1 + 1 + 1 + 1 + 1 + 1 + 1 + 1 + 1 + 1 + 1 + 1 + 1 + 1 + 1 + 1 + 1 + 1 + 1 + 1 + 1 + 1 + 1 + 1, 0, none⟩) 2 2, .slice (some ⟨w1.heap.size + 1 + 1 + 1 + 1 + 1 + 1 + 1 + 1 + 1 + 1 + 1 + 1 + 1 + 1 + 1 + 1 + 1 + 1 + 1 + 1 + 1 + 1 + 1 + 1 + 1, 0, none⟩) 1 1] 25)).alloc (.cells #[.int .i64 1, .string ⟨#[120]⟩, .string s, .slice none 0 0, .bool false] 33)).alloc (.cells #[.int .i64 0, .int .i64 0] 3)).alloc (.cells #[.slice (some ⟨w1.heap.size + 1 + 1 + 1 + 1 + 1 + 1 + 1 + 1 + 1 + 1 + 1 + 1 + 1 + 1 + 1 + 1 + 1 + 1 + 1 + 1 + 1 + 1 + 1 + 1 + 1 + 1 + 1, 0, none⟩) 1 1, .slice (some ⟨w1.heap.size + 1 + 1 + 1 + 1 + 1 + 1 + 1 + 1 + 1 + 1 + 1 + 1 + 1 + 1 + 1 + 1 + 1 + 1 + 1 + 1 + 1 + 1 + 1 + 1 + 1 + 1 + 1 + 1, 0, none⟩) 2 2] 25)).alloc (.cells #[.int .i64 1, .string ⟨#[120]⟩, .string s, .slice none 0 0, .bool false, .int .i64 1, .string ⟨#[120]⟩, .string s, .slice none 0 0, .bool false] 33)).alloc (.cells #[.int .i64 0, .int .i64 1] 3)).alloc (.cells #[.slice (some ⟨w1.heap.size + 1 + 1 + 1 + 1 + 1 + 1 + 1 + 1 + 1 + 1 + 1 + 1 + 1 + 1 + 1 + 1 + 1 + 1 + 1 + 1 + 1 + 1 + 1 + 1 + 1 + 1 + 1 + 1 + 1 + 1, 0, none⟩) 2 2, .slice (some ⟨w1.heap.size + 1 + 1 + 1 + 1 + 1 + 1 + 1 + 1 + 1 + 1 + 1 + 1 + 1 + 1 + 1 + 1 + 1 + 1 + 1 + 1 + 1 + 1 + 1 + 1 + 1 + 1 + 1 + 1 + 1 + 1 + 1, 0, none⟩) 2 2] 25)).alloc (.cells #[.slice (some ⟨w1.heap.size + 1 + 1 + 1, 0, none⟩) 2 2, .slice (some ⟨w1.heap.size + 1 + 1 + 1 + 1, 0, none⟩) 1 1, .slice (some ⟨w1.heap.size + 1 + 1 + 1 + 1 + 1 + 1 + 1, 0, none⟩) 3 3, .slice (some ⟨w1.heap.size + 1 + 1 + 1 + 1 + 1 + 1 + 1 + 1, 0, none⟩) 1 1, .slice (some ⟨w1.heap.size + 1 + 1 + 1 + 1 + 1 + 1 + 1 + 1 + 1 + 1 + 1, 0, none⟩) 3 3, .slice (some ⟨w1.heap.size + 1 + 1 + 1 + 1 + 1 + 1 + 1 + 1 + 1 + 1 + 1 + 1, 0, none⟩) 1 1, .slice (some ⟨w1.heap.size + 1 + 1 + 1 + 1 + 1 + 1 + 1 + 1 + 1 + 1 + 1 + 1 + 1 + 1 + 1, 0, none⟩) 3 3, .slice (some ⟨w1.heap.size + 1 + 1 + 1 + 1 + 1 + 1 + 1 + 1 + 1 + 1 + 1 + 1 + 1 + 1 + 1 + 1, 0, none⟩) 1 1, .slice (some ⟨w1.heap.size + 1 + 1 + 1 + 1 + 1 + 1 + 1 + 1 + 1 + 1 + 1 + 1 + 1 + 1 + 1 + 1 + 1 + 1 + 1, 0, none⟩) 1 1, .slice (some ⟨w1.heap.size + 1 + 1 + 1 + 1 + 1 + 1 + 1 + 1 + 1 + 1 + 1 + 1 + 1 + 1 + 1 + 1 + 1 + 1 + 1 + 1, 0, none⟩) 1 1, .slice (some ⟨w1.heap.size + 1 + 1 + 1 + 1 + 1 + 1 + 1 + 1 + 1 + 1 + 1 + 1 + 1 + 1 + 1 + 1 + 1 + 1 + 1 + 1 + 1 + 1 + 1 + 1, 0, none⟩) 2 2, .slice (some ⟨w1.heap.size + 1 + 1 + 1 + 1 + 1 + 1 + 1 + 1 + 1 + 1 + 1 + 1 + 1 + 1 + 1 + 1 + 1 + 1 + 1 + 1 + 1 + 1 + 1 + 1 + 1, 0, none⟩) 1 1, .slice (some ⟨w1.heap.size + 1 + 1 + 1 + 1 + 1 + 1 + 1 + 1 + 1 + 1 + 1 + 1 + 1 + 1 + 1 + 1 + 1 + 1 + 1 + 1 + 1 + 1 + 1 + 1 + 1 + 1 + 1, 0, none⟩) 1 1, .slice (some ⟨w1.heap.size + 1 + 1 + 1 + 1 + 1 + 1 + 1 + 1 + 1 + 1 + 1 + 1 + 1 + 1 + 1 + 1 + 1 + 1 + 1 + 1 + 1 + 1 + 1 + 1 + 1 + 1 + 1 + 1, 0, none⟩) 2 2, .slice (some ⟨w1.heap.size + 1 + 1 + 1 + 1 + 1 + 1 + 1 + 1 + 1 + 1 + 1 + 1 + 1 + 1 + 1 + 1 + 1 + 1 + 1 + 1 + 1 + 1 + 1 + 1 + 1 + 1 + 1 + 1 + 1 + 1, 0, none⟩) 2 2, .slice (some ⟨w1.heap.size + 1 + 1 + 1 + 1 + 1 + 1 + 1 + 1 + 1 + 1 + 1 + 1 + 1 + 1 + 1 + 1 + 1 + 1 + 1 + 1 + 1 + 1 + 1 + 1 + 1 + 1 + 1 + 1 + 1 + 1 + 1, 0, none⟩) 2 2] 41)) = V34 ∧ ∀ W, Below V34.heap.size V34 W → ShRows w1 s W := by
  obtain ⟨V1, h1, b1, r1, s1⟩ := boxCs w1 #[.int .i64 1, .string ⟨#[120]⟩, .string s, .slice none 0 0, .bool false] 33
  obtain ⟨V2, h2, b2, r2, s2⟩ := boxCs V1 #[.int .i64 1, .string ⟨#[120]⟩, .string (s ++ ⟨#[118]⟩), .slice none 0 0, .bool false] 33
  obtain ⟨V3, h3, b3, r3, s3⟩ := boxCs V2 #[.int .i64 1, .int .i64 1] 3
  obtain ⟨V4, h4, b4, r4, s4⟩ := boxCs V3 #[.int .i64 2, .string ⟨#[116]⟩, .string ⟨#[]⟩, .slice (some ⟨w1.heap.size + 1 + 1, 0, none⟩) 2 2, .bool false, .int .i64 1, .string ⟨#[120]⟩, .string s, .slice none 0 0, .bool false] 33
  obtain ⟨V5, h5, b5, r5, s5⟩ := boxCs V4 #[.int .i64 0] 3
  obtain ⟨V6, h6, b6, r6, s6⟩ := boxCs V5 #[.slice (some ⟨w1.heap.size + 1 + 1 + 1, 0, none⟩) 2 2, .slice (some ⟨w1.heap.size + 1 + 1 + 1 + 1, 0, none⟩) 1 1] 25
  obtain ⟨V7, h7, b7, r7, s7⟩ := boxCs V6 #[.int .i64 1, .int .i64 2] 3
  obtain ⟨V8, h8, b8, r8, s8⟩ := boxCs V7 #[.int .i64 2, .string ⟨#[116]⟩, .string ⟨#[]⟩, .slice (some ⟨w1.heap.size + 1 + 1 + 1 + 1 + 1 + 1, 0, none⟩) 2 2, .bool false, .int .i64 1, .string ⟨#[120]⟩, .string s, .slice none 0 0, .bool false, .int .i64 1, .string ⟨#[120]⟩, .string s, .slice none 0 0, .bool false] 33
  obtain ⟨V9, h9, b9, r9, s9⟩ := boxCs V8 #[.int .i64 0] 3
  obtain ⟨V10, h10, b10, r10, s10⟩ := boxCs V9 #[.slice (some ⟨w1.heap.size + 1 + 1 + 1 + 1 + 1 + 1 + 1, 0, none⟩) 3 3, .slice (some ⟨w1.heap.size + 1 + 1 + 1 + 1 + 1 + 1 + 1 + 1, 0, none⟩) 1 1] 25
  obtain ⟨V11, h11, b11, r11, s11⟩ := boxCs V10 #[.int .i64 1, .int .i64 2] 3
  obtain ⟨V12, h12, b12, r12, s12⟩ := boxCs V11 #[.int .i64 3, .string ⟨#[116]⟩, .string ⟨#[]⟩, .slice (some ⟨w1.heap.size + 1 + 1 + 1 + 1 + 1 + 1 + 1 + 1 + 1 + 1, 0, none⟩) 2 2, .bool false, .int .i64 1, .string ⟨#[120]⟩, .string s, .slice none 0 0, .bool false, .int .i64 1, .string ⟨#[120]⟩, .string (s ++ ⟨#[118]⟩), .slice none 0 0, .bool false] 33
  obtain ⟨V13, h13, b13, r13, s13⟩ := boxCs V12 #[.int .i64 0] 3
  obtain ⟨V14, h14, b14, r14, s14⟩ := boxCs V13 #[.slice (some ⟨w1.heap.size + 1 + 1 + 1 + 1 + 1 + 1 + 1 + 1 + 1 + 1 + 1, 0, none⟩) 3 3, .slice (some ⟨w1.heap.size + 1 + 1 + 1 + 1 + 1 + 1 + 1 + 1 + 1 + 1 + 1 + 1, 0, none⟩) 1 1] 25
  obtain ⟨V15, h15, b15, r15, s15⟩ := boxCs V14 #[.int .i64 2, .int .i64 1] 3
  obtain ⟨V16, h16, b16, r16, s16⟩ := boxCs V15 #[.int .i64 3, .string ⟨#[116]⟩, .string ⟨#[]⟩, .slice (some ⟨w1.heap.size + 1 + 1 + 1 + 1 + 1 + 1 + 1 + 1 + 1 + 1 + 1 + 1 + 1 + 1, 0, none⟩) 2 2, .bool false, .int .i64 1, .string ⟨#[120]⟩, .string s, .slice none 0 0, .bool false, .int .i64 1, .string ⟨#[120]⟩, .string (s ++ ⟨#[118]⟩), .slice none 0 0, .bool false] 33
  obtain ⟨V17, h17, b17, r17, s17⟩ := boxCs V16 #[.int .i64 0] 3
  obtain ⟨V18, h18, b18, r18, s18⟩ := boxCs V17 #[.slice (some ⟨w1.heap.size + 1 + 1 + 1 + 1 + 1 + 1 + 1 + 1 + 1 + 1 + 1 + 1 + 1 + 1 + 1, 0, none⟩) 3 3, .slice (some ⟨w1.heap.size + 1 + 1 + 1 + 1 + 1 + 1 + 1 + 1 + 1 + 1 + 1 + 1 + 1 + 1 + 1 + 1, 0, none⟩) 1 1] 25
  obtain ⟨V19, h19, b19, r19, s19⟩ := boxCs V18 #[.int .i64 0] 3
  obtain ⟨V20, h20, b20, r20, s20⟩ := boxCs V19 #[.int .i64 2, .string ⟨#[116]⟩, .string ⟨#[]⟩, .slice (some ⟨w1.heap.size + 1 + 1 + 1 + 1 + 1 + 1 + 1 + 1 + 1 + 1 + 1 + 1 + 1 + 1 + 1 + 1 + 1 + 1, 0, none⟩) 1 1, .bool false] 33
  obtain ⟨V21, h21, b21, r21, s21⟩ := boxCs V20 #[.int .i64 0] 3
  obtain ⟨V22, h22, b22, r22, s22⟩ := boxCs V21 #[.slice (some ⟨w1.heap.size + 1 + 1 + 1 + 1 + 1 + 1 + 1 + 1 + 1 + 1 + 1 + 1 + 1 + 1 + 1 + 1 + 1 + 1 + 1, 0, none⟩) 1 1, .slice (some ⟨w1.heap.size + 1 + 1 + 1 + 1 + 1 + 1 + 1 + 1 + 1 + 1 + 1 + 1 + 1 + 1 + 1 + 1 + 1 + 1 + 1 + 1, 0, none⟩) 1 1] 25
  obtain ⟨V23, h23, b23, r23, s23⟩ := boxCs V22 #[.int .i64 1] 3
  obtain ⟨V24, h24, b24, r24, s24⟩ := boxCs V23 #[.int .i64 0] 3
  obtain ⟨V25, h25, b25, r25, s25⟩ := boxCs V24 #[.int .i64 2, .string ⟨#[116]⟩, .string ⟨#[]⟩, .slice (some ⟨w1.heap.size + 1 + 1 + 1 + 1 + 1 + 1 + 1 + 1 + 1 + 1 + 1 + 1 + 1 + 1 + 1 + 1 + 1 + 1 + 1 + 1 + 1 + 1, 0, none⟩) 1 1, .bool false, .int .i64 2, .string ⟨#[116]⟩, .string ⟨#[]⟩, .slice (some ⟨w1.heap.size + 1 + 1 + 1 + 1 + 1 + 1 + 1 + 1 + 1 + 1 + 1 + 1 + 1 + 1 + 1 + 1 + 1 + 1 + 1 + 1 + 1 + 1 + 1, 0, none⟩) 1 1, .bool false] 33
  obtain ⟨V26, h26, b26, r26, s26⟩ := boxCs V25 #[.int .i64 0] 3
  obtain ⟨V27, h27, b27, r27, s27⟩ := boxCs V26 #[.slice (some ⟨w1.heap.size + 1 + 1 + 1 + 1 + 1 + 1 + 1 + 1 + 1 + 1 + 1 + 1 + 1 + 1 + 1 + 1 + 1 + 1 + 1 + 1 + 1 + 1 + 1 + 1, 0, none⟩) 2 2, .slice (some ⟨w1.heap.size + 1 + 1 + 1 + 1 + 1 + 1 + 1 + 1 + 1 + 1 + 1 + 1 + 1 + 1 + 1 + 1 + 1 + 1 + 1 + 1 + 1 + 1 + 1 + 1 + 1, 0, none⟩) 1 1] 25
  obtain ⟨V28, h28, b28, r28, s28⟩ := boxCs V27 #[.int .i64 1, .string ⟨#[120]⟩, .string s, .slice none 0 0, .bool false] 33
  obtain ⟨V29, h29, b29, r29, s29⟩ := boxCs V28 #[.int .i64 0, .int .i64 0] 3
  obtain ⟨V30, h30, b30, r30, s30⟩ := boxCs V29 #[.slice (some ⟨w1.heap.size + 1 + 1 + 1 + 1 + 1 + 1 + 1 + 1 + 1 + 1 + 1 + 1 + 1 + 1 + 1 + 1 + 1 + 1 + 1 + 1 + 1 + 1 + 1 + 1 + 1 + 1 + 1, 0, none⟩) 1 1, .slice (some ⟨w1.heap.size + 1 + 1 + 1 + 1 + 1 + 1 + 1 + 1 + 1 + 1 + 1 + 1 + 1 + 1 + 1 + 1 + 1 + 1 + 1 + 1 + 1 + 1 + 1 + 1 + 1 + 1 + 1 + 1, 0, none⟩) 2 2] 25
  obtain ⟨V31, h31, b31, r31, s31⟩ := boxCs V30 #[.int .i64 1, .string ⟨#[120]⟩, .string s, .slice none 0 0, .bool false, .int .i64 1, .string ⟨#[120]⟩, .string s, .slice none 0 0, .bool false] 33
  obtain ⟨V32, h32, b32, r32, s32⟩ := boxCs V31 #[.int .i64 0, .int .i64 1] 3
  obtain ⟨V33, h33, b33, r33, s33⟩ := boxCs V32 #[.slice (some ⟨w1.heap.size + 1 + 1 + 1 + 1 + 1 + 1 + 1 + 1 + 1 + 1 + 1 + 1 + 1 + 1 + 1 + 1 + 1 + 1 + 1 + 1 + 1 + 1 + 1 + 1 + 1 + 1 + 1 + 1 + 1 + 1, 0, none⟩) 2 2, .slice (some ⟨w1.heap.size + 1 + 1 + 1 + 1 + 1 + 1 + 1 + 1 + 1 + 1 + 1 + 1 + 1 + 1 + 1 + 1 + 1 + 1 + 1 + 1 + 1 + 1 + 1 + 1 + 1 + 1 + 1 + 1 + 1 + 1 + 1, 0, none⟩) 2 2] 25
  obtain ⟨V34, h34, b34, r34, s34⟩ := boxCs V33 #[.slice (some ⟨w1.heap.size + 1 + 1 + 1, 0, none⟩) 2 2, .slice (some ⟨w1.heap.size + 1 + 1 + 1 + 1, 0, none⟩) 1 1, .slice (some ⟨w1.heap.size + 1 + 1 + 1 + 1 + 1 + 1 + 1, 0, none⟩) 3 3, .slice (some ⟨w1.heap.size + 1 + 1 + 1 + 1 + 1 + 1 + 1 + 1, 0, none⟩) 1 1, .slice (some ⟨w1.heap.size + 1 + 1 + 1 + 1 + 1 + 1 + 1 + 1 + 1 + 1 + 1, 0, none⟩) 3 3, .slice (some ⟨w1.heap.size + 1 + 1 + 1 + 1 + 1 + 1 + 1 + 1 + 1 + 1 + 1 + 1, 0, none⟩) 1 1, .slice (some ⟨w1.heap.size + 1 + 1 + 1 + 1 + 1 + 1 + 1 + 1 + 1 + 1 + 1 + 1 + 1 + 1 + 1, 0, none⟩) 3 3, .slice (some ⟨w1.heap.size + 1 + 1 + 1 + 1 + 1 + 1 + 1 + 1 + 1 + 1 + 1 + 1 + 1 + 1 + 1 + 1, 0, none⟩) 1 1, .slice (some ⟨w1.heap.size + 1 + 1 + 1 + 1 + 1 + 1 + 1 + 1 + 1 + 1 + 1 + 1 + 1 + 1 + 1 + 1 + 1 + 1 + 1, 0, none⟩) 1 1, .slice (some ⟨w1.heap.size + 1 + 1 + 1 + 1 + 1 + 1 + 1 + 1 + 1 + 1 + 1 + 1 + 1 + 1 + 1 + 1 + 1 + 1 + 1 + 1, 0, none⟩) 1 1, .slice (some ⟨w1.heap.size + 1 + 1 + 1 + 1 + 1 + 1 + 1 + 1 + 1 + 1 + 1 + 1 + 1 + 1 + 1 + 1 + 1 + 1 + 1 + 1 + 1 + 1 + 1 + 1, 0, none⟩) 2 2, .slice (some ⟨w1.heap.size + 1 + 1 + 1 + 1 + 1 + 1 + 1 + 1 + 1 + 1 + 1 + 1 + 1 + 1 + 1 + 1 + 1 + 1 + 1 + 1 + 1 + 1 + 1 + 1 + 1, 0, none⟩) 1 1, .slice (some ⟨w1.heap.size + 1 + 1 + 1 + 1 + 1 + 1 + 1 + 1 + 1 + 1 + 1 + 1 + 1 + 1 + 1 + 1 + 1 + 1 + 1 + 1 + 1 + 1 + 1 + 1 + 1 + 1 + 1, 0, none⟩) 1 1, .slice (some ⟨w1.heap.size + 1 + 1 + 1 + 1 + 1 + 1 + 1 + 1 + 1 + 1 + 1 + 1 + 1 + 1 + 1 + 1 + 1 + 1 + 1 + 1 + 1 + 1 + 1 + 1 + 1 + 1 + 1 + 1, 0, none⟩) 2 2, .slice (some ⟨w1.heap.size + 1 + 1 + 1 + 1 + 1 + 1 + 1 + 1 + 1 + 1 + 1 + 1 + 1 + 1 + 1 + 1 + 1 + 1 + 1 + 1 + 1 + 1 + 1 + 1 + 1 + 1 + 1 + 1 + 1 + 1, 0, none⟩) 2 2, .slice (some ⟨w1.heap.size + 1 + 1 + 1 + 1 + 1 + 1 + 1 + 1 + 1 + 1 + 1 + 1 + 1 + 1 + 1 + 1 + 1 + 1 + 1 + 1 + 1 + 1 + 1 + 1 + 1 + 1 + 1 + 1 + 1 + 1 + 1, 0, none⟩) 2 2] 41
  have HB := Lib.hid (below_then b1 (below_then b2 (below_then b3 (below_then b4 (below_then b5 (below_then b6 (below_then b7 (below_then b8 (below_then b9 (below_then b10 (below_then b11 (below_then b12 (below_then b13 (below_then b14 (below_then b15 (below_then b16 (below_then b17 (below_then b18 (below_then b19 (below_then b20 (below_then b21 (below_then b22 (below_then b23 (below_then b24 (below_then b25 (below_then b26 (below_then b27 (below_then b28 (below_then b29 (below_then b30 (below_then b31 (below_then b32 (below_then b33 (b34))))))))))))))))))))))))))))))))))
  refine ⟨V34, by rw [h1, h2, h3, h4, h5, h6, h7, h8, h9, h10, h11, h12, h13, h14, h15, h16, h17, h18, h19, h20, h21, h22, h23, h24, h25, h26, h27, h28, h29, h30, h31, h32, h33, h34], fun W hW => ?_⟩
  have hs := hW.size
  refine ⟨by omega, below_then HB.out hW, ?_, ?_, ?_, ?_, ?_, ?_, ?_, ?_, ?_, ?_, ?_, ?_, ?_, ?_, ?_, ?_, ?_, ?_, ?_, ?_, ?_, ?_, ?_, ?_, ?_, ?_, ?_, ?_, ?_, ?_, ?_, ?_, ?_, ?_⟩
  · exact (hW.block _ (by omega)).trans ((b34.block _ (by omega)).trans ((b33.block _ (by omega)).trans ((b32.block _ (by omega)).trans ((b31.block _ (by omega)).trans ((b30.block _ (by omega)).trans ((b29.block _ (by omega)).trans ((b28.block _ (by omega)).trans ((b27.block _ (by omega)).trans ((b26.block _ (by omega)).trans ((b25.block _ (by omega)).trans ((b24.block _ (by omega)).trans ((b23.block _ (by omega)).trans ((b22.block _ (by omega)).trans ((b21.block _ (by omega)).trans ((b20.block _ (by omega)).trans ((b19.block _ (by omega)).trans ((b18.block _ (by omega)).trans ((b17.block _ (by omega)).trans ((b16.block _ (by omega)).trans ((b15.block _ (by omega)).trans ((b14.block _ (by omega)).trans ((b13.block _ (by omega)).trans ((b12.block _ (by omega)).trans ((b11.block _ (by omega)).trans ((b10.block _ (by omega)).trans ((b9.block _ (by omega)).trans ((b8.block _ (by omega)).trans ((b7.block _ (by omega)).trans ((b6.block _ (by omega)).trans ((b5.block _ (by omega)).trans ((b4.block _ (by omega)).trans ((b3.block _ (by omega)).trans ((b2.block _ (by omega)).trans (r1))))))))))))))))))))))))))))))))))
  · rw [show w1.heap.size + 1 = V1.heap.size by omega]; exact (hW.block _ (by omega)).trans ((b34.block _ (by omega)).trans ((b33.block _ (by omega)).trans ((b32.block _ (by omega)).trans ((b31.block _ (by omega)).trans ((b30.block _ (by omega)).trans ((b29.block _ (by omega)).trans ((b28.block _ (by omega)).trans ((b27.block _ (by omega)).trans ((b26.block _ (by omega)).trans ((b25.block _ (by omega)).trans ((b24.block _ (by omega)).trans ((b23.block _ (by omega)).trans ((b22.block _ (by omega)).trans ((b21.block _ (by omega)).trans ((b20.block _ (by omega)).trans ((b19.block _ (by omega)).trans ((b18.block _ (by omega)).trans ((b17.block _ (by omega)).trans ((b16.block _ (by omega)).trans ((b15.block _ (by omega)).trans ((b14.block _ (by omega)).trans ((b13.block _ (by omega)).trans ((b12.block _ (by omega)).trans ((b11.block _ (by omega)).trans ((b10.block _ (by omega)).trans ((b9.block _ (by omega)).trans ((b8.block _ (by omega)).trans ((b7.block _ (by omega)).trans ((b6.block _ (by omega)).trans ((b5.block _ (by omega)).trans ((b4.block _ (by omega)).trans ((b3.block _ (by omega)).trans (r2)))))))))))))))))))))))))))))))))
  · rw [show w1.heap.size + 1 + 1 = V2.heap.size by omega]; exact (hW.block _ (by omega)).trans ((b34.block _ (by omega)).trans ((b33.block _ (by omega)).trans ((b32.block _ (by omega)).trans ((b31.block _ (by omega)).trans ((b30.block _ (by omega)).trans ((b29.block _ (by omega)).trans ((b28.block _ (by omega)).trans ((b27.block _ (by omega)).trans ((b26.block _ (by omega)).trans ((b25.block _ (by omega)).trans ((b24.block _ (by omega)).trans ((b23.block _ (by omega)).trans ((b22.block _ (by omega)).trans ((b21.block _ (by omega)).trans ((b20.block _ (by omega)).trans ((b19.block _ (by omega)).trans ((b18.block _ (by omega)).trans ((b17.block _ (by omega)).trans ((b16.block _ (by omega)).trans ((b15.block _ (by omega)).trans ((b14.block _ (by omega)).trans ((b13.block _ (by omega)).trans ((b12.block _ (by omega)).trans ((b11.block _ (by omega)).trans ((b10.block _ (by omega)).trans ((b9.block _ (by omega)).trans ((b8.block _ (by omega)).trans ((b7.block _ (by omega)).trans ((b6.block _ (by omega)).trans ((b5.block _ (by omega)).trans ((b4.block _ (by omega)).trans (r3))))))))))))))))))))))))))))))))
  · rw [show w1.heap.size + 1 + 1 + 1 = V3.heap.size by omega]; exact (hW.block _ (by omega)).trans ((b34.block _ (by omega)).trans ((b33.block _ (by omega)).trans ((b32.block _ (by omega)).trans ((b31.block _ (by omega)).trans ((b30.block _ (by omega)).trans ((b29.block _ (by omega)).trans ((b28.block _ (by omega)).trans ((b27.block _ (by omega)).trans ((b26.block _ (by omega)).trans ((b25.block _ (by omega)).trans ((b24.block _ (by omega)).trans ((b23.block _ (by omega)).trans ((b22.block _ (by omega)).trans ((b21.block _ (by omega)).trans ((b20.block _ (by omega)).trans ((b19.block _ (by omega)).trans ((b18.block _ (by omega)).trans ((b17.block _ (by omega)).trans ((b16.block _ (by omega)).trans ((b15.block _ (by omega)).trans ((b14.block _ (by omega)).trans ((b13.block _ (by omega)).trans ((b12.block _ (by omega)).trans ((b11.block _ (by omega)).trans ((b10.block _ (by omega)).trans ((b9.block _ (by omega)).trans ((b8.block _ (by omega)).trans ((b7.block _ (by omega)).trans ((b6.block _ (by omega)).trans ((b5.block _ (by omega)).trans (r4)))))))))))))))))))))))))))))))
  · rw [show w1.heap.size + 1 + 1 + 1 + 1 = V4.heap.size by omega]; exact (hW.block _ (by omega)).trans ((b34.block _ (by omega)).trans ((b33.block _ (by omega)).trans ((b32.block _ (by omega)).trans ((b31.block _ (by omega)).trans ((b30.block _ (by omega)).trans ((b29.block _ (by omega)).trans ((b28.block _ (by omega)).trans ((b27.block _ (by omega)).trans ((b26.block _ (by omega)).trans ((b25.block _ (by omega)).trans ((b24.block _ (by omega)).trans ((b23.block _ (by omega)).trans ((b22.block _ (by omega)).trans ((b21.block _ (by omega)).trans ((b20.block _ (by omega)).trans ((b19.block _ (by omega)).trans ((b18.block _ (by omega)).trans ((b17.block _ (by omega)).trans ((b16.block _ (by omega)).trans ((b15.block _ (by omega)).trans ((b14.block _ (by omega)).trans ((b13.block _ (by omega)).trans ((b12.block _ (by omega)).trans ((b11.block _ (by omega)).trans ((b10.block _ (by omega)).trans ((b9.block _ (by omega)).trans ((b8.block _ (by omega)).trans ((b7.block _ (by omega)).trans ((b6.block _ (by omega)).trans (r5))))))))))))))))))))))))))))))
  · rw [show w1.heap.size + 1 + 1 + 1 + 1 + 1 = V5.heap.size by omega]; exact (hW.block _ (by omega)).trans ((b34.block _ (by omega)).trans ((b33.block _ (by omega)).trans ((b32.block _ (by omega)).trans ((b31.block _ (by omega)).trans ((b30.block _ (by omega)).trans ((b29.block _ (by omega)).trans ((b28.block _ (by omega)).trans ((b27.block _ (by omega)).trans ((b26.block _ (by omega)).trans ((b25.block _ (by omega)).trans ((b24.block _ (by omega)).trans ((b23.block _ (by omega)).trans ((b22.block _ (by omega)).trans ((b21.block _ (by omega)).trans ((b20.block _ (by omega)).trans ((b19.block _ (by omega)).trans ((b18.block _ (by omega)).trans ((b17.block _ (by omega)).trans ((b16.block _ (by omega)).trans ((b15.block _ (by omega)).trans ((b14.block _ (by omega)).trans ((b13.block _ (by omega)).trans ((b12.block _ (by omega)).trans ((b11.block _ (by omega)).trans ((b10.block _ (by omega)).trans ((b9.block _ (by omega)).trans ((b8.block _ (by omega)).trans ((b7.block _ (by omega)).trans (r6)))))))))))))))))))))))))))))
  · rw [show w1.heap.size + 1 + 1 + 1 + 1 + 1 + 1 = V6.heap.size by omega]; exact (hW.block _ (by omega)).trans ((b34.block _ (by omega)).trans ((b33.block _ (by omega)).trans ((b32.block _ (by omega)).trans ((b31.block _ (by omega)).trans ((b30.block _ (by omega)).trans ((b29.block _ (by omega)).trans ((b28.block _ (by omega)).trans ((b27.block _ (by omega)).trans ((b26.block _ (by omega)).trans ((b25.block _ (by omega)).trans ((b24.block _ (by omega)).trans ((b23.block _ (by omega)).trans ((b22.block _ (by omega)).trans ((b21.block _ (by omega)).trans ((b20.block _ (by omega)).trans ((b19.block _ (by omega)).trans ((b18.block _ (by omega)).trans ((b17.block _ (by omega)).trans ((b16.block _ (by omega)).trans ((b15.block _ (by omega)).trans ((b14.block _ (by omega)).trans ((b13.block _ (by omega)).trans ((b12.block _ (by omega)).trans ((b11.block _ (by omega)).trans ((b10.block _ (by omega)).trans ((b9.block _ (by omega)).trans ((b8.block _ (by omega)).trans (r7))))))))))))))))))))))))))))
  · rw [show w1.heap.size + 1 + 1 + 1 + 1 + 1 + 1 + 1 = V7.heap.size by omega]; exact (hW.block _ (by omega)).trans ((b34.block _ (by omega)).trans ((b33.block _ (by omega)).trans ((b32.block _ (by omega)).trans ((b31.block _ (by omega)).trans ((b30.block _ (by omega)).trans ((b29.block _ (by omega)).trans ((b28.block _ (by omega)).trans ((b27.block _ (by omega)).trans ((b26.block _ (by omega)).trans ((b25.block _ (by omega)).trans ((b24.block _ (by omega)).trans ((b23.block _ (by omega)).trans ((b22.block _ (by omega)).trans ((b21.block _ (by omega)).trans ((b20.block _ (by omega)).trans ((b19.block _ (by omega)).trans ((b18.block _ (by omega)).trans ((b17.block _ (by omega)).trans ((b16.block _ (by omega)).trans ((b15.block _ (by omega)).trans ((b14.block _ (by omega)).trans ((b13.block _ (by omega)).trans ((b12.block _ (by omega)).trans ((b11.block _ (by omega)).trans ((b10.block _ (by omega)).trans ((b9.block _ (by omega)).trans (r8)))))))))))))))))))))))))))
  · rw [show w1.heap.size + 1 + 1 + 1 + 1 + 1 + 1 + 1 + 1 = V8.heap.size by omega]; exact (hW.block _ (by omega)).trans ((b34.block _ (by omega)).trans ((b33.block _ (by omega)).trans ((b32.block _ (by omega)).trans ((b31.block _ (by omega)).trans ((b30.block _ (by omega)).trans ((b29.block _ (by omega)).trans ((b28.block _ (by omega)).trans ((b27.block _ (by omega)).trans ((b26.block _ (by omega)).trans ((b25.block _ (by omega)).trans ((b24.block _ (by omega)).trans ((b23.block _ (by omega)).trans ((b22.block _ (by omega)).trans ((b21.block _ (by omega)).trans ((b20.block _ (by omega)).trans ((b19.block _ (by omega)).trans ((b18.block _ (by omega)).trans ((b17.block _ (by omega)).trans ((b16.block _ (by omega)).trans ((b15.block _ (by omega)).trans ((b14.block _ (by omega)).trans ((b13.block _ (by omega)).trans ((b12.block _ (by omega)).trans ((b11.block _ (by omega)).trans ((b10.block _ (by omega)).trans (r9))))))))))))))))))))))))))
  · rw [show w1.heap.size + 1 + 1 + 1 + 1 + 1 + 1 + 1 + 1 + 1 = V9.heap.size by omega]; exact (hW.block _ (by omega)).trans ((b34.block _ (by omega)).trans ((b33.block _ (by omega)).trans ((b32.block _ (by omega)).trans ((b31.block _ (by omega)).trans ((b30.block _ (by omega)).trans ((b29.block _ (by omega)).trans ((b28.block _ (by omega)).trans ((b27.block _ (by omega)).trans ((b26.block _ (by omega)).trans ((b25.block _ (by omega)).trans ((b24.block _ (by omega)).trans ((b23.block _ (by omega)).trans ((b22.block _ (by omega)).trans ((b21.block _ (by omega)).trans ((b20.block _ (by omega)).trans ((b19.block _ (by omega)).trans ((b18.block _ (by omega)).trans ((b17.block _ (by omega)).trans ((b16.block _ (by omega)).trans ((b15.block _ (by omega)).trans ((b14.block _ (by omega)).trans ((b13.block _ (by omega)).trans ((b12.block _ (by omega)).trans ((b11.block _ (by omega)).trans (r10)))))))))))))))))))))))))
  · rw [show w1.heap.size + 1 + 1 + 1 + 1 + 1 + 1 + 1 + 1 + 1 + 1 = V10.heap.size by omega]; exact (hW.block _ (by omega)).trans ((b34.block _ (by omega)).trans ((b33.block _ (by omega)).trans ((b32.block _ (by omega)).trans ((b31.block _ (by omega)).trans ((b30.block _ (by omega)).trans ((b29.block _ (by omega)).trans ((b28.block _ (by omega)).trans ((b27.block _ (by omega)).trans ((b26.block _ (by omega)).trans ((b25.block _ (by omega)).trans ((b24.block _ (by omega)).trans ((b23.block _ (by omega)).trans ((b22.block _ (by omega)).trans ((b21.block _ (by omega)).trans ((b20.block _ (by omega)).trans ((b19.block _ (by omega)).trans ((b18.block _ (by omega)).trans ((b17.block _ (by omega)).trans ((b16.block _ (by omega)).trans ((b15.block _ (by omega)).trans ((b14.block _ (by omega)).trans ((b13.block _ (by omega)).trans ((b12.block _ (by omega)).trans (r11))))))))))))))))))))))))
  · rw [show w1.heap.size + 1 + 1 + 1 + 1 + 1 + 1 + 1 + 1 + 1 + 1 + 1 = V11.heap.size by omega]; exact (hW.block _ (by omega)).trans ((b34.block _ (by omega)).trans ((b33.block _ (by omega)).trans ((b32.block _ (by omega)).trans ((b31.block _ (by omega)).trans ((b30.block _ (by omega)).trans ((b29.block _ (by omega)).trans ((b28.block _ (by omega)).trans ((b27.block _ (by omega)).trans ((b26.block _ (by omega)).trans ((b25.block _ (by omega)).trans ((b24.block _ (by omega)).trans ((b23.block _ (by omega)).trans ((b22.block _ (by omega)).trans ((b21.block _ (by omega)).trans ((b20.block _ (by omega)).trans ((b19.block _ (by omega)).trans ((b18.block _ (by omega)).trans ((b17.block _ (by omega)).trans ((b16.block _ (by omega)).trans ((b15.block _ (by omega)).trans ((b14.block _ (by omega)).trans ((b13.block _ (by omega)).trans (r12)))))))))))))))))))))))
  · rw [show w1.heap.size + 1 + 1 + 1 + 1 + 1 + 1 + 1 + 1 + 1 + 1 + 1 + 1 = V12.heap.size by omega]; exact (hW.block _ (by omega)).trans ((b34.block _ (by omega)).trans ((b33.block _ (by omega)).trans ((b32.block _ (by omega)).trans ((b31.block _ (by omega)).trans ((b30.block _ (by omega)).trans ((b29.block _ (by omega)).trans ((b28.block _ (by omega)).trans ((b27.block _ (by omega)).trans ((b26.block _ (by omega)).trans ((b25.block _ (by omega)).trans ((b24.block _ (by omega)).trans ((b23.block _ (by omega)).trans ((b22.block _ (by omega)).trans ((b21.block _ (by omega)).trans ((b20.block _ (by omega)).trans ((b19.block _ (by omega)).trans ((b18.block _ (by omega)).trans ((b17.block _ (by omega)).trans ((b16.block _ (by omega)).trans ((b15.block _ (by omega)).trans ((b14.block _ (by omega)).trans (r13))))))))))))))))))))))
  · rw [show w1.heap.size + 1 + 1 + 1 + 1 + 1 + 1 + 1 + 1 + 1 + 1 + 1 + 1 + 1 = V13.heap.size by omega]; exact (hW.block _ (by omega)).trans ((b34.block _ (by omega)).trans ((b33.block _ (by omega)).trans ((b32.block _ (by omega)).trans ((b31.block _ (by omega)).trans ((b30.block _ (by omega)).trans ((b29.block _ (by omega)).trans ((b28.block _ (by omega)).trans ((b27.block _ (by omega)).trans ((b26.block _ (by omega)).trans ((b25.block _ (by omega)).trans ((b24.block _ (by omega)).trans ((b23.block _ (by omega)).trans ((b22.block _ (by omega)).trans ((b21.block _ (by omega)).trans ((b20.block _ (by omega)).trans ((b19.block _ (by omega)).trans ((b18.block _ (by omega)).trans ((b17.block _ (by omega)).trans ((b16.block _ (by omega)).trans ((b15.block _ (by omega)).trans (r14)))))))))))))))))))))
  · rw [show w1.heap.size + 1 + 1 + 1 + 1 + 1 + 1 + 1 + 1 + 1 + 1 + 1 + 1 + 1 + 1 = V14.heap.size by omega]; exact (hW.block _ (by omega)).trans ((b34.block _ (by omega)).trans ((b33.block _ (by omega)).trans ((b32.block _ (by omega)).trans ((b31.block _ (by omega)).trans ((b30.block _ (by omega)).trans ((b29.block _ (by omega)).trans ((b28.block _ (by omega)).trans ((b27.block _ (by omega)).trans ((b26.block _ (by omega)).trans ((b25.block _ (by omega)).trans ((b24.block _ (by omega)).trans ((b23.block _ (by omega)).trans ((b22.block _ (by omega)).trans ((b21.block _ (by omega)).trans ((b20.block _ (by omega)).trans ((b19.block _ (by omega)).trans ((b18.block _ (by omega)).trans ((b17.block _ (by omega)).trans ((b16.block _ (by omega)).trans (r15))))))))))))))))))))
  · rw [show w1.heap.size + 1 + 1 + 1 + 1 + 1 + 1 + 1 + 1 + 1 + 1 + 1 + 1 + 1 + 1 + 1 = V15.heap.size by omega]; exact (hW.block _ (by omega)).trans ((b34.block _ (by omega)).trans ((b33.block _ (by omega)).trans ((b32.block _ (by omega)).trans ((b31.block _ (by omega)).trans ((b30.block _ (by omega)).trans ((b29.block _ (by omega)).trans ((b28.block _ (by omega)).trans ((b27.block _ (by omega)).trans ((b26.block _ (by omega)).trans ((b25.block _ (by omega)).trans ((b24.block _ (by omega)).trans ((b23.block _ (by omega)).trans ((b22.block _ (by omega)).trans ((b21.block _ (by omega)).trans ((b20.block _ (by omega)).trans ((b19.block _ (by omega)).trans ((b18.block _ (by omega)).trans ((b17.block _ (by omega)).trans (r16)))))))))))))))))))
  · rw [show w1.heap.size + 1 + 1 + 1 + 1 + 1 + 1 + 1 + 1 + 1 + 1 + 1 + 1 + 1 + 1 + 1 + 1 = V16.heap.size by omega]; exact (hW.block _ (by omega)).trans ((b34.block _ (by omega)).trans ((b33.block _ (by omega)).trans ((b32.block _ (by omega)).trans ((b31.block _ (by omega)).trans ((b30.block _ (by omega)).trans ((b29.block _ (by omega)).trans ((b28.block _ (by omega)).trans ((b27.block _ (by omega)).trans ((b26.block _ (by omega)).trans ((b25.block _ (by omega)).trans ((b24.block _ (by omega)).trans ((b23.block _ (by omega)).trans ((b22.block _ (by omega)).trans ((b21.block _ (by omega)).trans ((b20.block _ (by omega)).trans ((b19.block _ (by omega)).trans ((b18.block _ (by omega)).trans (r17))))))))))))))))))
  · rw [show w1.heap.size + 1 + 1 + 1 + 1 + 1 + 1 + 1 + 1 + 1 + 1 + 1 + 1 + 1 + 1 + 1 + 1 + 1 = V17.heap.size by omega]; exact (hW.block _ (by omega)).trans ((b34.block _ (by omega)).trans ((b33.block _ (by omega)).trans ((b32.block _ (by omega)).trans ((b31.block _ (by omega)).trans ((b30.block _ (by omega)).trans ((b29.block _ (by omega)).trans ((b28.block _ (by omega)).trans ((b27.block _ (by omega)).trans ((b26.block _ (by omega)).trans ((b25.block _ (by omega)).trans ((b24.block _ (by omega)).trans ((b23.block _ (by omega)).trans ((b22.block _ (by omega)).trans ((b21.block _ (by omega)).trans ((b20.block _ (by omega)).trans ((b19.block _ (by omega)).trans (r18)))))))))))))))))
  · rw [show w1.heap.size + 1 + 1 + 1 + 1 + 1 + 1 + 1 + 1 + 1 + 1 + 1 + 1 + 1 + 1 + 1 + 1 + 1 + 1 = V18.heap.size by omega]; exact (hW.block _ (by omega)).trans ((b34.block _ (by omega)).trans ((b33.block _ (by omega)).trans ((b32.block _ (by omega)).trans ((b31.block _ (by omega)).trans ((b30.block _ (by omega)).trans ((b29.block _ (by omega)).trans ((b28.block _ (by omega)).trans ((b27.block _ (by omega)).trans ((b26.block _ (by omega)).trans ((b25.block _ (by omega)).trans ((b24.block _ (by omega)).trans ((b23.block _ (by omega)).trans ((b22.block _ (by omega)).trans ((b21.block _ (by omega)).trans ((b20.block _ (by omega)).trans (r19))))))))))))))))
  · rw [show w1.heap.size + 1 + 1 + 1 + 1 + 1 + 1 + 1 + 1 + 1 + 1 + 1 + 1 + 1 + 1 + 1 + 1 + 1 + 1 + 1 = V19.heap.size by omega]; exact (hW.block _ (by omega)).trans ((b34.block _ (by omega)).trans ((b33.block _ (by omega)).trans ((b32.block _ (by omega)).trans ((b31.block _ (by omega)).trans ((b30.block _ (by omega)).trans ((b29.block _ (by omega)).trans ((b28.block _ (by omega)).trans ((b27.block _ (by omega)).trans ((b26.block _ (by omega)).trans ((b25.block _ (by omega)).trans ((b24.block _ (by omega)).trans ((b23.block _ (by omega)).trans ((b22.block _ (by omega)).trans ((b21.block _ (by omega)).trans (r20)))))))))))))))
  · rw [show w1.heap.size + 1 + 1 + 1 + 1 + 1 + 1 + 1 + 1 + 1 + 1 + 1 + 1 + 1 + 1 + 1 + 1 + 1 + 1 + 1 + 1 = V20.heap.size by omega]; exact (hW.block _ (by omega)).trans ((b34.block _ (by omega)).trans ((b33.block _ (by omega)).trans ((b32.block _ (by omega)).trans ((b31.block _ (by omega)).trans ((b30.block _ (by omega)).trans ((b29.block _ (by omega)).trans ((b28.block _ (by omega)).trans ((b27.block _ (by omega)).trans ((b26.block _ (by omega)).trans ((b25.block _ (by omega)).trans ((b24.block _ (by omega)).trans ((b23.block _ (by omega)).trans ((b22.block _ (by omega)).trans (r21))))))))))))))
  · rw [show w1.heap.size + 1 + 1 + 1 + 1 + 1 + 1 + 1 + 1 + 1 + 1 + 1 + 1 + 1 + 1 + 1 + 1 + 1 + 1 + 1 + 1 + 1 = V21.heap.size by omega]; exact (hW.block _ (by omega)).trans ((b34.block _ (by omega)).trans ((b33.block _ (by omega)).trans ((b32.block _ (by omega)).trans ((b31.block _ (by omega)).trans ((b30.block _ (by omega)).trans ((b29.block _ (by omega)).trans ((b28.block _ (by omega)).trans ((b27.block _ (by omega)).trans ((b26.block _ (by omega)).trans ((b25.block _ (by omega)).trans ((b24.block _ (by omega)).trans ((b23.block _ (by omega)).trans (r22)))))))))))))
  · rw [show w1.heap.size + 1 + 1 + 1 + 1 + 1 + 1 + 1 + 1 + 1 + 1 + 1 + 1 + 1 + 1 + 1 + 1 + 1 + 1 + 1 + 1 + 1 + 1 = V22.heap.size by omega]; exact (hW.block _ (by omega)).trans ((b34.block _ (by omega)).trans ((b33.block _ (by omega)).trans ((b32.block _ (by omega)).trans ((b31.block _ (by omega)).trans ((b30.block _ (by omega)).trans ((b29.block _ (by omega)).trans ((b28.block _ (by omega)).trans ((b27.block _ (by omega)).trans ((b26.block _ (by omega)).trans ((b25.block _ (by omega)).trans ((b24.block _ (by omega)).trans (r23))))))))))))
  · rw [show w1.heap.size + 1 + 1 + 1 + 1 + 1 + 1 + 1 + 1 + 1 + 1 + 1 + 1 + 1 + 1 + 1 + 1 + 1 + 1 + 1 + 1 + 1 + 1 + 1 = V23.heap.size by omega]; exact (hW.block _ (by omega)).trans ((b34.block _ (by omega)).trans ((b33.block _ (by omega)).trans ((b32.block _ (by omega)).trans ((b31.block _ (by omega)).trans ((b30.block _ (by omega)).trans ((b29.block _ (by omega)).trans ((b28.block _ (by omega)).trans ((b27.block _ (by omega)).trans ((b26.block _ (by omega)).trans ((b25.block _ (by omega)).trans (r24)))))))))))
  · rw [show w1.heap.size + 1 + 1 + 1 + 1 + 1 + 1 + 1 + 1 + 1 + 1 + 1 + 1 + 1 + 1 + 1 + 1 + 1 + 1 + 1 + 1 + 1 + 1 + 1 + 1 = V24.heap.size by omega]; exact (hW.block _ (by omega)).trans ((b34.block _ (by omega)).trans ((b33.block _ (by omega)).trans ((b32.block _ (by omega)).trans ((b31.block _ (by omega)).trans ((b30.block _ (by omega)).trans ((b29.block _ (by omega)).trans ((b28.block _ (by omega)).trans ((b27.block _ (by omega)).trans ((b26.block _ (by omega)).trans (r25))))))))))
  · rw [show w1.heap.size + 1 + 1 + 1 + 1 + 1 + 1 + 1 + 1 + 1 + 1 + 1 + 1 + 1 + 1 + 1 + 1 + 1 + 1 + 1 + 1 + 1 + 1 + 1 + 1 + 1 = V25.heap.size by omega]; exact (hW.block _ (by omega)).trans ((b34.block _ (by omega)).trans ((b33.block _ (by omega)).trans ((b32.block _ (by omega)).trans ((b31.block _ (by omega)).trans ((b30.block _ (by omega)).trans ((b29.block _ (by omega)).trans ((b28.block _ (by omega)).trans ((b27.block _ (by omega)).trans (r26)))))))))
  · rw [show w1.heap.size + 1 + 1 + 1 + 1 + 1 + 1 + 1 + 1 + 1 + 1 + 1 + 1 + 1 + 1 + 1 + 1 + 1 + 1 + 1 + 1 + 1 + 1 + 1 + 1 + 1 + 1 = V26.heap.size by omega]; exact (hW.block _ (by omega)).trans ((b34.block _ (by omega)).trans ((b33.block _ (by omega)).trans ((b32.block _ (by omega)).trans ((b31.block _ (by omega)).trans ((b30.block _ (by omega)).trans ((b29.block _ (by omega)).trans ((b28.block _ (by omega)).trans (r27))))))))
  · rw [show w1.heap.size + 1 + 1 + 1 + 1 + 1 + 1 + 1 + 1 + 1 + 1 + 1 + 1 + 1 + 1 + 1 + 1 + 1 + 1 + 1 + 1 + 1 + 1 + 1 + 1 + 1 + 1 + 1 = V27.heap.size by omega]; exact (hW.block _ (by omega)).trans ((b34.block _ (by omega)).trans ((b33.block _ (by omega)).trans ((b32.block _ (by omega)).trans ((b31.block _ (by omega)).trans ((b30.block _ (by omega)).trans ((b29.block _ (by omega)).trans (r28)))))))
  · rw [show w1.heap.size + 1 + 1 + 1 + 1 + 1 + 1 + 1 + 1 + 1 + 1 + 1 + 1 + 1 + 1 + 1 + 1 + 1 + 1 + 1 + 1 + 1 + 1 + 1 + 1 + 1 + 1 + 1 + 1 = V28.heap.size by omega]; exact (hW.block _ (by omega)).trans ((b34.block _ (by omega)).trans ((b33.block _ (by omega)).trans ((b32.block _ (by omega)).trans ((b31.block _ (by omega)).trans ((b30.block _ (by omega)).trans (r29))))))
  · rw [show w1.heap.size + 1 + 1 + 1 + 1 + 1 + 1 + 1 + 1 + 1 + 1 + 1 + 1 + 1 + 1 + 1 + 1 + 1 + 1 + 1 + 1 + 1 + 1 + 1 + 1 + 1 + 1 + 1 + 1 + 1 = V29.heap.size by omega]; exact (hW.block _ (by omega)).trans ((b34.block _ (by omega)).trans ((b33.block _ (by omega)).trans ((b32.block _ (by omega)).trans ((b31.block _ (by omega)).trans (r30)))))
  · rw [show w1.heap.size + 1 + 1 + 1 + 1 + 1 + 1 + 1 + 1 + 1 + 1 + 1 + 1 + 1 + 1 + 1 + 1 + 1 + 1 + 1 + 1 + 1 + 1 + 1 + 1 + 1 + 1 + 1 + 1 + 1 + 1 = V30.heap.size by omega]; exact (hW.block _ (by omega)).trans ((b34.block _ (by omega)).trans ((b33.block _ (by omega)).trans ((b32.block _ (by omega)).trans (r31))))
  · rw [show w1.heap.size + 1 + 1 + 1 + 1 + 1 + 1 + 1 + 1 + 1 + 1 + 1 + 1 + 1 + 1 + 1 + 1 + 1 + 1 + 1 + 1 + 1 + 1 + 1 + 1 + 1 + 1 + 1 + 1 + 1 + 1 + 1 = V31.heap.size by omega]; exact (hW.block _ (by omega)).trans ((b34.block _ (by omega)).trans ((b33.block _ (by omega)).trans (r32)))
  · rw [show w1.heap.size + 1 + 1 + 1 + 1 + 1 + 1 + 1 + 1 + 1 + 1 + 1 + 1 + 1 + 1 + 1 + 1 + 1 + 1 + 1 + 1 + 1 + 1 + 1 + 1 + 1 + 1 + 1 + 1 + 1 + 1 + 1 + 1 = V32.heap.size by omega]; exact (hW.block _ (by omega)).trans ((b34.block _ (by omega)).trans (r33))
  · rw [show w1.heap.size + 1 + 1 + 1 + 1 + 1 + 1 + 1 + 1 + 1 + 1 + 1 + 1 + 1 + 1 + 1 + 1 + 1 + 1 + 1 + 1 + 1 + 1 + 1 + 1 + 1 + 1 + 1 + 1 + 1 + 1 + 1 + 1 + 1 = V33.heap.size by omega]; exact (hW.block _ (by omega)).trans (r34)
theorem ShRows.one {w1 : World} {s : ByteArray} {W : World} (h : ShRows w1 s W) : GrAt W W.heap.size (gOne s) (.agg #[.slice (some ⟨w1.heap.size + 1 + 1 + 1, 0, none⟩) 2 2, .slice (some ⟨w1.heap.size + 1 + 1 + 1 + 1, 0, none⟩) 1 1]) := by
  have hs := h.size
  exact ⟨_, 2, _, 1, rfl, nds_lit (L := ([(⟨2, ⟨#[116]⟩, ⟨#[]⟩, [1, 1], false⟩, (some ⟨w1.heap.size + 1 + 1, 0, none⟩), 2), (⟨1, ⟨#[120]⟩, s, [], false⟩, none, 0)] : List NdK)) (by omega) h.q3 rfl (by
        intro e he
        simp only [List.mem_cons, List.not_mem_nil, or_false] at he
        rcases he with rfl | rfl
        · exact ⟨ints_lit (by omega) h.q2 rfl, by simp, by simp⟩
        · exact ⟨ints_none, by simp, by simp⟩), ints_lit (by omega) h.q4 rfl⟩
theorem ShRows.two {w1 : World} {s : ByteArray} {W : World} (h : ShRows w1 s W) : GrAt W W.heap.size (gTwo s) (.agg #[.slice (some ⟨w1.heap.size + 1 + 1 + 1 + 1 + 1 + 1 + 1, 0, none⟩) 3 3, .slice (some ⟨w1.heap.size + 1 + 1 + 1 + 1 + 1 + 1 + 1 + 1, 0, none⟩) 1 1]) := by
  have hs := h.size
  exact ⟨_, 3, _, 1, rfl, nds_lit (L := ([(⟨2, ⟨#[116]⟩, ⟨#[]⟩, [1, 2], false⟩, (some ⟨w1.heap.size + 1 + 1 + 1 + 1 + 1 + 1, 0, none⟩), 2), (⟨1, ⟨#[120]⟩, s, [], false⟩, none, 0), (⟨1, ⟨#[120]⟩, s, [], false⟩, none, 0)] : List NdK)) (by omega) h.q7 rfl (by
        intro e he
        simp only [List.mem_cons, List.not_mem_nil, or_false] at he
        rcases he with rfl | rfl | rfl
        · exact ⟨ints_lit (by omega) h.q6 rfl, by simp, by simp⟩
        · exact ⟨ints_none, by simp, by simp⟩
        · exact ⟨ints_none, by simp, by simp⟩), ints_lit (by omega) h.q8 rfl⟩
theorem ShRows.ab {w1 : World} {s : ByteArray} {W : World} (h : ShRows w1 s W) : GrAt W W.heap.size (gAb s) (.agg #[.slice (some ⟨w1.heap.size + 1 + 1 + 1 + 1 + 1 + 1 + 1 + 1 + 1 + 1 + 1, 0, none⟩) 3 3, .slice (some ⟨w1.heap.size + 1 + 1 + 1 + 1 + 1 + 1 + 1 + 1 + 1 + 1 + 1 + 1, 0, none⟩) 1 1]) := by
  have hs := h.size
  exact ⟨_, 3, _, 1, rfl, nds_lit (L := ([(⟨3, ⟨#[116]⟩, ⟨#[]⟩, [1, 2], false⟩, (some ⟨w1.heap.size + 1 + 1 + 1 + 1 + 1 + 1 + 1 + 1 + 1 + 1, 0, none⟩), 2), (⟨1, ⟨#[120]⟩, s, [], false⟩, none, 0), (⟨1, ⟨#[120]⟩, (s ++ ⟨#[118]⟩), [], false⟩, none, 0)] : List NdK)) (by omega) h.q11 rfl (by
        intro e he
        simp only [List.mem_cons, List.not_mem_nil, or_false] at he
        rcases he with rfl | rfl | rfl
        · exact ⟨ints_lit (by omega) h.q10 rfl, by simp, by simp⟩
        · exact ⟨ints_none, by simp, by simp⟩
        · exact ⟨ints_none, by simp, by simp⟩), ints_lit (by omega) h.q12 rfl⟩
theorem ShRows.ba {w1 : World} {s : ByteArray} {W : World} (h : ShRows w1 s W) : GrAt W W.heap.size (gBa s) (.agg #[.slice (some ⟨w1.heap.size + 1 + 1 + 1 + 1 + 1 + 1 + 1 + 1 + 1 + 1 + 1 + 1 + 1 + 1 + 1, 0, none⟩) 3 3, .slice (some ⟨w1.heap.size + 1 + 1 + 1 + 1 + 1 + 1 + 1 + 1 + 1 + 1 + 1 + 1 + 1 + 1 + 1 + 1, 0, none⟩) 1 1]) := by
  have hs := h.size
  exact ⟨_, 3, _, 1, rfl, nds_lit (L := ([(⟨3, ⟨#[116]⟩, ⟨#[]⟩, [2, 1], false⟩, (some ⟨w1.heap.size + 1 + 1 + 1 + 1 + 1 + 1 + 1 + 1 + 1 + 1 + 1 + 1 + 1 + 1, 0, none⟩), 2), (⟨1, ⟨#[120]⟩, s, [], false⟩, none, 0), (⟨1, ⟨#[120]⟩, (s ++ ⟨#[118]⟩), [], false⟩, none, 0)] : List NdK)) (by omega) h.q15 rfl (by
        intro e he
        simp only [List.mem_cons, List.not_mem_nil, or_false] at he
        rcases he with rfl | rfl | rfl
        · exact ⟨ints_lit (by omega) h.q14 rfl, by simp, by simp⟩
        · exact ⟨ints_none, by simp, by simp⟩
        · exact ⟨ints_none, by simp, by simp⟩), ints_lit (by omega) h.q16 rfl⟩
theorem ShRows.ring {w1 : World} {s : ByteArray} {W : World} (h : ShRows w1 s W) : GrAt W W.heap.size gRing (.agg #[.slice (some ⟨w1.heap.size + 1 + 1 + 1 + 1 + 1 + 1 + 1 + 1 + 1 + 1 + 1 + 1 + 1 + 1 + 1 + 1 + 1 + 1 + 1, 0, none⟩) 1 1, .slice (some ⟨w1.heap.size + 1 + 1 + 1 + 1 + 1 + 1 + 1 + 1 + 1 + 1 + 1 + 1 + 1 + 1 + 1 + 1 + 1 + 1 + 1 + 1, 0, none⟩) 1 1]) := by
  have hs := h.size
  exact ⟨_, 1, _, 1, rfl, nds_lit (L := ([(⟨2, ⟨#[116]⟩, ⟨#[]⟩, [0], false⟩, (some ⟨w1.heap.size + 1 + 1 + 1 + 1 + 1 + 1 + 1 + 1 + 1 + 1 + 1 + 1 + 1 + 1 + 1 + 1 + 1 + 1, 0, none⟩), 1)] : List NdK)) (by omega) h.q19 rfl (by
        intro e he
        simp only [List.mem_cons, List.not_mem_nil, or_false] at he
        rcases he with rfl
        · exact ⟨ints_lit (by omega) h.q18 rfl, by simp, by simp⟩), ints_lit (by omega) h.q20 rfl⟩
theorem ShRows.rings {w1 : World} {s : ByteArray} {W : World} (h : ShRows w1 s W) : GrAt W W.heap.size gRings (.agg #[.slice (some ⟨w1.heap.size + 1 + 1 + 1 + 1 + 1 + 1 + 1 + 1 + 1 + 1 + 1 + 1 + 1 + 1 + 1 + 1 + 1 + 1 + 1 + 1 + 1 + 1 + 1 + 1, 0, none⟩) 2 2, .slice (some ⟨w1.heap.size + 1 + 1 + 1 + 1 + 1 + 1 + 1 + 1 + 1 + 1 + 1 + 1 + 1 + 1 + 1 + 1 + 1 + 1 + 1 + 1 + 1 + 1 + 1 + 1 + 1, 0, none⟩) 1 1]) := by
  have hs := h.size
  exact ⟨_, 2, _, 1, rfl, nds_lit (L := ([(⟨2, ⟨#[116]⟩, ⟨#[]⟩, [1], false⟩, (some ⟨w1.heap.size + 1 + 1 + 1 + 1 + 1 + 1 + 1 + 1 + 1 + 1 + 1 + 1 + 1 + 1 + 1 + 1 + 1 + 1 + 1 + 1 + 1 + 1, 0, none⟩), 1), (⟨2, ⟨#[116]⟩, ⟨#[]⟩, [0], false⟩, (some ⟨w1.heap.size + 1 + 1 + 1 + 1 + 1 + 1 + 1 + 1 + 1 + 1 + 1 + 1 + 1 + 1 + 1 + 1 + 1 + 1 + 1 + 1 + 1 + 1 + 1, 0, none⟩), 1)] : List NdK)) (by omega) h.q24 rfl (by
        intro e he
        simp only [List.mem_cons, List.not_mem_nil, or_false] at he
        rcases he with rfl | rfl
        · exact ⟨ints_lit (by omega) h.q22 rfl, by simp, by simp⟩
        · exact ⟨ints_lit (by omega) h.q23 rfl, by simp, by simp⟩), ints_lit (by omega) h.q25 rfl⟩
theorem ShRows.roots {w1 : World} {s : ByteArray} {W : World} (h : ShRows w1 s W) : GrAt W W.heap.size (gRoots s) (.agg #[.slice (some ⟨w1.heap.size + 1 + 1 + 1 + 1 + 1 + 1 + 1 + 1 + 1 + 1 + 1 + 1 + 1 + 1 + 1 + 1 + 1 + 1 + 1 + 1 + 1 + 1 + 1 + 1 + 1 + 1 + 1, 0, none⟩) 1 1, .slice (some ⟨w1.heap.size + 1 + 1 + 1 + 1 + 1 + 1 + 1 + 1 + 1 + 1 + 1 + 1 + 1 + 1 + 1 + 1 + 1 + 1 + 1 + 1 + 1 + 1 + 1 + 1 + 1 + 1 + 1 + 1, 0, none⟩) 2 2]) := by
  have hs := h.size
  exact ⟨_, 1, _, 2, rfl, nds_lit (L := ([(⟨1, ⟨#[120]⟩, s, [], false⟩, none, 0)] : List NdK)) (by omega) h.q27 rfl (by
        intro e he
        simp only [List.mem_cons, List.not_mem_nil, or_false] at he
        rcases he with rfl
        · exact ⟨ints_none, by simp, by simp⟩), ints_lit (by omega) h.q28 rfl⟩
theorem ShRows.apart {w1 : World} {s : ByteArray} {W : World} (h : ShRows w1 s W) : GrAt W W.heap.size (gApart s) (.agg #[.slice (some ⟨w1.heap.size + 1 + 1 + 1 + 1 + 1 + 1 + 1 + 1 + 1 + 1 + 1 + 1 + 1 + 1 + 1 + 1 + 1 + 1 + 1 + 1 + 1 + 1 + 1 + 1 + 1 + 1 + 1 + 1 + 1 + 1, 0, none⟩) 2 2, .slice (some ⟨w1.heap.size + 1 + 1 + 1 + 1 + 1 + 1 + 1 + 1 + 1 + 1 + 1 + 1 + 1 + 1 + 1 + 1 + 1 + 1 + 1 + 1 + 1 + 1 + 1 + 1 + 1 + 1 + 1 + 1 + 1 + 1 + 1, 0, none⟩) 2 2]) := by
  have hs := h.size
  exact ⟨_, 2, _, 2, rfl, nds_lit (L := ([(⟨1, ⟨#[120]⟩, s, [], false⟩, none, 0), (⟨1, ⟨#[120]⟩, s, [], false⟩, none, 0)] : List NdK)) (by omega) h.q30 rfl (by
        intro e he
        simp only [List.mem_cons, List.not_mem_nil, or_false] at he
        rcases he with rfl | rfl
        · exact ⟨ints_none, by simp, by simp⟩
        · exact ⟨ints_none, by simp, by simp⟩), ints_lit (by omega) h.q31 rfl⟩
set_option maxRecDepth 100000 in
set_option maxHeartbeats 8000000 in
theorem isoShares_hk (w : World) (hT : Tabs w) (s : ByteArray) (hl : s.size ≤ 100) (k : Int) (hk : k < 0) :
    Calls Tryd.prog 10 #[.string s, .int .i64 k] w fun e w' => e = .returned (.bool true) ∧ Below w.heap.size w w' := by
      have HA : Hid (Calls Tryd.prog 29 #[] w fun e w' => e = .returned (.bool true) ∧ Below w.heap.size w w') := alive22_any w hT
      have HT : Hid (∀ W, Below w.heap.size w W → Tabs W) := fun W hW => hT.below hW
      have hs' : ¬ (100 : Int) < (s.size : Int) := by omega
      have Hs := Lib.hid hl
      clear hT hl
      have hd1 : decide (k < 0) = true := decide_eq_true hk
      go_enter Tryd.func10, Tryd.ntmps10
      go_wp2_with (go_at_call 29; refine HA.out.mono ?_; rintro e w1 ⟨rfl, hb1⟩; obtain ⟨V34, h34, hrows⟩ := sh_lits w1 s; have HW := Lib.hid (below_then hb1 (hrows V34 (Below.refl _ _)).below); clear hb1 hrows)
      go_ret
      exact ⟨by first | rfl | simp, HW.out⟩
set_option maxRecDepth 100000 in
set_option maxHeartbeats 8000000 in
theorem isoShares_hk2 (w : World) (hT : Tabs w) (s : ByteArray) (hl : s.size ≤ 100) (k : Int) (hk : ¬ k < 0) (hk2 : 4 ≤ k) :
    Calls Tryd.prog 10 #[.string s, .int .i64 k] w fun e w' => e = .returned (.bool true) ∧ Below w.heap.size w w' := by
      have HA : Hid (Calls Tryd.prog 29 #[] w fun e w' => e = .returned (.bool true) ∧ Below w.heap.size w w') := alive22_any w hT
      have HT : Hid (∀ W, Below w.heap.size w W → Tabs W) := fun W hW => hT.below hW
      have hs' : ¬ (100 : Int) < (s.size : Int) := by omega
      have Hs := Lib.hid hl
      clear hT hl
      have hd1 : decide (k < 0) = false := decide_eq_false hk
      go_enter Tryd.func10, Tryd.ntmps10
      go_wp2_with (go_at_call 29; refine HA.out.mono ?_; rintro e w1 ⟨rfl, hb1⟩; obtain ⟨V34, h34, hrows⟩ := sh_lits w1 s; have HW := Lib.hid (below_then hb1 (hrows V34 (Below.refl _ _)).below); clear hb1 hrows)
      go_ret
      exact ⟨by first | rfl | simp, HW.out⟩
set_option maxRecDepth 100000 in
set_option maxHeartbeats 8000000 in
theorem isoShares_c0 (w : World) (hT : Tabs w) (s : ByteArray) (hl : s.size ≤ 100) :
    Calls Tryd.prog 10 #[.string s, .int .i64 0] w fun e w' => e = .returned (.bool true) ∧ Below w.heap.size w w' := by
      have HA : Hid (Calls Tryd.prog 29 #[] w fun e w' => e = .returned (.bool true) ∧ Below w.heap.size w w') := alive22_any w hT
      have HT : Hid (∀ W, Below w.heap.size w W → Tabs W) := fun W hW => hT.below hW
      have hs' : ¬ (100 : Int) < (s.size : Int) := by omega
      have Hs := Lib.hid hl
      clear hT hl
      obtain ⟨tb, htb⟩ : ∃ b, textB s = b := ⟨_, rfl⟩
      have HRn : Hid (∀ W, Below w.heap.size w W → ∀ x, GrAt W W.heap.size (gOne s) x → Calls Tryd.prog 19 #[x] W fun e w' => e = .returned (.bool tb) ∧ Below W.heap.size W w') := fun W hW x hx => by
        have := RRight_any (gOne s) x W hx (okROne Hs.out)
        rwa [(sh_all s (by have := Hs.out; omega)).2.2.2, htb] at this
      have HS1 : Hid (∀ W, Below w.heap.size w W → ∀ x y, GrAt W W.heap.size (gOne s) x → GrAt W W.heap.size (gTwo s) y → Calls Tryd.prog 30 #[x, y] W fun e w' => e = .returned (.bool false) ∧ Below W.heap.size W w') := fun W hW x y hx hy => by
        have := Same_any (gOne s) (gTwo s) x y W hx hy (okOne Hs.out) (okTwo Hs.out) (HT.out W hW)
        rwa [(sh0 s).1] at this
      have HS2 : Hid (∀ W, Below w.heap.size w W → ∀ x y, GrAt W W.heap.size (gTwo s) x → GrAt W W.heap.size (gOne s) y → Calls Tryd.prog 30 #[x, y] W fun e w' => e = .returned (.bool false) ∧ Below W.heap.size W w') := fun W hW x y hx hy => by
        have := Same_any (gTwo s) (gOne s) x y W hx hy (okTwo Hs.out) (okOne Hs.out) (HT.out W hW)
        rwa [(sh0 s).2] at this
      have HS3 : Hid (∀ W, Below w.heap.size w W → ∀ x y, GrAt W W.heap.size (gOne s) x → GrAt W W.heap.size (gOne s) y → Calls Tryd.prog 30 #[x, y] W fun e w' => e = .returned (.bool tb) ∧ Below W.heap.size W w') := fun W hW x y hx hy => by
        have := Same_any (gOne s) (gOne s) x y W hx hy (okOne Hs.out) (okOne Hs.out) (HT.out W hW)
        rwa [(sh_all s (by have := Hs.out; omega)).1, htb] at this
      clear htb
      go_enter Tryd.func10, Tryd.ntmps10
      go_wp2_with (first
        | (go_at_call 29; refine HA.out.mono ?_; rintro e w1 ⟨rfl, hb1⟩; obtain ⟨V34, h34, hrows⟩ := sh_lits w1 s
           have HW := Lib.hid (below_then hb1 (hrows V34 (Below.refl _ _)).below)
           have HRow := Lib.hid hrows
           have HG : Hid (∀ W, ShRows w1 s W → GrAt W W.heap.size (gOne s) (.agg #[.slice (some ⟨w1.heap.size + 1 + 1 + 1, 0, none⟩) 2 2, .slice (some ⟨w1.heap.size + 1 + 1 + 1 + 1, 0, none⟩) 1 1]) ∧ GrAt W W.heap.size (gOne s) (.agg #[.slice (some ⟨w1.heap.size + 1 + 1 + 1, 0, none⟩) 2 2, .slice (some ⟨w1.heap.size + 1 + 1 + 1 + 1, 0, none⟩) 1 1]) ∧ GrAt W W.heap.size (gTwo s) (.agg #[.slice (some ⟨w1.heap.size + 1 + 1 + 1 + 1 + 1 + 1 + 1, 0, none⟩) 3 3, .slice (some ⟨w1.heap.size + 1 + 1 + 1 + 1 + 1 + 1 + 1 + 1, 0, none⟩) 1 1]) ∧ Below w.heap.size w W ∧ W.cell? ⟨w1.heap.size + 1 + 1 + 1 + 1 + 1, 0, none⟩ = some (.slice (some ⟨w1.heap.size + 1 + 1 + 1, 0, none⟩) 2 2) ∧ W.cell? ⟨w1.heap.size + 1 + 1 + 1 + 1 + 1, 1, none⟩ = some (.slice (some ⟨w1.heap.size + 1 + 1 + 1 + 1, 0, none⟩) 1 1) ∧ W.cell? ⟨w1.heap.size + 1 + 1 + 1 + 1 + 1 + 1 + 1 + 1 + 1 + 1 + 1 + 1 + 1 + 1 + 1 + 1 + 1 + 1 + 1 + 1 + 1 + 1 + 1 + 1 + 1 + 1 + 1 + 1 + 1 + 1 + 1 + 1 + 1, 0, none⟩ = some (.slice (some ⟨w1.heap.size + 1 + 1 + 1, 0, none⟩) 2 2) ∧ W.cell? ⟨w1.heap.size + 1 + 1 + 1 + 1 + 1 + 1 + 1 + 1 + 1 + 1 + 1 + 1 + 1 + 1 + 1 + 1 + 1 + 1 + 1 + 1 + 1 + 1 + 1 + 1 + 1 + 1 + 1 + 1 + 1 + 1 + 1 + 1 + 1, 1, none⟩ = some (.slice (some ⟨w1.heap.size + 1 + 1 + 1 + 1, 0, none⟩) 1 1) ∧ W.cell? ⟨w1.heap.size + 1 + 1 + 1 + 1 + 1 + 1 + 1 + 1 + 1 + 1 + 1 + 1 + 1 + 1 + 1 + 1 + 1 + 1 + 1 + 1 + 1 + 1 + 1 + 1 + 1 + 1 + 1 + 1 + 1 + 1 + 1 + 1 + 1, 2, none⟩ = some (.slice (some ⟨w1.heap.size + 1 + 1 + 1 + 1 + 1 + 1 + 1, 0, none⟩) 3 3) ∧ W.cell? ⟨w1.heap.size + 1 + 1 + 1 + 1 + 1 + 1 + 1 + 1 + 1 + 1 + 1 + 1 + 1 + 1 + 1 + 1 + 1 + 1 + 1 + 1 + 1 + 1 + 1 + 1 + 1 + 1 + 1 + 1 + 1 + 1 + 1 + 1 + 1, 3, none⟩ = some (.slice (some ⟨w1.heap.size + 1 + 1 + 1 + 1 + 1 + 1 + 1 + 1, 0, none⟩) 1 1)) := fun W h =>
             ⟨h.one, h.one, h.two, below_then hb1 h.below, Lib.cell_of_heap h.q5 0, Lib.cell_of_heap h.q5 1, Lib.cell_of_heap h.q33 0, Lib.cell_of_heap h.q33 1, Lib.cell_of_heap h.q33 2, Lib.cell_of_heap h.q33 3⟩
           obtain ⟨_, _, _, _, y0, y1, y2, y3, y4, y5⟩ := HG.out V34 (hrows V34 (Below.refl _ _))
           clear hb1 hrows)
        | (go_at_call 19; refine (HRn.out V34 HW.out _ (HG.out V34 (HRow.out _ (Below.refl _ _))).1).mono ?_; rintro e w2 ⟨rfl, hb2⟩
           obtain ⟨_, _, _, _, z0, z1, z2, z3, z4, z5⟩ := HG.out w2 (HRow.out w2 hb2)
           obtain ⟨X1, hX1, bX1, rX1, sX1⟩ := boxCs w2 #[.slice (some ⟨w1.heap.size + 1 + 1 + 1, 0, none⟩) 2 2, .slice (some ⟨w1.heap.size + 1 + 1 + 1 + 1, 0, none⟩) 1 1] 25
           obtain ⟨X2, hX2, bX2, rX2, sX2⟩ := boxCs X1 #[.slice (some ⟨w1.heap.size + 1 + 1 + 1 + 1 + 1 + 1 + 1, 0, none⟩) 3 3, .slice (some ⟨w1.heap.size + 1 + 1 + 1 + 1 + 1 + 1 + 1 + 1, 0, none⟩) 1 1] 25
           obtain ⟨_, _, _, _, u0, u1, u2, u3, u4, u5⟩ := HG.out X1 (HRow.out X1 (below_then hb2 bX1))
           have HD : Hid (∀ W, Below X2.heap.size X2 W → GrAt W W.heap.size (gOne s) (.agg #[.slice (some ⟨w1.heap.size + 1 + 1 + 1, 0, none⟩) 2 2, .slice (some ⟨w1.heap.size + 1 + 1 + 1 + 1, 0, none⟩) 1 1]) ∧ GrAt W W.heap.size (gTwo s) (.agg #[.slice (some ⟨w1.heap.size + 1 + 1 + 1 + 1 + 1 + 1 + 1, 0, none⟩) 3 3, .slice (some ⟨w1.heap.size + 1 + 1 + 1 + 1 + 1 + 1 + 1 + 1, 0, none⟩) 1 1]) ∧ Below w.heap.size w W ∧ W.cell? ⟨w2.heap.size, 0, none⟩ = some (.slice (some ⟨w1.heap.size + 1 + 1 + 1, 0, none⟩) 2 2) ∧ W.cell? ⟨w2.heap.size, 1, none⟩ = some (.slice (some ⟨w1.heap.size + 1 + 1 + 1 + 1, 0, none⟩) 1 1) ∧ W.cell? ⟨w2.heap.size + 1, 0, none⟩ = some (.slice (some ⟨w1.heap.size + 1 + 1 + 1 + 1 + 1 + 1 + 1, 0, none⟩) 3 3) ∧ W.cell? ⟨w2.heap.size + 1, 1, none⟩ = some (.slice (some ⟨w1.heap.size + 1 + 1 + 1 + 1 + 1 + 1 + 1 + 1, 0, none⟩) 1 1)) := fun W hW => by
             obtain ⟨_, g1, g2, g3, _⟩ := HG.out W (HRow.out W (below_then hb2 (below_then bX1 (below_then bX2 hW))))
             have q1 := (hW.block _ (by omega)).trans ((bX2.block _ (by omega)).trans rX1)
             have q2 := (hW.block _ (by omega)).trans rX2
             rw [sX1] at q2
             exact ⟨g1, g2, g3, Lib.cell_of_heap q1 0, Lib.cell_of_heap q1 1, Lib.cell_of_heap q2 0, Lib.cell_of_heap q2 1⟩
           obtain ⟨_, _, _, k0, k1, k2, k3⟩ := HD.out X2 (Below.refl _ _)
           have Hbc : Hid (Below X2.heap.size X2 X2) := Below.refl _ _
           clear hb2 bX1 rX1 bX2 rX2 z0 z1 y0 y1 y2 y3 y4 y5 u0 u1 u2 u3)
        | (go_at_call 30; with_reducible refine (HS1.out _ (HD.out _ Hbc.out).2.2.1 _ _ (HD.out _ Hbc.out).1 (HD.out _ Hbc.out).2.1).mono ?_; rintro e wn ⟨rfl, hbn⟩; have Hbn := Lib.hid (below_then Hbc.out hbn); obtain ⟨_, _, _, m0, m1, m2, m3⟩ := HD.out _ Hbn.out; clear Hbc hbn; have Hbc := Hbn; clear Hbn)
        | (go_at_call 30; with_reducible refine (HS2.out _ (HD.out _ Hbc.out).2.2.1 _ _ (HD.out _ Hbc.out).2.1 (HD.out _ Hbc.out).1).mono ?_; rintro e wn ⟨rfl, hbn⟩; have Hbn := Lib.hid (below_then Hbc.out hbn); obtain ⟨_, _, _, m0, m1, m2, m3⟩ := HD.out _ Hbn.out; clear Hbc hbn; have Hbc := Hbn; clear Hbn)
        | (go_at_call 30; with_reducible refine (HS3.out _ (HD.out _ Hbc.out).2.2.1 _ _ (HD.out _ Hbc.out).1 (HD.out _ Hbc.out).1).mono ?_; rintro e wn ⟨rfl, hbn⟩; have Hbn := Lib.hid (below_then Hbc.out hbn); obtain ⟨_, _, _, m0, m1, m2, m3⟩ := HD.out _ Hbn.out; clear Hbc hbn; have Hbc := Hbn; clear Hbn))
      go_ret
      exact ⟨ret_bool (by first | rfl | simp), (HD.out _ Hbc.out).2.2.1⟩
set_option maxRecDepth 100000 in
set_option maxHeartbeats 8000000 in
theorem isoShares_c1 (w : World) (hT : Tabs w) (s : ByteArray) (hl : s.size ≤ 100) :
    Calls Tryd.prog 10 #[.string s, .int .i64 1] w fun e w' => e = .returned (.bool true) ∧ Below w.heap.size w w' := by
      have HA : Hid (Calls Tryd.prog 29 #[] w fun e w' => e = .returned (.bool true) ∧ Below w.heap.size w w') := alive22_any w hT
      have HT : Hid (∀ W, Below w.heap.size w W → Tabs W) := fun W hW => hT.below hW
      have hs' : ¬ (100 : Int) < (s.size : Int) := by omega
      have Hs := Lib.hid hl
      clear hT hl
      obtain ⟨tb, htb⟩ : ∃ b, textB s = b := ⟨_, rfl⟩
      have HRn : Hid (∀ W, Below w.heap.size w W → ∀ x, GrAt W W.heap.size (gOne s) x → Calls Tryd.prog 19 #[x] W fun e w' => e = .returned (.bool tb) ∧ Below W.heap.size W w') := fun W hW x hx => by
        have := RRight_any (gOne s) x W hx (okROne Hs.out)
        rwa [(sh_all s (by have := Hs.out; omega)).2.2.2, htb] at this
      have HS1 : Hid (∀ W, Below w.heap.size w W → ∀ x y, GrAt W W.heap.size (gAb s) x → GrAt W W.heap.size (gBa s) y → Calls Tryd.prog 30 #[x, y] W fun e w' => e = .returned (.bool false) ∧ Below W.heap.size W w') := fun W hW x y hx hy => by
        have := Same_any (gAb s) (gBa s) x y W hx hy (okAb Hs.out) (okBa Hs.out) (HT.out W hW)
        rwa [(sh1 s).1] at this
      have HS2 : Hid (∀ W, Below w.heap.size w W → ∀ x y, GrAt W W.heap.size (gBa s) x → GrAt W W.heap.size (gAb s) y → Calls Tryd.prog 30 #[x, y] W fun e w' => e = .returned (.bool false) ∧ Below W.heap.size W w') := fun W hW x y hx hy => by
        have := Same_any (gBa s) (gAb s) x y W hx hy (okBa Hs.out) (okAb Hs.out) (HT.out W hW)
        rwa [(sh1 s).2] at this
      have HS3 : Hid (∀ W, Below w.heap.size w W → ∀ x y, GrAt W W.heap.size (gAb s) x → GrAt W W.heap.size (gAb s) y → Calls Tryd.prog 30 #[x, y] W fun e w' => e = .returned (.bool tb) ∧ Below W.heap.size W w') := fun W hW x y hx hy => by
        have := Same_any (gAb s) (gAb s) x y W hx hy (okAb Hs.out) (okAb Hs.out) (HT.out W hW)
        rwa [(sh_all s (by have := Hs.out; omega)).2.1, htb] at this
      clear htb
      go_enter Tryd.func10, Tryd.ntmps10
      go_wp2_with (first
        | (go_at_call 29; refine HA.out.mono ?_; rintro e w1 ⟨rfl, hb1⟩; obtain ⟨V34, h34, hrows⟩ := sh_lits w1 s
           have HW := Lib.hid (below_then hb1 (hrows V34 (Below.refl _ _)).below)
           have HRow := Lib.hid hrows
           have HG : Hid (∀ W, ShRows w1 s W → GrAt W W.heap.size (gOne s) (.agg #[.slice (some ⟨w1.heap.size + 1 + 1 + 1, 0, none⟩) 2 2, .slice (some ⟨w1.heap.size + 1 + 1 + 1 + 1, 0, none⟩) 1 1]) ∧ GrAt W W.heap.size (gAb s) (.agg #[.slice (some ⟨w1.heap.size + 1 + 1 + 1 + 1 + 1 + 1 + 1 + 1 + 1 + 1 + 1, 0, none⟩) 3 3, .slice (some ⟨w1.heap.size + 1 + 1 + 1 + 1 + 1 + 1 + 1 + 1 + 1 + 1 + 1 + 1, 0, none⟩) 1 1]) ∧ GrAt W W.heap.size (gBa s) (.agg #[.slice (some ⟨w1.heap.size + 1 + 1 + 1 + 1 + 1 + 1 + 1 + 1 + 1 + 1 + 1 + 1 + 1 + 1 + 1, 0, none⟩) 3 3, .slice (some ⟨w1.heap.size + 1 + 1 + 1 + 1 + 1 + 1 + 1 + 1 + 1 + 1 + 1 + 1 + 1 + 1 + 1 + 1, 0, none⟩) 1 1]) ∧ Below w.heap.size w W ∧ W.cell? ⟨w1.heap.size + 1 + 1 + 1 + 1 + 1, 0, none⟩ = some (.slice (some ⟨w1.heap.size + 1 + 1 + 1, 0, none⟩) 2 2) ∧ W.cell? ⟨w1.heap.size + 1 + 1 + 1 + 1 + 1, 1, none⟩ = some (.slice (some ⟨w1.heap.size + 1 + 1 + 1 + 1, 0, none⟩) 1 1) ∧ W.cell? ⟨w1.heap.size + 1 + 1 + 1 + 1 + 1 + 1 + 1 + 1 + 1 + 1 + 1 + 1 + 1 + 1 + 1 + 1 + 1 + 1 + 1 + 1 + 1 + 1 + 1 + 1 + 1 + 1 + 1 + 1 + 1 + 1 + 1 + 1 + 1, 4, none⟩ = some (.slice (some ⟨w1.heap.size + 1 + 1 + 1 + 1 + 1 + 1 + 1 + 1 + 1 + 1 + 1, 0, none⟩) 3 3) ∧ W.cell? ⟨w1.heap.size + 1 + 1 + 1 + 1 + 1 + 1 + 1 + 1 + 1 + 1 + 1 + 1 + 1 + 1 + 1 + 1 + 1 + 1 + 1 + 1 + 1 + 1 + 1 + 1 + 1 + 1 + 1 + 1 + 1 + 1 + 1 + 1 + 1, 5, none⟩ = some (.slice (some ⟨w1.heap.size + 1 + 1 + 1 + 1 + 1 + 1 + 1 + 1 + 1 + 1 + 1 + 1, 0, none⟩) 1 1) ∧ W.cell? ⟨w1.heap.size + 1 + 1 + 1 + 1 + 1 + 1 + 1 + 1 + 1 + 1 + 1 + 1 + 1 + 1 + 1 + 1 + 1 + 1 + 1 + 1 + 1 + 1 + 1 + 1 + 1 + 1 + 1 + 1 + 1 + 1 + 1 + 1 + 1, 6, none⟩ = some (.slice (some ⟨w1.heap.size + 1 + 1 + 1 + 1 + 1 + 1 + 1 + 1 + 1 + 1 + 1 + 1 + 1 + 1 + 1, 0, none⟩) 3 3) ∧ W.cell? ⟨w1.heap.size + 1 + 1 + 1 + 1 + 1 + 1 + 1 + 1 + 1 + 1 + 1 + 1 + 1 + 1 + 1 + 1 + 1 + 1 + 1 + 1 + 1 + 1 + 1 + 1 + 1 + 1 + 1 + 1 + 1 + 1 + 1 + 1 + 1, 7, none⟩ = some (.slice (some ⟨w1.heap.size + 1 + 1 + 1 + 1 + 1 + 1 + 1 + 1 + 1 + 1 + 1 + 1 + 1 + 1 + 1 + 1, 0, none⟩) 1 1)) := fun W h =>
             ⟨h.one, h.ab, h.ba, below_then hb1 h.below, Lib.cell_of_heap h.q5 0, Lib.cell_of_heap h.q5 1, Lib.cell_of_heap h.q33 4, Lib.cell_of_heap h.q33 5, Lib.cell_of_heap h.q33 6, Lib.cell_of_heap h.q33 7⟩
           obtain ⟨_, _, _, _, y0, y1, y2, y3, y4, y5⟩ := HG.out V34 (hrows V34 (Below.refl _ _))
           clear hb1 hrows)
        | (go_at_call 19; refine (HRn.out V34 HW.out _ (HG.out V34 (HRow.out _ (Below.refl _ _))).1).mono ?_; rintro e w2 ⟨rfl, hb2⟩
           obtain ⟨_, _, _, _, z0, z1, z2, z3, z4, z5⟩ := HG.out w2 (HRow.out w2 hb2)
           obtain ⟨X1, hX1, bX1, rX1, sX1⟩ := boxCs w2 #[.slice (some ⟨w1.heap.size + 1 + 1 + 1 + 1 + 1 + 1 + 1 + 1 + 1 + 1 + 1, 0, none⟩) 3 3, .slice (some ⟨w1.heap.size + 1 + 1 + 1 + 1 + 1 + 1 + 1 + 1 + 1 + 1 + 1 + 1, 0, none⟩) 1 1] 25
           obtain ⟨X2, hX2, bX2, rX2, sX2⟩ := boxCs X1 #[.slice (some ⟨w1.heap.size + 1 + 1 + 1 + 1 + 1 + 1 + 1 + 1 + 1 + 1 + 1 + 1 + 1 + 1 + 1, 0, none⟩) 3 3, .slice (some ⟨w1.heap.size + 1 + 1 + 1 + 1 + 1 + 1 + 1 + 1 + 1 + 1 + 1 + 1 + 1 + 1 + 1 + 1, 0, none⟩) 1 1] 25
           obtain ⟨_, _, _, _, u0, u1, u2, u3, u4, u5⟩ := HG.out X1 (HRow.out X1 (below_then hb2 bX1))
           have HD : Hid (∀ W, Below X2.heap.size X2 W → GrAt W W.heap.size (gAb s) (.agg #[.slice (some ⟨w1.heap.size + 1 + 1 + 1 + 1 + 1 + 1 + 1 + 1 + 1 + 1 + 1, 0, none⟩) 3 3, .slice (some ⟨w1.heap.size + 1 + 1 + 1 + 1 + 1 + 1 + 1 + 1 + 1 + 1 + 1 + 1, 0, none⟩) 1 1]) ∧ GrAt W W.heap.size (gBa s) (.agg #[.slice (some ⟨w1.heap.size + 1 + 1 + 1 + 1 + 1 + 1 + 1 + 1 + 1 + 1 + 1 + 1 + 1 + 1 + 1, 0, none⟩) 3 3, .slice (some ⟨w1.heap.size + 1 + 1 + 1 + 1 + 1 + 1 + 1 + 1 + 1 + 1 + 1 + 1 + 1 + 1 + 1 + 1, 0, none⟩) 1 1]) ∧ Below w.heap.size w W ∧ W.cell? ⟨w2.heap.size, 0, none⟩ = some (.slice (some ⟨w1.heap.size + 1 + 1 + 1 + 1 + 1 + 1 + 1 + 1 + 1 + 1 + 1, 0, none⟩) 3 3) ∧ W.cell? ⟨w2.heap.size, 1, none⟩ = some (.slice (some ⟨w1.heap.size + 1 + 1 + 1 + 1 + 1 + 1 + 1 + 1 + 1 + 1 + 1 + 1, 0, none⟩) 1 1) ∧ W.cell? ⟨w2.heap.size + 1, 0, none⟩ = some (.slice (some ⟨w1.heap.size + 1 + 1 + 1 + 1 + 1 + 1 + 1 + 1 + 1 + 1 + 1 + 1 + 1 + 1 + 1, 0, none⟩) 3 3) ∧ W.cell? ⟨w2.heap.size + 1, 1, none⟩ = some (.slice (some ⟨w1.heap.size + 1 + 1 + 1 + 1 + 1 + 1 + 1 + 1 + 1 + 1 + 1 + 1 + 1 + 1 + 1 + 1, 0, none⟩) 1 1)) := fun W hW => by
             obtain ⟨_, g1, g2, g3, _⟩ := HG.out W (HRow.out W (below_then hb2 (below_then bX1 (below_then bX2 hW))))
             have q1 := (hW.block _ (by omega)).trans ((bX2.block _ (by omega)).trans rX1)
             have q2 := (hW.block _ (by omega)).trans rX2
             rw [sX1] at q2
             exact ⟨g1, g2, g3, Lib.cell_of_heap q1 0, Lib.cell_of_heap q1 1, Lib.cell_of_heap q2 0, Lib.cell_of_heap q2 1⟩
           obtain ⟨_, _, _, k0, k1, k2, k3⟩ := HD.out X2 (Below.refl _ _)
           have Hbc : Hid (Below X2.heap.size X2 X2) := Below.refl _ _
           clear hb2 bX1 rX1 bX2 rX2 z0 z1 y0 y1 y2 y3 y4 y5 u0 u1 u2 u3)
        | (go_at_call 30; with_reducible refine (HS1.out _ (HD.out _ Hbc.out).2.2.1 _ _ (HD.out _ Hbc.out).1 (HD.out _ Hbc.out).2.1).mono ?_; rintro e wn ⟨rfl, hbn⟩; have Hbn := Lib.hid (below_then Hbc.out hbn); obtain ⟨_, _, _, m0, m1, m2, m3⟩ := HD.out _ Hbn.out; clear Hbc hbn; have Hbc := Hbn; clear Hbn)
        | (go_at_call 30; with_reducible refine (HS2.out _ (HD.out _ Hbc.out).2.2.1 _ _ (HD.out _ Hbc.out).2.1 (HD.out _ Hbc.out).1).mono ?_; rintro e wn ⟨rfl, hbn⟩; have Hbn := Lib.hid (below_then Hbc.out hbn); obtain ⟨_, _, _, m0, m1, m2, m3⟩ := HD.out _ Hbn.out; clear Hbc hbn; have Hbc := Hbn; clear Hbn)
        | (go_at_call 30; with_reducible refine (HS3.out _ (HD.out _ Hbc.out).2.2.1 _ _ (HD.out _ Hbc.out).1 (HD.out _ Hbc.out).1).mono ?_; rintro e wn ⟨rfl, hbn⟩; have Hbn := Lib.hid (below_then Hbc.out hbn); obtain ⟨_, _, _, m0, m1, m2, m3⟩ := HD.out _ Hbn.out; clear Hbc hbn; have Hbc := Hbn; clear Hbn))
      go_ret
      exact ⟨ret_bool (by first | rfl | simp), (HD.out _ Hbc.out).2.2.1⟩
set_option maxRecDepth 100000 in
set_option maxHeartbeats 8000000 in
theorem isoShares_c2 (w : World) (hT : Tabs w) (s : ByteArray) (hl : s.size ≤ 100) :
    Calls Tryd.prog 10 #[.string s, .int .i64 2] w fun e w' => e = .returned (.bool true) ∧ Below w.heap.size w w' := by
      have HA : Hid (Calls Tryd.prog 29 #[] w fun e w' => e = .returned (.bool true) ∧ Below w.heap.size w w') := alive22_any w hT
      have HT : Hid (∀ W, Below w.heap.size w W → Tabs W) := fun W hW => hT.below hW
      have hs' : ¬ (100 : Int) < (s.size : Int) := by omega
      have Hs := Lib.hid hl
      clear hT hl
      obtain ⟨tb, htb⟩ : ∃ b, textB s = b := ⟨_, rfl⟩
      have HRn : Hid (∀ W, Below w.heap.size w W → ∀ x, GrAt W W.heap.size (gOne s) x → Calls Tryd.prog 19 #[x] W fun e w' => e = .returned (.bool tb) ∧ Below W.heap.size W w') := fun W hW x hx => by
        have := RRight_any (gOne s) x W hx (okROne Hs.out)
        rwa [(sh_all s (by have := Hs.out; omega)).2.2.2, htb] at this
      have HS1 : Hid (∀ W, Below w.heap.size w W → ∀ x y, GrAt W W.heap.size gRing x → GrAt W W.heap.size gRings y → Calls Tryd.prog 30 #[x, y] W fun e w' => e = .returned (.bool false) ∧ Below W.heap.size W w') := fun W hW x y hx hy => by
        have := Same_any gRing gRings x y W hx hy (okRing) (okRings) (HT.out W hW)
        rwa [(sh2).1] at this
      have HS2 : Hid (∀ W, Below w.heap.size w W → ∀ x y, GrAt W W.heap.size gRings x → GrAt W W.heap.size gRing y → Calls Tryd.prog 30 #[x, y] W fun e w' => e = .returned (.bool false) ∧ Below W.heap.size W w') := fun W hW x y hx hy => by
        have := Same_any gRings gRing x y W hx hy (okRings) (okRing) (HT.out W hW)
        rwa [(sh2).2] at this
      clear htb
      go_enter Tryd.func10, Tryd.ntmps10
      go_wp2_with (first
        | (go_at_call 29; refine HA.out.mono ?_; rintro e w1 ⟨rfl, hb1⟩; obtain ⟨V34, h34, hrows⟩ := sh_lits w1 s
           have HW := Lib.hid (below_then hb1 (hrows V34 (Below.refl _ _)).below)
           have HRow := Lib.hid hrows
           have HG : Hid (∀ W, ShRows w1 s W → GrAt W W.heap.size (gOne s) (.agg #[.slice (some ⟨w1.heap.size + 1 + 1 + 1, 0, none⟩) 2 2, .slice (some ⟨w1.heap.size + 1 + 1 + 1 + 1, 0, none⟩) 1 1]) ∧ GrAt W W.heap.size gRing (.agg #[.slice (some ⟨w1.heap.size + 1 + 1 + 1 + 1 + 1 + 1 + 1 + 1 + 1 + 1 + 1 + 1 + 1 + 1 + 1 + 1 + 1 + 1 + 1, 0, none⟩) 1 1, .slice (some ⟨w1.heap.size + 1 + 1 + 1 + 1 + 1 + 1 + 1 + 1 + 1 + 1 + 1 + 1 + 1 + 1 + 1 + 1 + 1 + 1 + 1 + 1, 0, none⟩) 1 1]) ∧ GrAt W W.heap.size gRings (.agg #[.slice (some ⟨w1.heap.size + 1 + 1 + 1 + 1 + 1 + 1 + 1 + 1 + 1 + 1 + 1 + 1 + 1 + 1 + 1 + 1 + 1 + 1 + 1 + 1 + 1 + 1 + 1 + 1, 0, none⟩) 2 2, .slice (some ⟨w1.heap.size + 1 + 1 + 1 + 1 + 1 + 1 + 1 + 1 + 1 + 1 + 1 + 1 + 1 + 1 + 1 + 1 + 1 + 1 + 1 + 1 + 1 + 1 + 1 + 1 + 1, 0, none⟩) 1 1]) ∧ Below w.heap.size w W ∧ W.cell? ⟨w1.heap.size + 1 + 1 + 1 + 1 + 1, 0, none⟩ = some (.slice (some ⟨w1.heap.size + 1 + 1 + 1, 0, none⟩) 2 2) ∧ W.cell? ⟨w1.heap.size + 1 + 1 + 1 + 1 + 1, 1, none⟩ = some (.slice (some ⟨w1.heap.size + 1 + 1 + 1 + 1, 0, none⟩) 1 1) ∧ W.cell? ⟨w1.heap.size + 1 + 1 + 1 + 1 + 1 + 1 + 1 + 1 + 1 + 1 + 1 + 1 + 1 + 1 + 1 + 1 + 1 + 1 + 1 + 1 + 1 + 1 + 1 + 1 + 1 + 1 + 1 + 1 + 1 + 1 + 1 + 1 + 1, 8, none⟩ = some (.slice (some ⟨w1.heap.size + 1 + 1 + 1 + 1 + 1 + 1 + 1 + 1 + 1 + 1 + 1 + 1 + 1 + 1 + 1 + 1 + 1 + 1 + 1, 0, none⟩) 1 1) ∧ W.cell? ⟨w1.heap.size + 1 + 1 + 1 + 1 + 1 + 1 + 1 + 1 + 1 + 1 + 1 + 1 + 1 + 1 + 1 + 1 + 1 + 1 + 1 + 1 + 1 + 1 + 1 + 1 + 1 + 1 + 1 + 1 + 1 + 1 + 1 + 1 + 1, 9, none⟩ = some (.slice (some ⟨w1.heap.size + 1 + 1 + 1 + 1 + 1 + 1 + 1 + 1 + 1 + 1 + 1 + 1 + 1 + 1 + 1 + 1 + 1 + 1 + 1 + 1, 0, none⟩) 1 1) ∧ W.cell? ⟨w1.heap.size + 1 + 1 + 1 + 1 + 1 + 1 + 1 + 1 + 1 + 1 + 1 + 1 + 1 + 1 + 1 + 1 + 1 + 1 + 1 + 1 + 1 + 1 + 1 + 1 + 1 + 1 + 1 + 1 + 1 + 1 + 1 + 1 + 1, 10, none⟩ = some (.slice (some ⟨w1.heap.size + 1 + 1 + 1 + 1 + 1 + 1 + 1 + 1 + 1 + 1 + 1 + 1 + 1 + 1 + 1 + 1 + 1 + 1 + 1 + 1 + 1 + 1 + 1 + 1, 0, none⟩) 2 2) ∧ W.cell? ⟨w1.heap.size + 1 + 1 + 1 + 1 + 1 + 1 + 1 + 1 + 1 + 1 + 1 + 1 + 1 + 1 + 1 + 1 + 1 + 1 + 1 + 1 + 1 + 1 + 1 + 1 + 1 + 1 + 1 + 1 + 1 + 1 + 1 + 1 + 1, 11, none⟩ = some (.slice (some ⟨w1.heap.size + 1 + 1 + 1 + 1 + 1 + 1 + 1 + 1 + 1 + 1 + 1 + 1 + 1 + 1 + 1 + 1 + 1 + 1 + 1 + 1 + 1 + 1 + 1 + 1 + 1, 0, none⟩) 1 1)) := fun W h =>
             ⟨h.one, h.ring, h.rings, below_then hb1 h.below, Lib.cell_of_heap h.q5 0, Lib.cell_of_heap h.q5 1, Lib.cell_of_heap h.q33 8, Lib.cell_of_heap h.q33 9, Lib.cell_of_heap h.q33 10, Lib.cell_of_heap h.q33 11⟩
           obtain ⟨_, _, _, _, y0, y1, y2, y3, y4, y5⟩ := HG.out V34 (hrows V34 (Below.refl _ _))
           clear hb1 hrows)
        | (go_at_call 19; refine (HRn.out V34 HW.out _ (HG.out V34 (HRow.out _ (Below.refl _ _))).1).mono ?_; rintro e w2 ⟨rfl, hb2⟩
           obtain ⟨_, _, _, _, z0, z1, z2, z3, z4, z5⟩ := HG.out w2 (HRow.out w2 hb2)
           obtain ⟨X1, hX1, bX1, rX1, sX1⟩ := boxCs w2 #[.slice (some ⟨w1.heap.size + 1 + 1 + 1 + 1 + 1 + 1 + 1 + 1 + 1 + 1 + 1 + 1 + 1 + 1 + 1 + 1 + 1 + 1 + 1, 0, none⟩) 1 1, .slice (some ⟨w1.heap.size + 1 + 1 + 1 + 1 + 1 + 1 + 1 + 1 + 1 + 1 + 1 + 1 + 1 + 1 + 1 + 1 + 1 + 1 + 1 + 1, 0, none⟩) 1 1] 25
           obtain ⟨X2, hX2, bX2, rX2, sX2⟩ := boxCs X1 #[.slice (some ⟨w1.heap.size + 1 + 1 + 1 + 1 + 1 + 1 + 1 + 1 + 1 + 1 + 1 + 1 + 1 + 1 + 1 + 1 + 1 + 1 + 1 + 1 + 1 + 1 + 1 + 1, 0, none⟩) 2 2, .slice (some ⟨w1.heap.size + 1 + 1 + 1 + 1 + 1 + 1 + 1 + 1 + 1 + 1 + 1 + 1 + 1 + 1 + 1 + 1 + 1 + 1 + 1 + 1 + 1 + 1 + 1 + 1 + 1, 0, none⟩) 1 1] 25
           obtain ⟨_, _, _, _, u0, u1, u2, u3, u4, u5⟩ := HG.out X1 (HRow.out X1 (below_then hb2 bX1))
           have HD : Hid (∀ W, Below X2.heap.size X2 W → GrAt W W.heap.size gRing (.agg #[.slice (some ⟨w1.heap.size + 1 + 1 + 1 + 1 + 1 + 1 + 1 + 1 + 1 + 1 + 1 + 1 + 1 + 1 + 1 + 1 + 1 + 1 + 1, 0, none⟩) 1 1, .slice (some ⟨w1.heap.size + 1 + 1 + 1 + 1 + 1 + 1 + 1 + 1 + 1 + 1 + 1 + 1 + 1 + 1 + 1 + 1 + 1 + 1 + 1 + 1, 0, none⟩) 1 1]) ∧ GrAt W W.heap.size gRings (.agg #[.slice (some ⟨w1.heap.size + 1 + 1 + 1 + 1 + 1 + 1 + 1 + 1 + 1 + 1 + 1 + 1 + 1 + 1 + 1 + 1 + 1 + 1 + 1 + 1 + 1 + 1 + 1 + 1, 0, none⟩) 2 2, .slice (some ⟨w1.heap.size + 1 + 1 + 1 + 1 + 1 + 1 + 1 + 1 + 1 + 1 + 1 + 1 + 1 + 1 + 1 + 1 + 1 + 1 + 1 + 1 + 1 + 1 + 1 + 1 + 1, 0, none⟩) 1 1]) ∧ Below w.heap.size w W ∧ W.cell? ⟨w2.heap.size, 0, none⟩ = some (.slice (some ⟨w1.heap.size + 1 + 1 + 1 + 1 + 1 + 1 + 1 + 1 + 1 + 1 + 1 + 1 + 1 + 1 + 1 + 1 + 1 + 1 + 1, 0, none⟩) 1 1) ∧ W.cell? ⟨w2.heap.size, 1, none⟩ = some (.slice (some ⟨w1.heap.size + 1 + 1 + 1 + 1 + 1 + 1 + 1 + 1 + 1 + 1 + 1 + 1 + 1 + 1 + 1 + 1 + 1 + 1 + 1 + 1, 0, none⟩) 1 1) ∧ W.cell? ⟨w2.heap.size + 1, 0, none⟩ = some (.slice (some ⟨w1.heap.size + 1 + 1 + 1 + 1 + 1 + 1 + 1 + 1 + 1 + 1 + 1 + 1 + 1 + 1 + 1 + 1 + 1 + 1 + 1 + 1 + 1 + 1 + 1 + 1, 0, none⟩) 2 2) ∧ W.cell? ⟨w2.heap.size + 1, 1, none⟩ = some (.slice (some ⟨w1.heap.size + 1 + 1 + 1 + 1 + 1 + 1 + 1 + 1 + 1 + 1 + 1 + 1 + 1 + 1 + 1 + 1 + 1 + 1 + 1 + 1 + 1 + 1 + 1 + 1 + 1, 0, none⟩) 1 1)) := fun W hW => by
             obtain ⟨_, g1, g2, g3, _⟩ := HG.out W (HRow.out W (below_then hb2 (below_then bX1 (below_then bX2 hW))))
             have q1 := (hW.block _ (by omega)).trans ((bX2.block _ (by omega)).trans rX1)
             have q2 := (hW.block _ (by omega)).trans rX2
             rw [sX1] at q2
             exact ⟨g1, g2, g3, Lib.cell_of_heap q1 0, Lib.cell_of_heap q1 1, Lib.cell_of_heap q2 0, Lib.cell_of_heap q2 1⟩
           obtain ⟨_, _, _, k0, k1, k2, k3⟩ := HD.out X2 (Below.refl _ _)
           have Hbc : Hid (Below X2.heap.size X2 X2) := Below.refl _ _
           clear hb2 bX1 rX1 bX2 rX2 z0 z1 y0 y1 y2 y3 y4 y5 u0 u1 u2 u3)
        | (go_at_call 30; with_reducible refine (HS1.out _ (HD.out _ Hbc.out).2.2.1 _ _ (HD.out _ Hbc.out).1 (HD.out _ Hbc.out).2.1).mono ?_; rintro e wn ⟨rfl, hbn⟩; have Hbn := Lib.hid (below_then Hbc.out hbn); obtain ⟨_, _, _, m0, m1, m2, m3⟩ := HD.out _ Hbn.out; clear Hbc hbn; have Hbc := Hbn; clear Hbn)
        | (go_at_call 30; with_reducible refine (HS2.out _ (HD.out _ Hbc.out).2.2.1 _ _ (HD.out _ Hbc.out).2.1 (HD.out _ Hbc.out).1).mono ?_; rintro e wn ⟨rfl, hbn⟩; have Hbn := Lib.hid (below_then Hbc.out hbn); obtain ⟨_, _, _, m0, m1, m2, m3⟩ := HD.out _ Hbn.out; clear Hbc hbn; have Hbc := Hbn; clear Hbn))
      go_ret
      exact ⟨ret_bool (by first | rfl | simp), (HD.out _ Hbc.out).2.2.1⟩
set_option maxRecDepth 100000 in
set_option maxHeartbeats 8000000 in
theorem isoShares_c3 (w : World) (hT : Tabs w) (s : ByteArray) (hl : s.size ≤ 100) :
    Calls Tryd.prog 10 #[.string s, .int .i64 3] w fun e w' => e = .returned (.bool true) ∧ Below w.heap.size w w' := by
      have HA : Hid (Calls Tryd.prog 29 #[] w fun e w' => e = .returned (.bool true) ∧ Below w.heap.size w w') := alive22_any w hT
      have HT : Hid (∀ W, Below w.heap.size w W → Tabs W) := fun W hW => hT.below hW
      have hs' : ¬ (100 : Int) < (s.size : Int) := by omega
      have Hs := Lib.hid hl
      clear hT hl
      obtain ⟨tb, htb⟩ : ∃ b, textB s = b := ⟨_, rfl⟩
      have HRn : Hid (∀ W, Below w.heap.size w W → ∀ x, GrAt W W.heap.size (gOne s) x → Calls Tryd.prog 19 #[x] W fun e w' => e = .returned (.bool tb) ∧ Below W.heap.size W w') := fun W hW x hx => by
        have := RRight_any (gOne s) x W hx (okROne Hs.out)
        rwa [(sh_all s (by have := Hs.out; omega)).2.2.2, htb] at this
      have HS1 : Hid (∀ W, Below w.heap.size w W → ∀ x y, GrAt W W.heap.size (gRoots s) x → GrAt W W.heap.size (gApart s) y → Calls Tryd.prog 30 #[x, y] W fun e w' => e = .returned (.bool false) ∧ Below W.heap.size W w') := fun W hW x y hx hy => by
        have := Same_any (gRoots s) (gApart s) x y W hx hy (okRoots Hs.out) (okApart Hs.out) (HT.out W hW)
        rwa [(sh3 s).1] at this
      have HS2 : Hid (∀ W, Below w.heap.size w W → ∀ x y, GrAt W W.heap.size (gApart s) x → GrAt W W.heap.size (gRoots s) y → Calls Tryd.prog 30 #[x, y] W fun e w' => e = .returned (.bool false) ∧ Below W.heap.size W w') := fun W hW x y hx hy => by
        have := Same_any (gApart s) (gRoots s) x y W hx hy (okApart Hs.out) (okRoots Hs.out) (HT.out W hW)
        rwa [(sh3 s).2] at this
      have HS3 : Hid (∀ W, Below w.heap.size w W → ∀ x y, GrAt W W.heap.size (gRoots s) x → GrAt W W.heap.size (gRoots s) y → Calls Tryd.prog 30 #[x, y] W fun e w' => e = .returned (.bool tb) ∧ Below W.heap.size W w') := fun W hW x y hx hy => by
        have := Same_any (gRoots s) (gRoots s) x y W hx hy (okRoots Hs.out) (okRoots Hs.out) (HT.out W hW)
        rwa [(sh_all s (by have := Hs.out; omega)).2.2.1, htb] at this
      clear htb
      go_enter Tryd.func10, Tryd.ntmps10
      go_wp2_with (first
        | (go_at_call 29; refine HA.out.mono ?_; rintro e w1 ⟨rfl, hb1⟩; obtain ⟨V34, h34, hrows⟩ := sh_lits w1 s
           have HW := Lib.hid (below_then hb1 (hrows V34 (Below.refl _ _)).below)
           have HRow := Lib.hid hrows
           have HG : Hid (∀ W, ShRows w1 s W → GrAt W W.heap.size (gOne s) (.agg #[.slice (some ⟨w1.heap.size + 1 + 1 + 1, 0, none⟩) 2 2, .slice (some ⟨w1.heap.size + 1 + 1 + 1 + 1, 0, none⟩) 1 1]) ∧ GrAt W W.heap.size (gRoots s) (.agg #[.slice (some ⟨w1.heap.size + 1 + 1 + 1 + 1 + 1 + 1 + 1 + 1 + 1 + 1 + 1 + 1 + 1 + 1 + 1 + 1 + 1 + 1 + 1 + 1 + 1 + 1 + 1 + 1 + 1 + 1 + 1, 0, none⟩) 1 1, .slice (some ⟨w1.heap.size + 1 + 1 + 1 + 1 + 1 + 1 + 1 + 1 + 1 + 1 + 1 + 1 + 1 + 1 + 1 + 1 + 1 + 1 + 1 + 1 + 1 + 1 + 1 + 1 + 1 + 1 + 1 + 1, 0, none⟩) 2 2]) ∧ GrAt W W.heap.size (gApart s) (.agg #[.slice (some ⟨w1.heap.size + 1 + 1 + 1 + 1 + 1 + 1 + 1 + 1 + 1 + 1 + 1 + 1 + 1 + 1 + 1 + 1 + 1 + 1 + 1 + 1 + 1 + 1 + 1 + 1 + 1 + 1 + 1 + 1 + 1 + 1, 0, none⟩) 2 2, .slice (some ⟨w1.heap.size + 1 + 1 + 1 + 1 + 1 + 1 + 1 + 1 + 1 + 1 + 1 + 1 + 1 + 1 + 1 + 1 + 1 + 1 + 1 + 1 + 1 + 1 + 1 + 1 + 1 + 1 + 1 + 1 + 1 + 1 + 1, 0, none⟩) 2 2]) ∧ Below w.heap.size w W ∧ W.cell? ⟨w1.heap.size + 1 + 1 + 1 + 1 + 1, 0, none⟩ = some (.slice (some ⟨w1.heap.size + 1 + 1 + 1, 0, none⟩) 2 2) ∧ W.cell? ⟨w1.heap.size + 1 + 1 + 1 + 1 + 1, 1, none⟩ = some (.slice (some ⟨w1.heap.size + 1 + 1 + 1 + 1, 0, none⟩) 1 1) ∧ W.cell? ⟨w1.heap.size + 1 + 1 + 1 + 1 + 1 + 1 + 1 + 1 + 1 + 1 + 1 + 1 + 1 + 1 + 1 + 1 + 1 + 1 + 1 + 1 + 1 + 1 + 1 + 1 + 1 + 1 + 1 + 1 + 1 + 1 + 1 + 1 + 1, 12, none⟩ = some (.slice (some ⟨w1.heap.size + 1 + 1 + 1 + 1 + 1 + 1 + 1 + 1 + 1 + 1 + 1 + 1 + 1 + 1 + 1 + 1 + 1 + 1 + 1 + 1 + 1 + 1 + 1 + 1 + 1 + 1 + 1, 0, none⟩) 1 1) ∧ W.cell? ⟨w1.heap.size + 1 + 1 + 1 + 1 + 1 + 1 + 1 + 1 + 1 + 1 + 1 + 1 + 1 + 1 + 1 + 1 + 1 + 1 + 1 + 1 + 1 + 1 + 1 + 1 + 1 + 1 + 1 + 1 + 1 + 1 + 1 + 1 + 1, 13, none⟩ = some (.slice (some ⟨w1.heap.size + 1 + 1 + 1 + 1 + 1 + 1 + 1 + 1 + 1 + 1 + 1 + 1 + 1 + 1 + 1 + 1 + 1 + 1 + 1 + 1 + 1 + 1 + 1 + 1 + 1 + 1 + 1 + 1, 0, none⟩) 2 2) ∧ W.cell? ⟨w1.heap.size + 1 + 1 + 1 + 1 + 1 + 1 + 1 + 1 + 1 + 1 + 1 + 1 + 1 + 1 + 1 + 1 + 1 + 1 + 1 + 1 + 1 + 1 + 1 + 1 + 1 + 1 + 1 + 1 + 1 + 1 + 1 + 1 + 1, 14, none⟩ = some (.slice (some ⟨w1.heap.size + 1 + 1 + 1 + 1 + 1 + 1 + 1 + 1 + 1 + 1 + 1 + 1 + 1 + 1 + 1 + 1 + 1 + 1 + 1 + 1 + 1 + 1 + 1 + 1 + 1 + 1 + 1 + 1 + 1 + 1, 0, none⟩) 2 2) ∧ W.cell? ⟨w1.heap.size + 1 + 1 + 1 + 1 + 1 + 1 + 1 + 1 + 1 + 1 + 1 + 1 + 1 + 1 + 1 + 1 + 1 + 1 + 1 + 1 + 1 + 1 + 1 + 1 + 1 + 1 + 1 + 1 + 1 + 1 + 1 + 1 + 1, 15, none⟩ = some (.slice (some ⟨w1.heap.size + 1 + 1 + 1 + 1 + 1 + 1 + 1 + 1 + 1 + 1 + 1 + 1 + 1 + 1 + 1 + 1 + 1 + 1 + 1 + 1 + 1 + 1 + 1 + 1 + 1 + 1 + 1 + 1 + 1 + 1 + 1, 0, none⟩) 2 2)) := fun W h =>
             ⟨h.one, h.roots, h.apart, below_then hb1 h.below, Lib.cell_of_heap h.q5 0, Lib.cell_of_heap h.q5 1, Lib.cell_of_heap h.q33 12, Lib.cell_of_heap h.q33 13, Lib.cell_of_heap h.q33 14, Lib.cell_of_heap h.q33 15⟩
           obtain ⟨_, _, _, _, y0, y1, y2, y3, y4, y5⟩ := HG.out V34 (hrows V34 (Below.refl _ _))
           clear hb1 hrows)
        | (go_at_call 19; refine (HRn.out V34 HW.out _ (HG.out V34 (HRow.out _ (Below.refl _ _))).1).mono ?_; rintro e w2 ⟨rfl, hb2⟩
           obtain ⟨_, _, _, _, z0, z1, z2, z3, z4, z5⟩ := HG.out w2 (HRow.out w2 hb2)
           obtain ⟨X1, hX1, bX1, rX1, sX1⟩ := boxCs w2 #[.slice (some ⟨w1.heap.size + 1 + 1 + 1 + 1 + 1 + 1 + 1 + 1 + 1 + 1 + 1 + 1 + 1 + 1 + 1 + 1 + 1 + 1 + 1 + 1 + 1 + 1 + 1 + 1 + 1 + 1 + 1, 0, none⟩) 1 1, .slice (some ⟨w1.heap.size + 1 + 1 + 1 + 1 + 1 + 1 + 1 + 1 + 1 + 1 + 1 + 1 + 1 + 1 + 1 + 1 + 1 + 1 + 1 + 1 + 1 + 1 + 1 + 1 + 1 + 1 + 1 + 1, 0, none⟩) 2 2] 25
           obtain ⟨X2, hX2, bX2, rX2, sX2⟩ := boxCs X1 #[.slice (some ⟨w1.heap.size + 1 + 1 + 1 + 1 + 1 + 1 + 1 + 1 + 1 + 1 + 1 + 1 + 1 + 1 + 1 + 1 + 1 + 1 + 1 + 1 + 1 + 1 + 1 + 1 + 1 + 1 + 1 + 1 + 1 + 1, 0, none⟩) 2 2, .slice (some ⟨w1.heap.size + 1 + 1 + 1 + 1 + 1 + 1 + 1 + 1 + 1 + 1 + 1 + 1 + 1 + 1 + 1 + 1 + 1 + 1 + 1 + 1 + 1 + 1 + 1 + 1 + 1 + 1 + 1 + 1 + 1 + 1 + 1, 0, none⟩) 2 2] 25
           obtain ⟨_, _, _, _, u0, u1, u2, u3, u4, u5⟩ := HG.out X1 (HRow.out X1 (below_then hb2 bX1))
           have HD : Hid (∀ W, Below X2.heap.size X2 W → GrAt W W.heap.size (gRoots s) (.agg #[.slice (some ⟨w1.heap.size + 1 + 1 + 1 + 1 + 1 + 1 + 1 + 1 + 1 + 1 + 1 + 1 + 1 + 1 + 1 + 1 + 1 + 1 + 1 + 1 + 1 + 1 + 1 + 1 + 1 + 1 + 1, 0, none⟩) 1 1, .slice (some ⟨w1.heap.size + 1 + 1 + 1 + 1 + 1 + 1 + 1 + 1 + 1 + 1 + 1 + 1 + 1 + 1 + 1 + 1 + 1 + 1 + 1 + 1 + 1 + 1 + 1 + 1 + 1 + 1 + 1 + 1, 0, none⟩) 2 2]) ∧ GrAt W W.heap.size (gApart s) (.agg #[.slice (some ⟨w1.heap.size + 1 + 1 + 1 + 1 + 1 + 1 + 1 + 1 + 1 + 1 + 1 + 1 + 1 + 1 + 1 + 1 + 1 + 1 + 1 + 1 + 1 + 1 + 1 + 1 + 1 + 1 + 1 + 1 + 1 + 1, 0, none⟩) 2 2, .slice (some ⟨w1.heap.size + 1 + 1 + 1 + 1 + 1 + 1 + 1 + 1 + 1 + 1 + 1 + 1 + 1 + 1 + 1 + 1 + 1 + 1 + 1 + 1 + 1 + 1 + 1 + 1 + 1 + 1 + 1 + 1 + 1 + 1 + 1, 0, none⟩) 2 2]) ∧ Below w.heap.size w W ∧ W.cell? ⟨w2.heap.size, 0, none⟩ = some (.slice (some ⟨w1.heap.size + 1 + 1 + 1 + 1 + 1 + 1 + 1 + 1 + 1 + 1 + 1 + 1 + 1 + 1 + 1 + 1 + 1 + 1 + 1 + 1 + 1 + 1 + 1 + 1 + 1 + 1 + 1, 0, none⟩) 1 1) ∧ W.cell? ⟨w2.heap.size, 1, none⟩ = some (.slice (some ⟨w1.heap.size + 1 + 1 + 1 + 1 + 1 + 1 + 1 + 1 + 1 + 1 + 1 + 1 + 1 + 1 + 1 + 1 + 1 + 1 + 1 + 1 + 1 + 1 + 1 + 1 + 1 + 1 + 1 + 1, 0, none⟩) 2 2) ∧ W.cell? ⟨w2.heap.size + 1, 0, none⟩ = some (.slice (some ⟨w1.heap.size + 1 + 1 + 1 + 1 + 1 + 1 + 1 + 1 + 1 + 1 + 1 + 1 + 1 + 1 + 1 + 1 + 1 + 1 + 1 + 1 + 1 + 1 + 1 + 1 + 1 + 1 + 1 + 1 + 1 + 1, 0, none⟩) 2 2) ∧ W.cell? ⟨w2.heap.size + 1, 1, none⟩ = some (.slice (some ⟨w1.heap.size + 1 + 1 + 1 + 1 + 1 + 1 + 1 + 1 + 1 + 1 + 1 + 1 + 1 + 1 + 1 + 1 + 1 + 1 + 1 + 1 + 1 + 1 + 1 + 1 + 1 + 1 + 1 + 1 + 1 + 1 + 1, 0, none⟩) 2 2)) := fun W hW => by
             obtain ⟨_, g1, g2, g3, _⟩ := HG.out W (HRow.out W (below_then hb2 (below_then bX1 (below_then bX2 hW))))
             have q1 := (hW.block _ (by omega)).trans ((bX2.block _ (by omega)).trans rX1)
             have q2 := (hW.block _ (by omega)).trans rX2
             rw [sX1] at q2
             exact ⟨g1, g2, g3, Lib.cell_of_heap q1 0, Lib.cell_of_heap q1 1, Lib.cell_of_heap q2 0, Lib.cell_of_heap q2 1⟩
           obtain ⟨_, _, _, k0, k1, k2, k3⟩ := HD.out X2 (Below.refl _ _)
           have Hbc : Hid (Below X2.heap.size X2 X2) := Below.refl _ _
           clear hb2 bX1 rX1 bX2 rX2 z0 z1 y0 y1 y2 y3 y4 y5 u0 u1 u2 u3)
        | (go_at_call 30; with_reducible refine (HS1.out _ (HD.out _ Hbc.out).2.2.1 _ _ (HD.out _ Hbc.out).1 (HD.out _ Hbc.out).2.1).mono ?_; rintro e wn ⟨rfl, hbn⟩; have Hbn := Lib.hid (below_then Hbc.out hbn); obtain ⟨_, _, _, m0, m1, m2, m3⟩ := HD.out _ Hbn.out; clear Hbc hbn; have Hbc := Hbn; clear Hbn)
        | (go_at_call 30; with_reducible refine (HS2.out _ (HD.out _ Hbc.out).2.2.1 _ _ (HD.out _ Hbc.out).2.1 (HD.out _ Hbc.out).1).mono ?_; rintro e wn ⟨rfl, hbn⟩; have Hbn := Lib.hid (below_then Hbc.out hbn); obtain ⟨_, _, _, m0, m1, m2, m3⟩ := HD.out _ Hbn.out; clear Hbc hbn; have Hbc := Hbn; clear Hbn)
        | (go_at_call 30; with_reducible refine (HS3.out _ (HD.out _ Hbc.out).2.2.1 _ _ (HD.out _ Hbc.out).1 (HD.out _ Hbc.out).1).mono ?_; rintro e wn ⟨rfl, hbn⟩; have Hbn := Lib.hid (below_then Hbc.out hbn); obtain ⟨_, _, _, m0, m1, m2, m3⟩ := HD.out _ Hbn.out; clear Hbc hbn; have Hbc := Hbn; clear Hbn))
      go_ret
      exact ⟨ret_bool (by first | rfl | simp), (HD.out _ Hbc.out).2.2.1⟩
set_option maxRecDepth 100000 in
set_option maxHeartbeats 8000000 in
theorem isoShares_walk (w : World) (hT : Tabs w) (s : ByteArray) (hs : s.size ≤ 1048576) (k : Int) (_ : (Lit.int .i64 k).wf = true) :
    Calls Tryd.prog 10 #[.string s, .int .i64 k] w fun e w' => e = .returned (.bool true) ∧ Below w.heap.size w w' := by
  by_cases hl : s.size ≤ 100
  · have hcs : k < 0 ∨ (¬ k < 0 ∧ 4 ≤ k) ∨ k = 0 ∨ k = 1 ∨ k = 2 ∨ k = 3 := by omega
    rcases hcs with hk | ⟨hk, hk2⟩ | rfl | rfl | rfl | rfl
    · exact isoShares_hk w hT s hl k hk
    · exact isoShares_hk2 w hT s hl k hk hk2
    · exact isoShares_c0 w hT s hl
    · exact isoShares_c1 w hT s hl
    · exact isoShares_c2 w hT s hl
    · exact isoShares_c3 w hT s hl
  · have HA : Hid (Calls Tryd.prog 29 #[] w fun e w' => e = .returned (.bool true) ∧ Below w.heap.size w w') := alive22_any w hT
    have hs' : (100 : Int) < (s.size : Int) := by omega
    have hm : s.size + 1 ≤ 9223372036854775807 := by omega
    clear hT hl
    go_enter Tryd.func10, Tryd.ntmps10
    go_wp2_with (go_at_call 29; refine HA.out.mono ?_; rintro e w1 ⟨rfl, hb1⟩; have Hb1 := Lib.hid hb1; clear hb1)
    go_ret
    exact ⟨by first | rfl | simp, (Hb1.out.alloc (Hb1.out.size) _).alloc (by simp only [World.size_alloc]; exact Nat.le_succ_of_le Hb1.out.size) _⟩
end Go.Proofs.YtdcbngimgpdjoaaDoor
