/- The stack of what is open, as a row of the call's own; the program's scan as the walk takes it. No condition. -/
import Derived.Test.YtmlghkkbkgfjmaaEv0
import Derived.Test.YtmlghkkbkgfjmaaEvO
import Derived.OneCell
namespace Go.Proofs.Ytmlghkkbkgfjmaa
open Go.RowKit
/-- The stack's cells: the outermost first. -/
def flat2 : List (Int × Nat) → List Value
  | [] => []
  | p :: r => flat2 r ++ [.int .i64 p.1, .int .i64 p.2]
theorem flat2_length : ∀ l : List (Int × Nat), (flat2 l).length = l.length * 2
  | [] => rfl
  | p :: r => by simp [flat2, flat2_length r]; omega
theorem flat2_top0 (p : Int × Nat) (r : List (Int × Nat)) : (flat2 (p :: r))[r.length * 2]? = some (.int .i64 p.1) := by
  rw [← flat2_length r]; simp [flat2]
theorem flat2_top1 (p : Int × Nat) (r : List (Int × Nat)) : (flat2 (p :: r))[r.length * 2 + 1]? = some (.int .i64 p.2) := by
  rw [← flat2_length r]; simp [flat2]
theorem flat2_pop {w : World} {B : Nat} {e : TypeId} {g cap : Nat} {p : Int × Nat} {r : List (Int × Nat)} (h : w.ownsRow B e 2 (.slice (some ⟨g, 0, none⟩) (r.length + 1) cap) (r.length + 1) (flat2 (p :: r))) :
    w.ownsRow B e 2 (.slice (some ⟨g, 0, none⟩) r.length cap) r.length (flat2 r) := ownsRow_pop (flat2_length r) h
theorem flat2_bump {w : World} {B : Nat} {e : TypeId} {g cap : Nat} {p : Int × Nat} {r : List (Int × Nat)} (h : w.ownsRow B e 2 (.slice (some ⟨g, 0, none⟩) (r.length + 1) cap) (r.length + 1) (flat2 (p :: r))) :
    (w.setCell ⟨g, r.length * 2 + 1, none⟩ (.int .i64 ((p.2 : Int) + 1))).ownsRow B e 2 (.slice (some ⟨g, 0, none⟩) (r.length + 1) cap) (r.length + 1) (flat2 ((p.1, p.2 + 1) :: r)) := by
  have h2 := (h.stored (r.length * 2 + 1) (.int .i64 ((p.2 : Int) + 1))).1
  have e : (flat2 (p :: r)).set (r.length * 2 + 1) (.int .i64 ((p.2 : Int) + 1)) = flat2 ((p.1, p.2 + 1) :: r) := by
    rw [← flat2_length r]
    simp [flat2]
  rwa [e] at h2
def kinds (L : List Ev) : List Int := L.map Ev.kind
theorem kinds_drop {L : List Ev} {k : Nat} (h : k < L.length) : (kinds L).drop k = (evs L k).kind :: (kinds L).drop (k + 1) := by
  rw [evs_eq h, kinds, List.drop_eq_getElem_cons (by simpa using h)]; simp
theorem kinds_end {L : List Ev} {k : Nat} (h : L.length ≤ k) : (kinds L).drop k = [] := List.drop_eq_nil_of_le (by simpa [kinds] using h)
/-- The scan from a place on, told from the node's beginning. -/
def scanS (L : List Ev) (i k : Nat) (st : List (Int × Nat)) : Option Nat := (Ev.scan1 ((kinds L).drop k) st).map (· + (k - i))
theorem scanS_opens {L : List Ev} {i k : Nat} {st : List (Int × Nat)} (h : k < L.length) (hi : i ≤ k) (ho : (evs L k).kind = 3 ∨ (evs L k).kind = 5) : scanS L i k st = scanS L i (k + 1) (((evs L k).kind, 0) :: st) := by
  have ho' : Ev.opens (evs L k).kind = true := by rcases ho with e | e <;> rw [e] <;> rfl
  rw [scanS, kinds_drop h, Ev.scan1.eq_def]
  simp only [if_pos ho', scanS, Option.map_map]
  congr 1; funext m; simp only [Function.comp]; omega
theorem scanS_leaf {L : List Ev} {i k : Nat} {st : List (Int × Nat)} (h : k < L.length) (hi : i ≤ k) (ho : (evs L k).kind = 7 ∨ (evs L k).kind = 8) : scanS L i k st = scanS L i (k + 1) (Ev.bump st) := by
  have ho' : ¬ Ev.opens (evs L k).kind = true := by rcases ho with e | e <;> rw [e] <;> decide
  have hl : Ev.leaf (evs L k).kind = true := by rcases ho with e | e <;> rw [e] <;> rfl
  rw [scanS, kinds_drop h, Ev.scan1.eq_def]
  simp only [if_neg ho', if_pos hl, scanS, Option.map_map]
  congr 1; funext m; simp only [Function.comp]; omega
theorem scanS_else {L : List Ev} {i k : Nat} {q : Int × Nat} {st : List (Int × Nat)} (h : k < L.length) (hi : i ≤ k) (h3 : ¬ (evs L k).kind = 3) (h5 : ¬ (evs L k).kind = 5) (h7 : ¬ (evs L k).kind = 7) (h8 : ¬ (evs L k).kind = 8) :
    scanS L i k (q :: st) = if (evs L k).kind = q.1 + 1 ∧ (q.1 = 3 ∨ q.2 % 2 = 0) then (match st with | [] => some (k + 1 - i) | p :: s => scanS L i (k + 1) (Ev.bump (p :: s))) else none := by
  have ho' : ¬ Ev.opens (evs L k).kind = true := by simp [Ev.opens, h3, h5]
  have hl : ¬ Ev.leaf (evs L k).kind = true := by simp [Ev.leaf, h7, h8]
  rw [scanS, kinds_drop h, Ev.scan1.eq_def]
  simp only [if_neg ho', if_neg hl]
  by_cases hc : (evs L k).kind = q.1 + 1 ∧ (q.1 = 3 ∨ q.2 % 2 = 0)
  · rw [if_pos hc, if_pos hc]
    cases st with
    | nil => simp only [Option.map_some, Option.some.injEq]; omega
    | cons p s =>
      simp only [scanS, Option.map_map]
      congr 1; funext m; simp only [Function.comp]; omega
  · rw [if_neg hc, if_neg hc]; rfl
theorem scanS_end {L : List Ev} {i k : Nat} {st : List (Int × Nat)} (h : L.length ≤ k) : scanS L i k st = none := by rw [scanS, kinds_end h, Ev.scan1]; rfl
/-- The place behind a node that begins at i; i itself: none does. -/
def endI (L : List Ev) (i : Int) : Int :=
  if i < 0 ∨ (L.length : Int) ≤ i then i else match Ev.node1 ((kinds L).drop i.toNat) with
    | some m => i + m
    | none => i
theorem endI_scan {L : List Ev} {i : Nat} (h : i < L.length) (ho : (evs L i).kind = 3 ∨ (evs L i).kind = 5) : endI L i = (match scanS L i i [] with | some m => (i : Int) + m | none => i) := by
  have ho' : Ev.opens (evs L i).kind = true := by rcases ho with e | e <;> rw [e] <;> rfl
  have hl : ¬ Ev.leaf (evs L i).kind = true := by rcases ho with e | e <;> rw [e] <;> decide
  have e : Ev.node1 ((kinds L).drop i) = scanS L i i [] := by
    have e2 : ∀ r, Ev.scan1 ((evs L i).kind :: r) [] = (Ev.scan1 r [((evs L i).kind, 0)]).map (· + 1) := fun r => by
      rw [Ev.scan1.eq_def]; simp only [if_pos ho']
    rw [scanS, kinds_drop h, Ev.node1, if_neg hl, if_pos ho', e2, Nat.sub_self]
    simp
    rfl
  rw [endI, if_neg (by omega), Int.toNat_natCast, e]
theorem endI_leaf {L : List Ev} {i : Nat} (h : i < L.length) (ho : (evs L i).kind = 7 ∨ (evs L i).kind = 8) : endI L i = (i : Int) + 1 := by
  have hl : Ev.leaf (evs L i).kind = true := by rcases ho with e | e <;> rw [e] <;> rfl
  rw [endI, if_neg (by omega), Int.toNat_natCast, kinds_drop h, Ev.node1, if_pos hl]; rfl
theorem endI_none {L : List Ev} {i : Nat} (h : i < L.length) (h3 : ¬ (evs L i).kind = 3) (h5 : ¬ (evs L i).kind = 5) (h7 : ¬ (evs L i).kind = 7) (h8 : ¬ (evs L i).kind = 8) : endI L i = i := by
  have ho' : ¬ Ev.opens (evs L i).kind = true := by simp [Ev.opens, h3, h5]
  have hl : ¬ Ev.leaf (evs L i).kind = true := by simp [Ev.leaf, h7, h8]
  rw [endI, if_neg (by omega), Int.toNat_natCast, kinds_drop h, Ev.node1, if_neg hl, if_neg ho']
/-- What the program's loop knows at a place. -/
structure EndInv (L : List Ev) (n k : Nat) (st : List (Int × Nat)) : Prop where
  first : st = [] → k = n
  good : Ev.Good st
  small : ∀ p ∈ st, p.2 ≤ k
  res : scanS L n n [] = scanS L n k st
theorem EndInv.start {L : List Ev} {n : Nat} : EndInv L n n [] := ⟨fun _ => rfl, fun _ h => (by cases h), fun _ h => (by cases h), rfl⟩
theorem EndInv.opens {L : List Ev} {n k : Nat} {st : List (Int × Nat)} (h : EndInv L n k st) (hk : k < L.length) (hn : n ≤ k) (ho : (evs L k).kind = 3 ∨ (evs L k).kind = 5) : EndInv L n (k + 1) (((evs L k).kind, 0) :: st) :=
  ⟨(fun e => by cases e), fun p hp => (by rcases List.mem_cons.1 hp with rfl | hp; exact ho; exact h.good p hp),
    fun p hp => (by rcases List.mem_cons.1 hp with rfl | hp; exact Nat.zero_le _; exact Nat.le_succ_of_le (h.small p hp)), h.res.trans (scanS_opens hk hn ho)⟩
theorem small_bump {k : Nat} {q : Int × Nat} {st : List (Int × Nat)} (h : ∀ p ∈ q :: st, p.2 ≤ k) : ∀ p ∈ (q.1, q.2 + 1) :: st, p.2 ≤ k + 1 := fun p hp => by
  rcases List.mem_cons.1 hp with rfl | hp
  · exact Nat.succ_le_succ (h q (by simp))
  · exact Nat.le_succ_of_le (h p (by simp [hp]))
theorem EndInv.leaf {L : List Ev} {n k : Nat} {q : Int × Nat} {st : List (Int × Nat)} (h : EndInv L n k (q :: st)) (hk : k < L.length) (hn : n ≤ k) (ho : (evs L k).kind = 7 ∨ (evs L k).kind = 8) : EndInv L n (k + 1) ((q.1, q.2 + 1) :: st) :=
  ⟨(fun e => by cases e), Ev.Good.bump h.good, small_bump h.small, h.res.trans (scanS_leaf hk hn ho)⟩
theorem EndInv.close {L : List Ev} {n k : Nat} {q p : Int × Nat} {st : List (Int × Nat)} (h : EndInv L n k (q :: p :: st)) (hk : k < L.length) (hn : n ≤ k) (h3 : ¬ (evs L k).kind = 3) (h5 : ¬ (evs L k).kind = 5) (h7 : ¬ (evs L k).kind = 7) (h8 : ¬ (evs L k).kind = 8)
    (hc : (evs L k).kind = q.1 + 1 ∧ (q.1 = 3 ∨ q.2 % 2 = 0)) : EndInv L n (k + 1) ((p.1, p.2 + 1) :: st) :=
  ⟨(fun e => by cases e), Ev.Good.bump (st := p :: st) (fun r hr => h.good r (List.mem_cons_of_mem _ hr)), small_bump (fun r hr => h.small r (List.mem_cons_of_mem _ hr)), h.res.trans ((scanS_else hk hn h3 h5 h7 h8).trans (if_pos hc))⟩
theorem EndInv.last {L : List Ev} {n k : Nat} {q : Int × Nat} (h : EndInv L n k [q]) (hk : k < L.length) (hn : n ≤ k) (h3 : ¬ (evs L k).kind = 3) (h5 : ¬ (evs L k).kind = 5) (h7 : ¬ (evs L k).kind = 7) (h8 : ¬ (evs L k).kind = 8)
    (hc : (evs L k).kind = q.1 + 1 ∧ (q.1 = 3 ∨ q.2 % 2 = 0)) (hs : endI L n = (match scanS L n n [] with | some m => (n : Int) + m | none => n)) : endI L n = (k : Int) + 1 := by
  rw [hs, h.res, scanS_else hk hn h3 h5 h7 h8, if_pos hc]
  show (n : Int) + ((k + 1 - n : Nat) : Int) = _
  omega
theorem EndInv.stop {L : List Ev} {n k : Nat} {q : Int × Nat} {st : List (Int × Nat)} (h : EndInv L n k (q :: st)) (hk : k < L.length) (hn : n ≤ k) (h3 : ¬ (evs L k).kind = 3) (h5 : ¬ (evs L k).kind = 5) (h7 : ¬ (evs L k).kind = 7) (h8 : ¬ (evs L k).kind = 8)
    (hc : ¬ ((evs L k).kind = q.1 + 1 ∧ (q.1 = 3 ∨ q.2 % 2 = 0))) (hs : endI L n = (match scanS L n n [] with | some m => (n : Int) + m | none => n)) : endI L n = n := by
  rw [hs, h.res, scanS_else hk hn h3 h5 h7 h8, if_neg hc]
theorem EndInv.over {L : List Ev} {n k : Nat} {st : List (Int × Nat)} (h : EndInv L n k st) (hk : L.length ≤ k) (hs : endI L n = (match scanS L n n [] with | some m => (n : Int) + m | none => n)) : endI L n = n := by
  rw [hs, h.res, scanS_end hk]
end Go.Proofs.Ytmlghkkbkgfjmaa
