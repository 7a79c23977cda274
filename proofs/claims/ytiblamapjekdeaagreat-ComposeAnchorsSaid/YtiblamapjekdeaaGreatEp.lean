/- How deep each event stands: plain Lean. No condition. -/
import Derived.Test.YtiblamapjekdeaaGreatEvR
namespace Go.Proofs.YtiblamapjekdeaaGreat
def levN (L : List Ev) (i : Nat) : Int := Ev.lev 0 ((kinds L).take i)
def topN (L : List Ev) (i : Nat) : Int := Ev.top 0 ((kinds L).take i)
/-- How deep an event stands (one that begins or ends a collection stands in it). -/
def deepN (L : List Ev) (i : Nat) : Int := if Ev.opens (evs L i).kind then levN L i + 1 else levN L i
theorem kinds_take {L : List Ev} {k : Nat} (h : k < L.length) : (kinds L).take (k + 1) = (kinds L).take k ++ [(evs L k).kind] := by
  rw [evs_eq h, kinds, List.take_succ_eq_append_getElem (by simpa using h)]; simp
theorem topN_next {L : List Ev} {k : Nat} (h : k < L.length) : topN L (k + 1) = max (topN L k) (deepN L k) := by
  rw [topN, kinds_take h, Ev.top_snoc]; rfl
theorem levN_next {L : List Ev} {k : Nat} (h : k < L.length) : levN L (k + 1) = if Ev.closes (evs L k).kind then deepN L k - 1 else deepN L k := by
  rw [levN, kinds_take h, Ev.lev_append]
  simp only [Ev.lev, Ev.step, deepN, levN]
  by_cases ho : Ev.opens (evs L k).kind = true
  · have hc : ¬ Ev.closes (evs L k).kind = true := by
      simp only [Ev.opens, Ev.closes, Bool.or_eq_true, beq_iff_eq] at ho ⊢; omega
    rw [if_pos ho, if_neg hc, if_pos ho]
  · rw [if_neg ho, if_neg ho]
theorem lev_bound (l : List Int) : ∀ d, d - l.length ≤ Ev.lev d l ∧ Ev.lev d l ≤ d + l.length := by
  induction l with
  | nil => intro d; simp [Ev.lev]
  | cons x l ih =>
    intro d
    have h := ih (Ev.step d x)
    have hs : d - 1 ≤ Ev.step d x ∧ Ev.step d x ≤ d + 1 := by unfold Ev.step; split; omega; split <;> omega
    simp only [Ev.lev, List.length_cons]
    omega
theorem top_bound (l : List Int) : ∀ d, d ≤ Ev.top d l ∧ Ev.top d l ≤ d + l.length := by
  induction l with
  | nil => intro d; simp [Ev.top]
  | cons x l ih =>
    intro d
    have h := ih (Ev.step d x)
    have hs : Ev.step d x ≤ d + 1 := by unfold Ev.step; split; omega; split <;> omega
    simp only [Ev.top, List.length_cons]
    omega
theorem levN_bound (L : List Ev) (k : Nat) : -(L.length : Int) ≤ levN L k ∧ levN L k ≤ L.length := by
  have h := lev_bound ((kinds L).take k) 0
  have hl : ((kinds L).take k).length ≤ L.length := by simp [kinds]; omega
  rw [levN]; omega
theorem topN_bound (L : List Ev) (k : Nat) : 0 ≤ topN L k ∧ topN L k ≤ L.length := by
  have h := top_bound ((kinds L).take k) 0
  have hl : ((kinds L).take k).length ≤ L.length := by simp [kinds]; omega
  rw [topN]; omega
theorem deepN_bound (L : List Ev) (k : Nat) : -(L.length : Int) ≤ deepN L k ∧ deepN L k ≤ L.length + 1 := by
  have h := levN_bound L k
  rw [deepN]; split <;> omega
def depthB (L : List Ev) : Int := if rightsB L then topN L L.length else 0
end Go.Proofs.YtiblamapjekdeaaGreat
