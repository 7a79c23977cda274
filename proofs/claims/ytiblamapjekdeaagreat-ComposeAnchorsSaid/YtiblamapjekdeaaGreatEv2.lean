/- What an event is to have, by its kind: the program's bare, the reference's right. No condition. -/
import Derived.Test.YtiblamapjekdeaaGreatEvO
import Derived.RegionTactic
import Derived.ChangeAlike
import Derived.BigRegion
namespace Go.Proofs.YtiblamapjekdeaaGreat
open Go.RowKit
def emp (s : ByteArray) : Bool := s.toList.isEmpty
def rightB (e : Ev) : Bool :=
  if e.kind = 1 ∨ e.kind = 2 then emp e.text && emp e.tag && emp e.anchor && e.style == 0
  else if e.kind = 3 ∨ e.kind = 5 then emp e.text && e.style == 0
  else if e.kind = 4 ∨ e.kind = 6 then emp e.text && emp e.tag && emp e.anchor && e.style == 0 && !e.flag
  else if e.kind = 7 then !e.flag && decide (1 ≤ e.style) && decide (e.style ≤ 5)
  else if e.kind = 8 then emp e.text && emp e.tag && !(emp e.anchor) && e.style == 0 && !e.flag
  else false
/-- The reference's: an event of no kind at all passes where it has nothing. -/
def rightR (e : Ev) : Bool := if 1 ≤ e.kind ∧ e.kind ≤ 8 then rightB e else emp e.text && emp e.tag && emp e.anchor && e.style == 0 && !e.flag
theorem rightR_eq {e : Ev} (h : 1 ≤ e.kind ∧ e.kind ≤ 8) : rightR e = rightB e := if_pos h
theorem rightB_kind {e : Ev} (h : rightB e = true) : 1 ≤ e.kind ∧ e.kind ≤ 8 := by
  refine Decidable.byContradiction fun hn => ?_
  have : ¬ e.kind = 1 ∧ ¬ e.kind = 2 ∧ ¬ e.kind = 3 ∧ ¬ e.kind = 4 ∧ ¬ e.kind = 5 ∧ ¬ e.kind = 6 ∧ ¬ e.kind = 7 ∧ ¬ e.kind = 8 := by omega
  simp [rightB, this] at h
set_option maxHeartbeats 1000000 in
theorem bare_any (e : Ev) (w : World) : Calls Tryz.prog 32 #[.agg e.row] w fun r w' => r = .returned (.bool (rightB e)) ∧ Below w.heap.size w w' := by
  obtain ⟨kd, tx, tg, an, st, fl⟩ := e
  simp only [Ev.row]
  go_enter Tryz.func32, Tryz.ntmps32
  have hk : kd = 1 ∨ kd = 2 ∨ kd = 3 ∨ kd = 5 ∨ kd = 4 ∨ kd = 6 ∨ kd = 7 ∨ kd = 8 ∨ (¬ kd = 1 ∧ ¬ kd = 2 ∧ ¬ kd = 3 ∧ ¬ kd = 4 ∧ ¬ kd = 5 ∧ ¬ kd = 6 ∧ ¬ kd = 7 ∧ ¬ kd = 8) := by omega
  rcases hk with rfl | rfl | rfl | rfl | rfl | rfl | rfl | rfl | ⟨k1, k2, k3, k4, k5, k6, k7, k8⟩
  · go_wp2
    all_goals (go_ret; exact ⟨ret_bool (by simp_all [rightB, emp]), by first | exact (((Below.refl _ _).alloc (Nat.le_refl _) _).alloc (by simp) _) | exact (((Below.refl _ _).alloc (Nat.le_refl _) _).alloc (by simp) _).drew⟩)
  · go_wp2
    all_goals (go_ret; exact ⟨ret_bool (by simp_all [rightB, emp]), by first | exact (((Below.refl _ _).alloc (Nat.le_refl _) _).alloc (by simp) _) | exact (((Below.refl _ _).alloc (Nat.le_refl _) _).alloc (by simp) _).drew⟩)
  · go_wp2
    go_region
    all_goals go_wp2
    all_goals (go_ret; exact ⟨ret_bool (by simp_all [rightB, emp]), by first | exact (((Below.refl _ _).alloc (Nat.le_refl _) _).alloc (by simp) _) | exact (((Below.refl _ _).alloc (Nat.le_refl _) _).alloc (by simp) _).drew⟩)
  · go_wp2
    go_region
    all_goals go_wp2
    all_goals (go_ret; exact ⟨ret_bool (by simp_all [rightB, emp]), by first | exact (((Below.refl _ _).alloc (Nat.le_refl _) _).alloc (by simp) _) | exact (((Below.refl _ _).alloc (Nat.le_refl _) _).alloc (by simp) _).drew⟩)
  · go_wp2
    all_goals (go_ret; exact ⟨ret_bool (by simp_all [rightB, emp]), by first | exact (((Below.refl _ _).alloc (Nat.le_refl _) _).alloc (by simp) _) | exact (((Below.refl _ _).alloc (Nat.le_refl _) _).alloc (by simp) _).drew⟩)
  · go_wp2
    all_goals (go_ret; exact ⟨ret_bool (by simp_all [rightB, emp]), by first | exact (((Below.refl _ _).alloc (Nat.le_refl _) _).alloc (by simp) _) | exact (((Below.refl _ _).alloc (Nat.le_refl _) _).alloc (by simp) _).drew⟩)
  · go_wp2
    go_region
    all_goals go_wp2
    all_goals (go_ret; exact ⟨ret_bool (by simp_all [rightB] <;> omega), by first | exact (((Below.refl _ _).alloc (Nat.le_refl _) _).alloc (by simp) _) | exact (((Below.refl _ _).alloc (Nat.le_refl _) _).alloc (by simp) _).drew⟩)
  · go_wp2
    all_goals (go_ret; exact ⟨ret_bool (by simp_all [rightB, emp]), by first | exact (((Below.refl _ _).alloc (Nat.le_refl _) _).alloc (by simp) _) | exact (((Below.refl _ _).alloc (Nat.le_refl _) _).alloc (by simp) _).drew⟩)
  · go_wp2
    all_goals (go_ret; exact ⟨ret_bool (by simp_all [rightB]), by first | exact (((Below.refl _ _).alloc (Nat.le_refl _) _).alloc (by simp) _) | exact (((Below.refl _ _).alloc (Nat.le_refl _) _).alloc (by simp) _).drew⟩)
set_option maxHeartbeats 2000000 in
theorem right_any (e : Ev) (w : World) : Calls Tryz.prog 38 #[.agg e.row] w fun r w' => r = .returned (.bool (rightR e)) ∧ Below w.heap.size w w' := by
  obtain ⟨kd, tx, tg, an, st, fl⟩ := e
  simp only [Ev.row]
  go_enter Tryz.func38, Tryz.ntmps38
  have hk : kd = 1 ∨ kd = 2 ∨ kd = 3 ∨ kd = 5 ∨ kd = 4 ∨ kd = 6 ∨ kd = 7 ∨ kd = 8 ∨ (¬ kd = 1 ∧ ¬ kd = 2 ∧ ¬ kd = 3 ∧ ¬ kd = 4 ∧ ¬ kd = 5 ∧ ¬ kd = 6 ∧ ¬ kd = 7 ∧ ¬ kd = 8) := by omega
  rcases hk with rfl | rfl | rfl | rfl | rfl | rfl | rfl | rfl | ⟨k1, k2, k3, k4, k5, k6, k7, k8⟩
  iterate 8
    · go_wp2
      all_goals (go_ret; refine ⟨ret_bool ?_, ((Below.refl _ _).alloc (Nat.le_refl _) _)⟩)
      all_goals first | (simp_all [rightR, rightB, emp]; done) | (simp_all [rightR, rightB] <;> omega)
  · have hR : ¬ (1 ≤ kd ∧ kd ≤ 8) := by omega
    go_wp2
    all_goals (go_ret; refine ⟨ret_bool ?_, ((Below.refl _ _).alloc (Nat.le_refl _) _)⟩)
    all_goals (rw [rightR, if_neg hR]; clear hR; simp_all [emp])
end Go.Proofs.YtiblamapjekdeaaGreat
