/- Walks over events: Big, Nodes. Condition: a row is no longer than an int. -/
import Derived.Test.YtiblamapjekdeaaGreatEvO
namespace Go.Proofs.YtiblamapjekdeaaGreat
open Go.RowKit
def big1 (e : Ev) : Bool := decide (500 < e.text.size) || decide (300 < e.tag.size) || decide (300 < e.anchor.size)
def bigB (L : List Ev) : Bool := L.any big1 || decide (300 < L.length)
theorem any_take {L : List Ev} {p : Ev → Bool} {k : Nat} (h : k < L.length) : (L.take (k + 1)).any p = ((L.take k).any p || p (evs L k)) := by
  rw [evs_eq h, List.take_succ_eq_append_getElem h, List.any_append]; simp
theorem any_split {L : List Ev} {p : Ev → Bool} {k : Nat} (h : k < L.length) (hp : p (evs L k) = true) : L.any p = true :=
  List.any_eq_true.2 ⟨_, evs_mem h, hp⟩
set_option maxHeartbeats 1000000 in
theorem Big_any (A : Option Addr) (c : Nat) (L : List Ev) (w : World) (hl : L.length ≤ 9223372036854775807) (hE : EvsAt w w.heap.size A L) (hok : ∀ x ∈ L, Ev.ok x) :
    Calls Tryz.prog 7 #[.slice A L.length c] w fun e w' => e = .returned (.bool (bigB L)) ∧ w = w' := by
  go_enter Tryz.func7, Tryz.ntmps7
  go_wp2
  go_loop [3] (fun i => ∃ k : Nat, k ≤ L.length ∧ i = .int .i64 k ∧ Hid ((L.take k).any big1 = false)) (fun i => L.length - (intOf i).toNat)
  case atStart => exact ⟨0, Nat.zero_le _, rfl, rfl⟩
  case round =>
    obtain ⟨k, hk, rfl, hm⟩ := hrel
    by_cases hlt : k < L.length
    · obtain ⟨b, off, rfl, hbw, hc⟩ := hE (by omega)
      obtain ⟨c0, c1, c2, c3, c4, c5⟩ := hc k hlt
      have hlt' : (k : Int) < (L.length : Int) := by omega
      have hk1 := hok _ (evs_mem hlt)
      have t1 : (L.take (k + 1)).any big1 = _ := any_take hlt
      have t2 : big1 (evs L k) = true → bigB L = true := fun h => by rw [bigB, any_split hlt h]; rfl
      generalize evs L k = x at *
      obtain ⟨kd, tx, tg, an, st, fl⟩ := x
      clear hc
      have := hk1.text; have := hk1.tag; have := hk1.anchor
      go_wp2
      all_goals first
        | (go_ret
           exact ⟨ret_bool (t2 (by simp [big1]; omega)).symm, rfl⟩)
        | (go_round
           case rel => exact ⟨k + 1, by omega, by go_num, t1.trans (by rw [hm.out]; simp [big1]; omega)⟩
           case measure => simp [intOf]; omega)
    · go_wp2
      go_ret
      have hm' := hm.out
      rw [List.take_of_length_le (by omega)] at hm'
      exact ⟨ret_bool (by rw [bigB, hm', Bool.false_or, Bool.eq_iff_iff]; simp; omega), rfl⟩
def nodeB (k : Int) : Bool := k == 7 || k == 3 || k == 5
def nodesN (L : List Ev) : Nat := L.countP fun x => nodeB x.kind
theorem nodes_take {L : List Ev} {k : Nat} (h : k < L.length) : nodesN (L.take (k + 1)) = nodesN (L.take k) + (if nodeB (evs L k).kind then 1 else 0) := by
  rw [evs_eq h, List.take_succ_eq_append_getElem h, nodesN, nodesN, List.countP_append, List.countP_cons, List.countP_nil, Nat.zero_add]
theorem nodes_le (L : List Ev) : nodesN L ≤ L.length := List.countP_le_length
theorem opens_any (k : Int) (w : World) : Calls Tryz.prog 58 #[.int .i64 k] w fun e w' => e = .returned (.bool (k == 3 || k == 5)) ∧ w = w' := by
  go_enter Tryz.func58, Tryz.ntmps58
  go_wp2
  all_goals (go_ret; exact ⟨ret_bool (by simp_all), rfl⟩)
set_option maxHeartbeats 1000000 in
theorem RNodes_any (A : Option Addr) (c : Nat) (L : List Ev) (w : World) (hl : L.length ≤ 9223372036854775807) (hE : EvsAt w w.heap.size A L) :
    Calls Tryz.prog 13 #[.slice A L.length c] w fun e w' => e = .returned (.int .i64 (nodesN L)) ∧ w = w' := by
  go_enter Tryz.func13, Tryz.ntmps13
  go_wp2
  go_loop [3, 4] (fun n i => ∃ k : Nat, k ≤ L.length ∧ i = .int .i64 k ∧ ∃ m : Nat, n = .int .i64 m ∧ Hid (m = nodesN (L.take k))) (fun _ i => L.length - (intOf i).toNat)
  case atStart => exact ⟨0, Nat.zero_le _, rfl, 0, rfl, rfl⟩
  case round =>
    obtain ⟨k, hk, rfl, m, rfl, hm⟩ := hrel
    by_cases hlt : k < L.length
    · obtain ⟨b, off, rfl, hbw, hc⟩ := hE (by omega)
      have c0 := (hc k hlt).c0
      have hlt' : (k : Int) < (L.length : Int) := by omega
      have t1 := nodes_take hlt
      have tT : nodeB (evs L k).kind = true → m + 1 = nodesN (L.take (k + 1)) := fun h => by rw [t1, if_pos h, hm.out]
      have tF : nodeB (evs L k).kind = false → m = nodesN (L.take (k + 1)) := fun h => by rw [t1, h, hm.out]; rfl
      have hmk : m ≤ k := by rw [hm.out]; exact Nat.le_trans (nodes_le _) (by simp; omega)
      generalize (evs L k).kind = x at *
      clear hc
      go_wp2
      all_goals
        go_round
        case rel => first | exact ⟨k + 1, by omega, by go_num, m + 1, by go_num, tT (by simp only [nodeB, beq_iff_eq, Bool.or_eq_true] at *; omega)⟩ | exact ⟨k + 1, by omega, by go_num, m, rfl, tF (by simp only [nodeB, beq_iff_eq, Bool.or_eq_true, Bool.or_eq_false_iff, beq_eq_false_iff_ne] at *; omega)⟩
        case measure => simp [intOf]; omega
    · go_wp2
      go_ret
      have hm' := hm.out
      rw [List.take_of_length_le (by omega)] at hm'
      exact ⟨ret_int (by rw [hm']), rfl⟩
end Go.Proofs.YtiblamapjekdeaaGreat
