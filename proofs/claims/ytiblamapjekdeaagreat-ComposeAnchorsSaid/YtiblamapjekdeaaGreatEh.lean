/- The reference's Depth. Condition: a row of at most 100000 events. -/
import Derived.Test.YtiblamapjekdeaaGreatEp
import Derived.Test.YtiblamapjekdeaaGreatEvG
namespace Go.Proofs.YtiblamapjekdeaaGreat
open Go.RowKit
theorem topN_next' {L : List Ev} {k : Nat} (h : k < L.length) : topN L (k + 1) = max (topN L k) (levN L (k + 1)) := by
  rw [topN, levN, kinds_take h, Ev.top_snoc']; rfl
set_option maxRecDepth 100000 in
set_option maxHeartbeats 2000000 in
theorem RDepth_any (A : Option Addr) (c : Nat) (L : List Ev) (w : World) (hl : L.length ≤ 1500000) (hcap : L.length ≤ c) (hE : EvsAt w w.heap.size A L) :
    Calls Tryz.prog 12 #[.slice A L.length c] w fun e w' => e = .returned (.int .i64 (depthB L)) ∧ Below w.heap.size w w' := by
  have hR := RRight_any A c L w hl hcap hE
  go_enter Tryz.func12, Tryz.ntmps12
  cases hr : rightsB L with
  | false =>
    have hd : depthB L = 0 := by rw [depthB, hr]; rfl
    rw [hr] at hR
    go_wp2_with (go_at_call 20; refine hR.mono ?_; rintro e w1 ⟨rfl, hb1⟩)
    go_ret
    exact ⟨ret_int (by rw [hd]), hb1⟩
  | true =>
    have hd : depthB L = topN L L.length := by rw [depthB, hr]; rfl
    rw [hr] at hR
    go_wp2_with (go_at_call 20; refine hR.mono ?_; rintro e w1 ⟨rfl, hb1⟩)
    have hE1 := hE.below hb1 (Nat.le_refl _)
    have HB := Lib.hid hb1
    clear hE hR hb1
    go_loop [3, 4, 5] (fun n mo i => ∃ k : Nat, k ≤ L.length ∧ i = .int .i64 k ∧ n = .int .i64 (levN L k) ∧ mo = .int .i64 (topN L k)) (fun _ _ i => L.length - (intOf i).toNat)
    case atStart => exact ⟨0, Nat.zero_le _, rfl, rfl, rfl⟩
    case round =>
      obtain ⟨k, hk, rfl, rfl, rfl⟩ := hrel
      by_cases hlt : k < L.length
      · obtain ⟨b, off, rfl, hbw, hc⟩ := hE1 (by omega)
        have hck := (hc k hlt).c0
        have hlt' : (k : Int) < (L.length : Int) := by omega
        clear hc
        have hlb := levN_bound L k
        have hn := levN_next hlt
        have hdn : deepN L k = if Ev.opens (evs L k).kind then levN L k + 1 else levN L k := rfl
        have ht := topN_next' hlt
        obtain ⟨x, hx⟩ : ∃ x, (evs L k).kind = x := ⟨_, rfl⟩
        rw [hx] at hck hn hdn
        obtain ⟨lv, hlv⟩ : ∃ lv, levN L k = lv := ⟨_, rfl⟩
        obtain ⟨tp, htp⟩ : ∃ tp, topN L k = tp := ⟨_, rfl⟩
        rw [hlv] at hlb
        rw [htp] at ht
        have HD : Hid (depthB L = topN L L.length) := Lib.hid hd
        have hx3 : (x = 3 ∨ x = 5) ∨ (x = 4 ∨ x = 6) ∨ (¬ x = 3 ∧ ¬ x = 5 ∧ ¬ x = 4 ∧ ¬ x = 6) := by omega
        have hn' : levN L (k + 1) = if x = 3 ∨ x = 5 then lv + 1 else if x = 4 ∨ x = 6 then lv - 1 else lv := by
          rw [hn, hdn, hlv]
          simp only [Ev.opens, Ev.closes, Bool.or_eq_true, beq_iff_eq]
          rcases hx3 with h3 | h4 | ⟨e3, e5, e4, e6⟩
          · rw [if_neg (by omega), if_pos h3, if_pos h3]
          · rw [if_pos h4, if_neg (by omega), if_neg (by omega), if_pos h4]
          · rw [if_neg (by omega), if_neg (by omega), if_neg (by omega), if_neg (by omega)]
        rw [hlv, htp]
        clear hdn hn hx hd hr hlv htp
        rcases hx3 with (rfl | rfl) | (rfl | rfl) | ⟨e3, e5, e4, e6⟩
        · have e1 : levN L (k + 1) = lv + 1 := by rw [hn']; simp [*]
          have e2 := ht
          rw [e1] at e2
          have E1 := Lib.hid e1
          have E2 := Lib.hid e2
          clear e1 e2 hn' ht
          have hlt2 : tp < lv + 1 ∨ lv + 1 ≤ tp := by omega
          rcases hlt2 with hlt2 | hlt2
          all_goals
            go_wp2
            go_round
            case rel => exact ⟨k + 1, by omega, by go_num, by rw [E1.out], by rw [E2.out]; congr 1; omega⟩
            case measure => simp [intOf]; omega
        · have e1 : levN L (k + 1) = lv + 1 := by rw [hn']; simp [*]
          have e2 := ht
          rw [e1] at e2
          have E1 := Lib.hid e1
          have E2 := Lib.hid e2
          clear e1 e2 hn' ht
          have hlt2 : tp < lv + 1 ∨ lv + 1 ≤ tp := by omega
          rcases hlt2 with hlt2 | hlt2
          all_goals
            go_wp2
            go_round
            case rel => exact ⟨k + 1, by omega, by go_num, by rw [E1.out], by rw [E2.out]; congr 1; omega⟩
            case measure => simp [intOf]; omega
        · have e1 : levN L (k + 1) = lv - 1 := by rw [hn']; simp [*]
          have e2 := ht
          rw [e1] at e2
          have E1 := Lib.hid e1
          have E2 := Lib.hid e2
          clear e1 e2 hn' ht
          have hlt2 : tp < lv - 1 ∨ lv - 1 ≤ tp := by omega
          rcases hlt2 with hlt2 | hlt2
          all_goals
            go_wp2
            go_round
            case rel => exact ⟨k + 1, by omega, by go_num, by rw [E1.out], by rw [E2.out]; congr 1; omega⟩
            case measure => simp [intOf]; omega
        · have e1 : levN L (k + 1) = lv - 1 := by rw [hn']; simp [*]
          have e2 := ht
          rw [e1] at e2
          have E1 := Lib.hid e1
          have E2 := Lib.hid e2
          clear e1 e2 hn' ht
          have hlt2 : tp < lv - 1 ∨ lv - 1 ≤ tp := by omega
          rcases hlt2 with hlt2 | hlt2
          all_goals
            go_wp2
            go_round
            case rel => exact ⟨k + 1, by omega, by go_num, by rw [E1.out], by rw [E2.out]; congr 1; omega⟩
            case measure => simp [intOf]; omega
        · have b3 : (x == 3) = false := beq_eq_false_iff_ne.2 e3
          have b5 : (x == 5) = false := beq_eq_false_iff_ne.2 e5
          have b4 : (x == 4) = false := beq_eq_false_iff_ne.2 e4
          have b6 : (x == 6) = false := beq_eq_false_iff_ne.2 e6
          have e1 : levN L (k + 1) = lv := by rw [hn']; simp [*]
          have e2 := ht
          rw [e1] at e2
          have E1 := Lib.hid e1
          have E2 := Lib.hid e2
          clear e1 e2 hn' ht
          have hlt2 : tp < lv ∨ lv ≤ tp := by omega
          rcases hlt2 with hlt2 | hlt2
          all_goals
            go_wp2
            go_round
            case rel => exact ⟨k + 1, by omega, by go_num, by rw [E1.out], by rw [E2.out]; congr 1; omega⟩
            case measure => simp [intOf]; omega
      · go_wp2
        go_ret
        obtain rfl : k = L.length := by omega
        exact ⟨ret_int rfl, HB.out⟩
end Go.Proofs.YtiblamapjekdeaaGreat
