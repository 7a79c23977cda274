/- The places at which a text may end, one by one, handed to any body. Condition: a list is no longer than an int. -/
import Derived.Test.YtnofdlpifpjlbaaDoorPlain
import Derived.Test.YtnofdlpifpjlbaaDoorRange
import Derived.BigGuardIn
namespace Go.Proofs.YtnofdlpifpjlbaaDoor
open Go.RowKit Go.Shelf
attribute [local go_sem] Oper.semAt_some
/-- May a text end at a place? -/
def pointB (l : List Int) (flow : Bool) (i : Nat) : Bool := nth l i == 58 || nth l i == 35 || (flow && flowB (nth l i))
theorem hit_point {l : List Int} {flow : Bool} {i : Nat} (h : pointB l flow i = false) : hit l flow i = false := by
  simp only [pointB, Bool.or_eq_false_iff] at h
  simp [hit, h.1.1, h.1.2, h.2]
theorem points_any (A : Option Addr) (n c : Nat) (flow : Bool) (w : World) : Calls Tryd.prog 58 #[.slice A n c, .bool flow] w fun e w' =>
    e = .returned (.func (.func 63) #[] #[.pointer (some ⟨w.heap.size, 0, none⟩), .pointer (some ⟨w.heap.size + 1, 0, none⟩)]) ∧ (w.alloc (.cells #[.slice A n c] 23)).alloc (.cells #[.bool flow] 4) = w' := by
  go_enter Tryd.func58, Tryd.ntmps58
  go_wp2
  go_ret
  exact ⟨rfl, rfl⟩
theorem undef_no {b : Bool} (h : some undef = some (Value.bool b)) : False := by cases h
set_option maxRecDepth 100000 in
set_option maxHeartbeats 2000000 in
theorem pointsIter (A : Option Addr) (c : Nat) (l : List Int) (flow : Bool) (lp B1 B2 : Nat) (V W : World) (hl : l.length ≤ 9223372036854775807) (hV : Below V.heap.size V W)
    (hb1 : V.cell? ⟨B1, 0, none⟩ = some (.slice A l.length c)) (hb2 : V.cell? ⟨B2, 0, none⟩ = some (.bool flow)) (hI : IntsAt V V.heap.size A l)
    (Bk : World → Prop) (Bx : Code → World → Prop) (keep : ∀ A B, KeepsOthers A B → Bk A → Bk B)
    (Lv : Code → Nat → World → Prop)
    (hY : ∀ i W1, (i < l.length ∧ pointB l flow i = true ∧ (∀ j, j < i → hit l flow j = false) ∧ Below V.heap.size V W1) → Bk W1 → YieldAt Fence.wide (3 - 1 - 1) Tryd.prog lp #[.int .i64 i] W1 fun e W' =>
      (e = .returned (.bool true) ∧ ((∀ j, j < i + 1 → hit l flow j = false) ∧ Below V.heap.size V W') ∧ Bk W') ∨ (e = .returned (.bool false) ∧ ∃ cd, Lv cd i W' ∧ Bx cd W'))
    (hk : Bk W) :
    CallsIn Fence.wide (3 - 1) Tryd.prog 63 #[.func (.yield lp) #[] #[], .pointer (some ⟨B1, 0, none⟩), .pointer (some ⟨B2, 0, none⟩)] W fun e W' => (∃ v, e = .returned v) ∧
      ((((∀ j, j < l.length → hit l flow j = false) ∧ Below V.heap.size V W') ∧ Bk W') ∨ (∃ cd, (∃ i, Lv cd i W') ∧ Bx cd W')) := by
  refine callsIn_of_wp Tryd.func63 rfl trivial ?_ rfl
  simp only [Tryd.ntmps63, List.size_toArray, List.length_cons, List.length_nil, Nat.reduceAdd, Nat.reduceSub, Array.replicate_succ, Array.replicate_zero, List.push_toArray, List.append_toArray, List.nil_append, List.cons_append]
  have hB1 := World.block_lt_of_cell? V _ hb1
  have hb1w := (hV.cell (p := ⟨B1, 0, none⟩) hB1).trans hb1
  gi_wp2
  gi_loopw [8] (fun i wr => ∃ k : Nat, k ≤ l.length ∧ i = .int .i64 k ∧ Hid (∀ j, j < k → hit l flow j = false) ∧ Below V.heap.size V wr ∧ Bk wr) (fun i _ => l.length - (intOf i).toNat)
  case atStart => exact ⟨0, Nat.zero_le _, rfl, fun j hj => by omega, hV, hk⟩
  case round =>
    obtain ⟨k, hk, rfl, hm, hnx, hbk⟩ := hrel
    have hB2 := World.block_lt_of_cell? V _ hb2
    have hb2r := (hnx.cell (p := ⟨B2, 0, none⟩) hB2).trans hb2
    by_cases hlt : k < l.length
    · obtain ⟨b, off, rfl, hbw, hc⟩ := hI (by omega)
      have hck := (hnx.cell (p := ⟨b, off + k, none⟩) hbw).trans (hc k hlt)
      have hlt' : (k : Int) < (l.length : Int) := by omega
      clear hc hb1 hb2
      obtain ⟨x, hx⟩ : ∃ x, nth l k = x := ⟨_, rfl⟩
      rw [hx] at hck
      obtain ⟨b3, h3⟩ : ∃ b3, flowB x = b3 := ⟨_, rfl⟩
      have hF := Flow_any x wr
      rw [h3] at hF
      have HP : Hid (pointB l flow k = (x == 58 || x == 35 || (flow && b3))) := Lib.hid (by rw [← h3, ← hx]; rfl)
      clear hx h3
      have hx3 : x = 58 ∨ x = 35 ∨ (¬ x = 58 ∧ ¬ x = 35) := by omega
      rcases hx3 with rfl | rfl | ⟨e58, e35⟩
      · obtain ⟨fn, tmps, assign, body, hy, hR⟩ := hY k wr ⟨hlt, HP.out.trans (by simp), hm.out, hnx⟩ hbk
        gi_wp2
        case h_1.isTrue => exact (undef_no (by assumption)).elim
        case h_1.isFalse => exact (undef_no (by assumption)).elim
        refine ⟨trivial, ?_⟩
        gi_wp2
        refine hR.mono ?_
        rintro e W3 (⟨rfl, ⟨hm3, hb3⟩, hk3⟩ | ⟨rfl, cd, hL, hx⟩)
        · gi_wp2
          go_roundw
          case rel => exact ⟨k + 1, by omega, by go_num, hm3, hb3, hk3⟩
          case measure => simp [intOf]; omega
        · gi_wp2
          refine bodyPost_ret (results_none rfl _ _ _) rfl ?_
          exact ⟨⟨_, rfl⟩, .inr ⟨cd, ⟨k, hL⟩, hx⟩⟩
      · obtain ⟨fn, tmps, assign, body, hy, hR⟩ := hY k wr ⟨hlt, HP.out.trans (by simp), hm.out, hnx⟩ hbk
        gi_wp2
        case h_1.isTrue => exact (undef_no (by assumption)).elim
        case h_1.isFalse => exact (undef_no (by assumption)).elim
        refine ⟨trivial, ?_⟩
        gi_wp2
        refine hR.mono ?_
        rintro e W3 (⟨rfl, ⟨hm3, hb3⟩, hk3⟩ | ⟨rfl, cd, hL, hx⟩)
        · gi_wp2
          go_roundw
          case rel => exact ⟨k + 1, by omega, by go_num, hm3, hb3, hk3⟩
          case measure => simp [intOf]; omega
        · gi_wp2
          refine bodyPost_ret (results_none rfl _ _ _) rfl ?_
          exact ⟨⟨_, rfl⟩, .inr ⟨cd, ⟨k, hL⟩, hx⟩⟩
      · have e58' : (x == 58) = false := beq_eq_false_iff_ne.2 e58
        have e35' : (x == 35) = false := beq_eq_false_iff_ne.2 e35
        cases flow with
        | false =>
          gi_wp2
          refine ⟨trivial, ?_⟩
          gi_wp2
          refine ⟨fun _ h => (by cases h), ?_⟩
          gi_wp2
          go_roundw
          case rel => exact ⟨k + 1, by omega, by go_num, hit_next hm.out (hit_point (HP.out.trans (by simp [e58, e35]))), hnx, hbk⟩
          case measure => simp [intOf]; omega
        | true =>
          have hsz := hnx.size
          cases b3 with
          | false =>
            gi_wp2_with (refine ⟨trivial, ?_⟩; gi_at_call 62; refine (callsIn_wide.2 hF).mono ?_; rintro e w2 ⟨rfl, hbF⟩)
            refine ⟨fun _ h => (by cases h), ?_⟩
            gi_wp2
            go_roundw
            case rel => exact ⟨k + 1, by omega, by go_num, hit_next hm.out (hit_point (HP.out.trans (by simp [e58, e35]))), hnx.trans (hbF.mono hsz), keep _ _ (keeps_of_below hbF) hbk⟩
            case measure => simp [intOf]; omega
          | true =>
            gi_wp2_with (refine ⟨trivial, ?_⟩; gi_at_call 62; refine (callsIn_wide.2 hF).mono ?_; rintro e w2 ⟨rfl, hbF⟩; obtain ⟨fn, tmps, assign, body, hy, hR⟩ := hY k w2 ⟨hlt, HP.out.trans (by simp), hm.out, hnx.trans (hbF.mono hsz)⟩ (keep _ _ (keeps_of_below hbF) hbk))
            refine hR.mono ?_
            rintro e W3 (⟨rfl, ⟨hm3, hb3⟩, hk3⟩ | ⟨rfl, cd, hL, hx⟩)
            · gi_wp2
              go_roundw
              case rel => exact ⟨k + 1, by omega, by go_num, hm3, hb3, hk3⟩
              case measure => simp [intOf]; omega
            · gi_wp2
              refine bodyPost_ret (results_none rfl _ _ _) rfl ?_
              exact ⟨⟨_, rfl⟩, .inr ⟨cd, ⟨k, hL⟩, hx⟩⟩
    · gi_wp2
      go_end0
      obtain rfl : k = l.length := by omega
      exact ⟨⟨_, rfl⟩, .inl ⟨⟨hm.out, hnx⟩, hbk⟩⟩
end Go.Proofs.YtnofdlpifpjlbaaDoor
