/- The program's Right. Condition: a row of at most 100000 events. -/
import Derived.Test.YtiblamapjekdeaaGreatEvQ
import Derived.Test.YtiblamapjekdeaaGreatEvE
namespace Go.Proofs.YtiblamapjekdeaaGreat
open Go.RowKit
set_option maxRecDepth 100000 in
set_option maxHeartbeats 2000000 in
theorem Right_any (A : Option Addr) (c : Nat) (L : List Ev) (w : World) (hl : L.length ≤ 1500000) (hE : EvsAt w w.heap.size A L) :
    Calls Tryz.prog 18 #[.slice A L.length c] w fun e w' => e = .returned (.bool (rightsB L)) ∧ Below w.heap.size w w' := by
  go_enter Tryz.func18, Tryz.ntmps18
  go_wp2
  go_loopw [9] (fun i wr => ∃ k : Nat, k ≤ L.length ∧ i = .int .i64 k ∧ Hid ((L.take k).all rightB = true) ∧ Below w.heap.size w wr) (fun i _ => L.length - (intOf i).toNat)
  case atStart => exact ⟨0, Nat.zero_le _, rfl, rfl, Below.refl _ _⟩
  case round =>
    obtain ⟨k, hk, rfl, hm, hbl⟩ := hrel
    by_cases hlt : k < L.length
    · obtain ⟨b, off, rfl, hbw, hc⟩ := hE (by omega)
      obtain ⟨c0, c1, c2, c3, c4, c5⟩ := (hc k hlt).below hbl hbw
      have hlt' : (k : Int) < (L.length : Int) := by omega
      have hsz := hbl.size
      have hB := fun w => bare_any (evs L k) w
      have t1 : Hid ((L.take (k + 1)).all rightB = rightB (evs L k)) := by show _ = _; rw [all_take hlt, hm.out]; rfl
      have t2 : Hid (rightB (evs L k) = false → rightsB L = false) := fun h => by rw [rightsB, all_hit hlt h]; rfl
      obtain ⟨r, hr⟩ : ∃ r, rightB (evs L k) = r := ⟨_, rfl⟩
      simp only [hr] at hB t1 t2
      clear hr
      generalize evs L k = x at *
      obtain ⟨kd, tx, tg, an, sy, fl⟩ := x
      simp only [Ev.row] at hB
      clear hc
      cases r with
      | false =>
        go_wp2_with (go_at_call 32; refine (hB _).mono ?_; rintro e w1 ⟨rfl, hb1⟩)
        go_ret
        exact ⟨ret_bool (t2.out (by trivial)).symm, (hbl.alloc hsz _).trans (hb1.mono (by simp; omega))⟩
      | true =>
        go_wp2_with (go_at_call 32; refine (hB _).mono ?_; rintro e w1 ⟨rfl, hb1⟩)
        go_roundw
        case rel => exact ⟨k + 1, by omega, by go_num, t1.out, (hbl.alloc hsz _).trans (hb1.mono (by simp; omega))⟩
        case measure => simp [intOf]; omega
    · have hm' := hm.out
      rw [List.take_of_length_le (by omega)] at hm'
      have hR : Hid (rightsB L = Ev.docs (kinds L)) := by show _ = _; rw [rightsB, hm', Bool.true_and]
      clear hm hm'
      go_wp2
      go_loopw [5] (fun i wr => ∃ k : Nat, k ≤ L.length ∧ i = .int .i64 k ∧ Hid (rightsB L = Ev.docs ((kinds L).drop k)) ∧ Below w.heap.size w wr) (fun i _ => L.length - (intOf i).toNat)
      case atStart => exact ⟨0, Nat.zero_le _, rfl, hR.out, hbl⟩
      case round =>
        clear hbl hR
        obtain ⟨k, hk, rfl, hm, hbl⟩ := hrel
        by_cases hlt : k < L.length
        · have hsz := hbl.size
          have hEE := fun i => End_any A c L i wr hl (hE.below hbl (Nat.le_refl _) |>.more hsz)
          obtain ⟨b, off, rfl, hbw, hc⟩ := hE (by omega)
          have hlt' : (k : Int) < (L.length : Int) := by omega
          have hD := docStep hlt
          have c0 := ((hc k hlt).below hbl hbw).c0
          have HC := Lib.hid hc
          clear hc
          by_cases h1 : (evs L k).kind = 1
          · rw [h1] at c0
            have hE1 := hEE ((k : Int) + 1)
            by_cases hn : endI L ((k : Int) + 1) = (k : Int) + 1
            · have hno := Lib.hid (hD.none hn)
              rw [hn] at hE1
              clear hD hn h1
              go_wp2_with (go_at_call 33; refine hE1.mono ?_; rintro e w1 ⟨rfl, hb1⟩)
              go_ret
              exact ⟨ret_bool (hm.out.trans hno.out).symm, hbl.trans (hb1.mono hsz)⟩
            · obtain ⟨j, he, hkj, hjl, p1, p2, p3⟩ := hD.place hn
              rw [he] at hE1
              have p3' := p3 h1
              have hne : ((j : Int) == (k : Int) + 1) = false := beq_eq_false_iff_ne.2 (by omega)
              have P1 := Lib.hid p1
              have P2 := Lib.hid p2
              have P3 := Lib.hid p3'
              clear hD hn h1 p1 p2 p3 p3' he
              by_cases hj : j < L.length
              · have hj' : (j : Int) < (L.length : Int) := by omega
                have C0 := Lib.hid ((HC.out j hj).below hbl hbw).c0
                by_cases h2 : (evs L j).kind = 2
                · have hdn := Lib.hid (P3.out hj h2)
                  have C1 := C0.out
                  rw [h2] at C1
                  clear P1 P2 P3 h2 C0
                  have D0 : ∀ w1, Below wr.heap.size wr w1 → w1.cell? ⟨b, off + j * 6, none⟩ = some (.int .i64 2) := fun w1 hb1 => (hb1.cell (p := ⟨b, off + j * 6, none⟩) (Nat.lt_of_lt_of_le hbw hsz)).trans C1
                  have HD0 := Lib.hid D0
                  clear D0 C1
                  go_wp2_with (go_at_call 33; refine hE1.mono ?_; rintro e w1 ⟨rfl, hb1⟩; have d0 := HD0.out w1 hb1)
                  go_roundw
                  case rel => exact ⟨j + 1, by omega, by go_num, hm.out.trans hdn.out, hbl.trans (hb1.mono hsz)⟩
                  case measure => simp [intOf]; omega
                · have hdn := Lib.hid (P2.out hj h2)
                  have C1 := C0.out
                  obtain ⟨x, hx⟩ : ∃ x, (evs L j).kind = x := ⟨_, rfl⟩
                  rw [hx] at C1 h2
                  have hx2 : (x != 2) = true := bne_iff_ne.2 h2
                  clear P1 P2 P3 h2 C0 hx
                  have HD0 : Hid (∀ w1, Below wr.heap.size wr w1 → w1.cell? ⟨b, off + j * 6, none⟩ = some (.int .i64 x)) := fun w1 hb1 => (hb1.cell (p := ⟨b, off + j * 6, none⟩) (Nat.lt_of_lt_of_le hbw hsz)).trans C1
                  clear C1
                  go_wp2_with (go_at_call 33; refine hE1.mono ?_; rintro e w1 ⟨rfl, hb1⟩; have d0 := HD0.out w1 hb1)
                  go_ret
                  exact ⟨ret_bool (hm.out.trans hdn.out).symm, hbl.trans (hb1.mono hsz)⟩
              · have hdn := Lib.hid (P1.out (by omega))
                have hj' : (L.length : Int) ≤ (j : Int) := by omega
                clear P1 P2 P3
                go_wp2_with (go_at_call 33; refine hE1.mono ?_; rintro e w1 ⟨rfl, hb1⟩)
                go_ret
                exact ⟨ret_bool (hm.out.trans hdn.out).symm, hbl.trans (hb1.mono hsz)⟩
          · have hno := Lib.hid (hD.mark h1)
            have h1' : ((evs L k).kind == 1) = false := beq_eq_false_iff_ne.2 h1
            clear hD
            generalize (evs L k).kind = x at *
            go_wp2
            go_ret
            exact ⟨ret_bool (hm.out.trans hno.out).symm, hbl⟩
        · have e := hm.out.trans (docs_nil L (by omega))
          go_wp2
          go_ret
          exact ⟨ret_bool e.symm, hbl⟩
end Go.Proofs.YtiblamapjekdeaaGreat
