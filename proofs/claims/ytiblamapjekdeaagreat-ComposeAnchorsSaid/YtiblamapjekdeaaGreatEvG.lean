/- The reference's Right. Condition: a row of at most 100000 events. -/
import Derived.Test.YtiblamapjekdeaaGreatEvF
import Derived.Test.YtiblamapjekdeaaGreatEvR
namespace Go.Proofs.YtiblamapjekdeaaGreat
open Go.RowKit
theorem rightsR_eq (L : List Ev) : (L.all rightR && Ev.docs (kinds L)) = rightsB L := by
  rw [rightsB]
  cases hd : Ev.docs (kinds L) with
  | false => simp
  | true =>
    have hk := docs_kinds _ _ (Nat.le_refl _) hd
    congr 1
    have : ∀ x ∈ L, rightR x = rightB x := fun x hx => rightR_eq (hk x.kind (List.mem_map_of_mem hx))
    rw [Bool.eq_iff_iff, List.all_eq_true, List.all_eq_true]
    exact ⟨fun h x hx => (this x hx) ▸ h x hx, fun h x hx => (this x hx).symm ▸ h x hx⟩
theorem endI_pair {L : List Ev} {k j : Nat} (h : endI L ((k : Int) + 1) = j) (hk : k + 2 ≤ j) : Ev.scan2 (kinds (part L (k + 1) (j - (k + 1)))) [] = some (j - (k + 1)) ∧ Ev.paired (kinds (part L (k + 1) (j - (k + 1)))) [] = true := by
  have e1 : ((k : Int) + 1) = ((k + 1 : Nat) : Int) := by omega
  rw [e1, endI_two] at h
  cases hs : Ev.scan2 ((kinds L).drop (k + 1)) [] with
  | none => rw [hs] at h; simp only at h; omega
  | some m =>
    rw [hs] at h
    simp only at h
    by_cases hp : Ev.paired (kinds (part L (k + 1) m)) [] = true
    · rw [if_pos hp] at h
      obtain rfl : j - (k + 1) = m := by omega
      refine ⟨?_, hp⟩
      rw [kinds_part]
      exact scan2_self _ _ _ hs
    · rw [if_neg hp] at h; omega
theorem paired_part {w w1 : World} {b off n m cc : Nat} {L : List Ev} (hl : L.length ≤ 1500000) (hbw : b < w.heap.size) (hc : ∀ k, k < L.length → EvAt w b (off + k * 6) (evs L k)) (hb1 : Below w.heap.size w w1) (hnm : n + m ≤ L.length)
    (q1 : Ev.scan2 (kinds (part L n m)) [] = some m) (q2 : Ev.paired (kinds (part L n m)) [] = true) :
    Calls Tryz.prog 40 #[.slice (some ⟨b, off + n * 6, none⟩) m cc] w1 fun e w' => e = .returned (.bool true) ∧ Below w1.heap.size w1 w' := by
  have hpl := part_length hnm
  have h := RPaired_any (some ⟨b, off + n * 6, none⟩) cc (part L n m) w1 (by rw [hpl]; omega) (((EvsAt.part hbw hc hnm).below hb1 (Nat.le_refl _)).more hb1.size) (by rw [hpl]; exact q1)
  rw [hpl, q2] at h
  exact h
set_option maxRecDepth 100000 in
set_option maxHeartbeats 2000000 in
theorem RRight_any (A : Option Addr) (c : Nat) (L : List Ev) (w : World) (hl : L.length ≤ 1500000) (hcap : L.length ≤ c) (hE : EvsAt w w.heap.size A L) :
    Calls Tryz.prog 20 #[.slice A L.length c] w fun e w' => e = .returned (.bool (rightsB L)) ∧ Below w.heap.size w w' := by
  go_enter Tryz.func20, Tryz.ntmps20
  go_wp2
  go_loopw [3] (fun i wr => ∃ k : Nat, k ≤ L.length ∧ i = .int .i64 k ∧ Hid ((L.take k).all rightR = true) ∧ Below w.heap.size w wr) (fun i _ => L.length - (intOf i).toNat)
  case atStart => exact ⟨0, Nat.zero_le _, rfl, rfl, Below.refl _ _⟩
  case round =>
    obtain ⟨k, hk, rfl, hm, hbl⟩ := hrel
    by_cases hlt : k < L.length
    · obtain ⟨b, off, rfl, hbw, hc⟩ := hE (by omega)
      obtain ⟨c0, c1, c2, c3, c4, c5⟩ := (hc k hlt).below hbl hbw
      have hlt' : (k : Int) < (L.length : Int) := by omega
      have hsz := hbl.size
      have hB := fun w => right_any (evs L k) w
      have t1 : Hid ((L.take (k + 1)).all rightR = rightR (evs L k)) := by show _ = _; rw [all_take hlt, hm.out]; rfl
      have t2 : Hid (rightR (evs L k) = false → rightsB L = false) := fun h => by rw [← rightsR_eq, all_hit hlt h]; rfl
      obtain ⟨r, hr⟩ : ∃ r, rightR (evs L k) = r := ⟨_, rfl⟩
      simp only [hr] at hB t1 t2
      clear hr
      generalize evs L k = x at *
      obtain ⟨kd, tx, tg, an, sy, fl⟩ := x
      simp only [Ev.row] at hB
      clear hc
      cases r with
      | false =>
        go_wp2_with (go_at_call 38; refine (hB _).mono ?_; rintro e w1 ⟨rfl, hb1⟩)
        go_ret
        exact ⟨ret_bool (t2.out (by trivial)).symm, hbl.trans (hb1.mono hsz)⟩
      | true =>
        go_wp2_with (go_at_call 38; refine (hB _).mono ?_; rintro e w1 ⟨rfl, hb1⟩)
        go_roundw
        case rel => exact ⟨k + 1, by omega, by go_num, t1.out, hbl.trans (hb1.mono hsz)⟩
        case measure => simp [intOf]; omega
    · have hm' := hm.out
      rw [List.take_of_length_le (by omega)] at hm'
      have hR : Hid (rightsB L = Ev.docs (kinds L)) := by show _ = _; rw [← rightsR_eq, hm', Bool.true_and]
      clear hm hm'
      go_wp2
      go_loopw [4] (fun i wr => ∃ k : Nat, k ≤ L.length ∧ i = .int .i64 k ∧ Hid (rightsB L = Ev.docs ((kinds L).drop k)) ∧ Below w.heap.size w wr) (fun i _ => L.length - (intOf i).toNat)
      case atStart => exact ⟨0, Nat.zero_le _, rfl, hR.out, hbl⟩
      case round =>
        clear hbl hR
        obtain ⟨k, hk, rfl, hm, hbl⟩ := hrel
        by_cases hlt : k < L.length
        · have hsz := hbl.size
          have hEE := fun i => REnd_any A c L i wr hl hcap (hE.below hbl (Nat.le_refl _) |>.more hsz)
          obtain ⟨b, off, rfl, hbw, hc⟩ := hE (by omega)
          have hlt' : (k : Int) < (L.length : Int) := by omega
          have hD := docStep hlt
          have c0 := ((hc k hlt).below hbl hbw).c0
          have HC := Lib.hid hc
          clear hc
          by_cases h1 : (evs L k).kind = 1
          · rw [h1] at c0
            have hE1 := hEE ((k : Int) + 1)
            by_cases hn : endI L ((k : Int) + 1) = (k : Int) + 1
            · have hno := Lib.hid (hD.none hn)
              rw [hn] at hE1
              clear hD hn h1
              go_wp2_with (go_at_call 39; refine hE1.mono ?_; rintro e w1 ⟨rfl, hb1⟩)
              go_ret
              exact ⟨ret_bool (hm.out.trans hno.out).symm, hbl.trans (hb1.mono hsz)⟩
            · obtain ⟨j, he, hkj, hjl, p1, p2, p3⟩ := hD.place hn
              rw [he] at hE1
              have p3' := p3 h1
              obtain ⟨q1, q2⟩ := endI_pair he hkj
              have HQ1 := Lib.hid q1
              have HQ2 := Lib.hid q2
              clear q1 q2
              have hne : ((j : Int) == (k : Int) + 1) = false := beq_eq_false_iff_ne.2 (by omega)
              have P1 := Lib.hid p1
              have P2 := Lib.hid p2
              have P3 := Lib.hid p3'
              clear hD hn h1 p1 p2 p3 p3' he
              by_cases hj : j < L.length
              · have hj' : (j : Int) < (L.length : Int) := by omega
                have C0 := Lib.hid ((HC.out j hj).below hbl hbw).c0
                by_cases h2 : (evs L j).kind = 2
                · have hdn := Lib.hid (P3.out hj h2)
                  have C1 := C0.out
                  rw [h2] at C1
                  clear P1 P2 P3 h2 C0
                  have D0 : ∀ w1, Below wr.heap.size wr w1 → w1.cell? ⟨b, off + j * 6, none⟩ = some (.int .i64 2) := fun w1 hb1 => (hb1.cell (p := ⟨b, off + j * 6, none⟩) (Nat.lt_of_lt_of_le hbw hsz)).trans C1
                  have HD0 := Lib.hid D0
                  clear D0 C1
                  have HP : Hid (∀ w1, Below w.heap.size w w1 → Calls Tryz.prog 40 #[.slice (some ⟨b, off + (k + 1) * 6, none⟩) (j - (k + 1)) (c - (k + 1))] w1 fun e w' => e = .returned (.bool true) ∧ Below w1.heap.size w1 w') :=
                    fun w1 hb1 => paired_part hl hbw HC.out hb1 (by omega) HQ1.out HQ2.out
                  have hck : ¬ c = k + 1 := by omega
                  have hjk : (k : Int) + 1 ≤ (j : Int) := by omega
                  have hjc : (j : Int) ≤ (c : Int) := by omega
                  go_wp2_with (first | (go_at_call 39; refine hE1.mono ?_; rintro e w1 ⟨rfl, hb1⟩; have d0 := HD0.out w1 hb1) | (go_at_call 40; refine (HP.out _ (hbl.trans (hb1.mono hsz))).mono ?_; rintro e w2 ⟨rfl, hb2⟩))
                  go_roundw
                  case rel => exact ⟨j + 1, by omega, by go_num, hm.out.trans hdn.out, (hbl.trans (hb1.mono hsz)).trans (hb2.mono (Nat.le_trans hsz hb1.size))⟩
                  case measure => simp [intOf]; omega
                · have hdn := Lib.hid (P2.out hj h2)
                  have C1 := C0.out
                  obtain ⟨x, hx⟩ : ∃ x, (evs L j).kind = x := ⟨_, rfl⟩
                  rw [hx] at C1 h2
                  have hx2 : (x != 2) = true := bne_iff_ne.2 h2
                  clear P1 P2 P3 h2 C0 hx
                  have HD0 : Hid (∀ w1, Below wr.heap.size wr w1 → w1.cell? ⟨b, off + j * 6, none⟩ = some (.int .i64 x)) := fun w1 hb1 => (hb1.cell (p := ⟨b, off + j * 6, none⟩) (Nat.lt_of_lt_of_le hbw hsz)).trans C1
                  clear C1
                  go_wp2_with (go_at_call 39; refine hE1.mono ?_; rintro e w1 ⟨rfl, hb1⟩; have d0 := HD0.out w1 hb1)
                  go_ret
                  exact ⟨ret_bool (hm.out.trans hdn.out).symm, hbl.trans (hb1.mono hsz)⟩
              · have hdn := Lib.hid (P1.out (by omega))
                have hj' : (L.length : Int) ≤ (j : Int) := by omega
                clear P1 P2 P3
                go_wp2_with (go_at_call 39; refine hE1.mono ?_; rintro e w1 ⟨rfl, hb1⟩)
                go_ret
                exact ⟨ret_bool (hm.out.trans hdn.out).symm, hbl.trans (hb1.mono hsz)⟩
          · have hno := Lib.hid (hD.mark h1)
            have h1' : ((evs L k).kind == 1) = false := beq_eq_false_iff_ne.2 h1
            clear hD
            generalize (evs L k).kind = x at *
            go_wp2
            go_ret
            exact ⟨ret_bool (hm.out.trans hno.out).symm, hbl⟩
        · have e := hm.out.trans (docs_nil L (by omega))
          go_wp2
          go_ret
          exact ⟨ret_bool e.symm, hbl⟩
end Go.Proofs.YtiblamapjekdeaaGreat
