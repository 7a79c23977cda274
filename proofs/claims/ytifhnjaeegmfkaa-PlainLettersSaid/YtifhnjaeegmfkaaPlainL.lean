/- The walks of the laws on plain. Condition: none but what the row's reading gives. -/
import Derived.Test.YtifhnjaeegmfkaaPlainS
namespace Go.Proofs.Ytifhnjaeegmfkaa
open Go.RowKit
theorem nth_take {l : List Int} {n j : Nat} (h : j < n) : nth (l.take n) j = nth l j := by simp [nth, h]
theorem again_law (l : List Int) (flow : Bool) (h58 : ¬ (0 < endN l flow ∧ nth l (endN l flow - 1) = 58)) : endN (l.take (endN l flow)) flow = endN l flow ∧ keyI (l.take (endN l flow)) flow < 0 := by
  obtain ⟨s1, s2, s3⟩ := stop_spec l flow
  have hn : endN l flow ≤ stopN l flow := trim_le _ _
  have he := trim_end l (stopN l flow)
  have hee : trimN l (stopN l flow) = endN l flow := rfl
  rw [hee] at he
  generalize endN l flow = n at *
  have hlen : (l.take n).length = n := by simp; omega
  have hst : n = stopN (l.take n) flow := by
    refine stop_eq (by omega) (fun j hj => ?_) (fun h => by omega)
    have hl := s2 j (by omega)
    simp only [hit, Bool.or_eq_false_iff] at hl ⊢
    obtain ⟨⟨h1, h2⟩, h3⟩ := hl
    rw [nth_take hj]
    refine ⟨⟨?_, ?_⟩, h3⟩
    · by_cases hc : nth l j = 58
      · have hj1 : j + 1 < n := by
          have : ¬ j + 1 = n := fun e => h58 ⟨by omega, by rw [← e]; simpa using hc⟩
          omega
        have e1 : safeAt (l.take n) (j + 1) flow = safeAt l (j + 1) flow := by
          have d1 : decide (j + 1 < (l.take n).length) = true := decide_eq_true (by omega)
          have d2 : decide (j + 1 < l.length) = true := decide_eq_true (by omega)
          simp only [safeAt, nth_take hj1, d1, d2]
        rw [e1]; exact h1
      · simp [hc]
    · by_cases h0 : 0 < j
      · rw [nth_take (by omega)]; exact h2
      · simp [h0]
  refine ⟨?_, ?_⟩
  · unfold endN
    rw [← hst]
    exact (trim_eq (Nat.le_refl _) (fun j h1 h2 => by omega) (fun h => by rw [nth_take (by omega)]; exact he h)).symm
  · unfold keyI
    rw [← hst, if_neg (fun h => by omega)]
    omega
theorem ints_new (w : World) (zs : List Int) (t : TypeId) : IntsAt (w.alloc (.cells (zs.map (Value.int .i64)).toArray t)) (w.heap.size + 1) (some ⟨w.heap.size, 0, none⟩) zs := fun _ => by
  refine ⟨w.heap.size, 0, rfl, by omega, fun k hk => ?_⟩
  have h := World.cell?_alloc_mark w (zs.map (Value.int .i64)).toArray t (0, 0) (0 + k)
  rw [h]
  simp [nth, hk]
theorem alive9_any (w : World) : Calls Try.prog 24 #[] w fun e w' => e = .returned (.bool true) ∧ Below w.heap.size w w' := by
  have hI := ints_new w [97, 32, 98, 58, 32, 99] 3
  have hE := End_any (some ⟨w.heap.size, 0, none⟩) 6 [97, 32, 98, 58, 32, 99] false (w.alloc (.cells #[.int .i64 97, .int .i64 32, .int .i64 98, .int .i64 58, .int .i64 32, .int .i64 99] 3)) (by decide) (hI.more (by simp))
  rw [show endN [97, 32, 98, 58, 32, 99] false = 3 from by decide +kernel] at hE
  go_enter Try.func24, Try.ntmps24
  go_wp2_with fail
  refine hE.mono ?_
  rintro e w1 ⟨rfl, hb1⟩
  clear hE hI
  have hI := ints_new w1 [97] 3
  have hB := Begins_any (some ⟨w1.heap.size, 0, none⟩) 1 [97] true (w1.alloc (.cells #[.int .i64 97] 3)) (by decide) (hI.more (by simp))
  rw [show begB [97] true = true from by decide +kernel] at hB
  go_wp2_with fail
  refine hB.mono ?_
  rintro e w2 ⟨rfl, hb2⟩
  go_wp2_with fail
  go_ret
  refine ⟨rfl, below_then (below_then ((Below.refl _ w).alloc (Nat.le_refl _) _) hb1) (below_then ((Below.refl _ w1).alloc (Nat.le_refl _) _) hb2)⟩
set_option maxHeartbeats 400000 in
theorem plainFlow_walk (A : Option Addr) (c : Nat) (l : List Int) (_hc : l.length ≤ c) (hm : c ≤ maxLen) (w : World) (hI : IntsAt w w.heap.size A l) (_wl : ∀ z ∈ l, (Lit.int .i64 z).wf = true) :
    Calls Try.prog 5 #[.slice A l.length c] w fun e w' => e = .returned (.bool true) ∧ Below w.heap.size w w' := by
  have hl : l.length ≤ 9223372036854775807 := by unfold maxLen at hm; omega
  clear hm
  by_cases hbig : 300 < l.length
  · have hbig' : (300 : Int) < (l.length : Int) := by omega
    go_enter Try.func5, Try.ntmps5
    go_wp2_with (go_at_call 24; refine (alive9_any _).mono ?_; rintro e w1 ⟨rfl, hb1⟩)
    go_ret
    exact ⟨rfl, hb1⟩
  · have hbig' : ¬ (300 : Int) < (l.length : Int) := by omega
    have hd : decide ((300 : Int) < (l.length : Int)) = false := decide_eq_false hbig'
    have hle : ((endN l true : Nat) : Int) ≤ ((endN l false : Nat) : Int) := by have := end_mono l; omega
    have HBm : Hid (begB l true = true → begB l false = true) := beg_mono
    go_enter Try.func5, Try.ntmps5
    go_wp2_with fail
    refine (alive9_any _).mono ?_
    rintro e w1 ⟨rfl, hb1⟩
    go_wp2_with fail
    refine (End_any A c l true w1 hl ((hI.below hb1 (Nat.le_refl _)).more hb1.size)).mono ?_
    rintro e w2 ⟨rfl, hb2⟩
    have hb12 := below_then hb1 hb2
    go_wp2_with fail
    refine (End_any A c l false w2 hl ((hI.below hb12 (Nat.le_refl _)).more hb12.size)).mono ?_
    rintro e w3 ⟨rfl, hb3⟩
    have hb13 := below_then hb12 hb3
    go_wp2_with fail
    refine (Begins_any A c l true w3 hl ((hI.below hb13 (Nat.le_refl _)).more hb13.size)).mono ?_
    rintro e w4 ⟨rfl, hb4⟩
    have hb14 := below_then hb13 hb4
    cases hbt : begB l true with
    | false =>
      go_wp2_with fail
      go_ret
      exact ⟨rfl, hb14⟩
    | true =>
      have hbf := HBm.out hbt
      go_wp2_with fail
      refine (Begins_any A c l false w4 hl ((hI.below hb14 (Nat.le_refl _)).more hb14.size)).mono ?_
      rintro e w5 ⟨rfl, hb5⟩
      go_wp2_with fail
      go_ret
      exact ⟨rfl, below_then hb14 hb5⟩
theorem IntsAt.take {w : World} {B : Nat} {A : Option Addr} {l : List Int} {n : Nat} (h : IntsAt w B A l) (hn : n ≤ l.length) : IntsAt w B A (l.take n) := fun h0 => by
  have hlen : (l.take n).length = n := by simp; omega
  obtain ⟨b, off, rfl, hb, hc⟩ := h (by omega)
  exact ⟨b, off, rfl, hb, fun k hk => by rw [nth_take (by omega)]; exact hc k (by omega)⟩
theorem key_cases (l : List Int) (flow : Bool) : keyI l flow = -1 ∨ ∃ s : Nat, keyI l flow = s ∧ s < l.length ∧ nth l s = 58 ∧ endN l flow ≤ s := by
  unfold keyI
  split
  · rename_i h
    exact .inr ⟨stopN l flow, rfl, h.1, h.2, trim_le _ _⟩
  · exact .inl rfl
set_option maxHeartbeats 1000000 in
theorem plainEnds_walk (A : Option Addr) (c : Nat) (l : List Int) (_hc : l.length ≤ c) (hm : c ≤ maxLen) (w : World) (hI : IntsAt w w.heap.size A l) (_wl : ∀ z ∈ l, (Lit.int .i64 z).wf = true) (flow : Bool) :
    Calls Try.prog 6 #[.slice A l.length c, .bool flow] w fun e w' => e = .returned (.bool true) ∧ Below w.heap.size w w' := by
  have hl : l.length ≤ 9223372036854775807 := by unfold maxLen at hm; omega
  clear hm
  by_cases hbig : 300 < l.length
  · have hbig' : (300 : Int) < (l.length : Int) := by omega
    go_enter Try.func6, Try.ntmps6
    go_wp2_with (go_at_call 24; refine (alive9_any _).mono ?_; rintro e w1 ⟨rfl, hb1⟩)
    go_ret
    exact ⟨rfl, hb1⟩
  · have hbig' : ¬ (300 : Int) < (l.length : Int) := by omega
    have hd : decide ((300 : Int) < (l.length : Int)) = false := decide_eq_false hbig'
    have hKc := key_cases l flow
    have hnl : endN l flow ≤ l.length := Nat.le_trans (trim_le _ _) (stop_spec l flow).1
    obtain ⟨n, hn⟩ : ∃ n, endN l flow = n := ⟨_, rfl⟩
    obtain ⟨k, hk⟩ : ∃ k, keyI l flow = k := ⟨_, rfl⟩
    have hK1 := fun w1 (h : Below w.heap.size w w1) => Key_any A c l flow w1 hl ((hI.below h (Nat.le_refl _)).more h.size)
    have hE1 := fun w1 (h : Below w.heap.size w w1) => End_any A c l flow w1 hl ((hI.below h (Nat.le_refl _)).more h.size)
    have hB1 := fun w1 (h : Below w.heap.size w w1) => Begins_any A c l flow w1 hl ((hI.below h (Nat.le_refl _)).more h.size)
    have hK2 := fun w1 (h : Below w.heap.size w w1) => RKey_any A c l flow w1 hl ((hI.below h (Nat.le_refl _)).more h.size)
    have hE2 := fun w1 (h : Below w.heap.size w w1) => REnd_any A c l flow w1 hl ((hI.below h (Nat.le_refl _)).more h.size)
    have hB2 := fun w1 (h : Below w.heap.size w w1) => RBegins_any A c l flow w1 hl ((hI.below h (Nat.le_refl _)).more h.size)
    rw [hn, hk] at hKc
    rw [hn] at hnl hE1 hE2
    rw [hk] at hK1 hK2
    clear hn hk
    have K1 := Lib.hid hK1
    have E1 := Lib.hid hE1
    have B1 := Lib.hid hB1
    have K2 := Lib.hid hK2
    have E2 := Lib.hid hE2
    have B2 := Lib.hid hB2
    clear hK1 hE1 hB1 hK2 hE2 hB2
    have hn0 : (0 : Int) ≤ (n : Int) := by omega
    have hnl' : (n : Int) ≤ (l.length : Int) := by omega
    have KC := Lib.hid hKc
    clear hKc
    go_enter Try.func6, Try.ntmps6
    go_wp2_with fail
    refine (alive9_any _).mono ?_
    rintro e w1 ⟨rfl, hb1⟩
    go_wp2_with fail
    refine (K1.out w1 hb1).mono ?_
    rintro e w2 ⟨rfl, hb2⟩
    have hb12 := below_then hb1 hb2
    go_wp2_with fail
    refine (E1.out w2 hb12).mono ?_
    rintro e w3 ⟨rfl, hb3⟩
    have hb13 := below_then hb12 hb3
    go_wp2_with fail
    refine (B1.out w3 hb13).mono ?_
    rintro e w4 ⟨rfl, hb4⟩
    have hb14 := below_then hb13 hb4
    go_wp2_with fail
    refine (B2.out w4 hb14).mono ?_
    rintro e w5 ⟨rfl, hb5⟩
    have hb15 := below_then hb14 hb5
    go_wp2_with fail
    refine (E2.out w5 hb15).mono ?_
    rintro e w6 ⟨rfl, hb6⟩
    have hb16 := below_then hb15 hb6
    go_wp2_with fail
    refine (K2.out w6 hb16).mono ?_
    rintro e w7 ⟨rfl, hb7⟩
    have hb17 := below_then hb16 hb7
    rcases KC.out with rfl | ⟨s, rfl, hs1, hs2, hs3⟩
    · go_wp2_with fail
      go_ret
      exact ⟨rfl, hb17⟩
    · obtain ⟨b, off, rfl, hbw, hc⟩ := (hI.below hb17 (Nat.le_refl _)) (by omega)
      have hcs := hc s hs1
      rw [hs2] at hcs
      clear hc
      have hs1' : (s : Int) < (l.length : Int) := by omega
      have hs3' : (n : Int) ≤ (s : Int) := by omega
      have hs0 : ¬ (s : Int) < 0 := by omega
      clear hs2
      go_wp2_with fail
      go_ret
      exact ⟨rfl, hb17⟩
set_option maxHeartbeats 1000000 in
theorem plainAgain_walk (A : Option Addr) (c : Nat) (l : List Int) (hc : l.length ≤ c) (hm : c ≤ maxLen) (w : World) (hI : IntsAt w w.heap.size A l) (_wl : ∀ z ∈ l, (Lit.int .i64 z).wf = true) (flow : Bool) :
    Calls Try.prog 7 #[.slice A l.length c, .bool flow] w fun e w' => e = .returned (.bool true) ∧ Below w.heap.size w w' := by
  have hcm : c ≤ 9223372036854775807 := by unfold maxLen at hm; omega
  have hl : l.length ≤ 9223372036854775807 := by omega
  clear hm
  by_cases hbig : 300 < l.length
  · have hbig' : (300 : Int) < (l.length : Int) := by omega
    go_enter Try.func7, Try.ntmps7
    go_wp2_with (go_at_call 24; refine (alive9_any _).mono ?_; rintro e w1 ⟨rfl, hb1⟩)
    go_ret
    exact ⟨rfl, hb1⟩
  · have hbig' : ¬ (300 : Int) < (l.length : Int) := by omega
    have hd : decide ((300 : Int) < (l.length : Int)) = false := decide_eq_false hbig'
    have hnl : endN l flow ≤ l.length := Nat.le_trans (trim_le _ _) (stop_spec l flow).1
    have HA := Lib.hid (again_law l flow)
    have hE1 := fun w1 (h : Below w.heap.size w w1) => End_any A c l flow w1 hl ((hI.below h (Nat.le_refl _)).more h.size)
    generalize endN l flow = n at *
    have E1 := Lib.hid hE1
    clear hE1
    have hn0 : ¬ (n : Int) < 0 := by omega
    have hnl' : ¬ (l.length : Int) < (n : Int) := by omega
    have hnc : (n : Int) ≤ (c : Int) := by omega
    go_enter Try.func7, Try.ntmps7
    go_wp2_with fail
    refine (alive9_any _).mono ?_
    rintro e w1 ⟨rfl, hb1⟩
    go_wp2_with fail
    refine (E1.out w1 hb1).mono ?_
    rintro e w2 ⟨rfl, hb2⟩
    have hb12 := below_then hb1 hb2
    have hI2 := (hI.below hb12 (Nat.le_refl _)).more hb12.size
    have hE2 := fun w3 (h : Below w2.heap.size w2 w3) => End_any A c (l.take n) flow w3 (by rw [List.length_take]; omega) (((hI2.take hnl).below h (Nat.le_refl _)).more h.size)
    have hK2 := fun w3 (h : Below w2.heap.size w2 w3) => Key_any A c (l.take n) flow w3 (by rw [List.length_take]; omega) (((hI2.take hnl).below h (Nat.le_refl _)).more h.size)
    have hlen : (l.take n).length = n := by rw [List.length_take]; omega
    rw [hlen] at hE2 hK2
    have E2 := Lib.hid hE2
    have K2 := Lib.hid hK2
    clear hE2 hK2 hlen
    have h01 : ¬ 0 < n ∨ 0 < n := by omega
    rcases h01 with h0 | h0
    · have h0' : ¬ (0 : Int) < (n : Int) := by omega
      have h0d : decide ((0 : Int) < (n : Int)) = false := decide_eq_false h0'
      obtain ⟨he, hk⟩ := HA.out (fun h => h0 h.1)
      have E3 := E2.out w2 (Below.refl _ _)
      rw [he] at E3
      have K3 := Lib.hid K2.out
      generalize keyI (l.take n) flow = k at *
      clear he
      go_wp2_with fail
      refine E3.mono ?_
      rintro e w3 ⟨rfl, hb3⟩
      go_wp2_with fail
      refine (K3.out w3 hb3).mono ?_
      rintro e w4 ⟨rfl, hb4⟩
      go_wp2_with fail
      go_ret
      exact ⟨rfl, below_then hb12 (below_then hb3 hb4)⟩
    · obtain ⟨b, off, rfl, hbw, hcl⟩ := hI2 (by omega)
      have hcn := hcl (n - 1) (by omega)
      clear hcl
      have h0' : (0 : Int) < (n : Int) := by omega
      have h1 : (0 : Int) ≤ (n : Int) - 1 := by omega
      have h2 : (n : Int) - 1 < (n : Int) := by omega
      have h3 : ((n : Int) - 1).toNat = n - 1 := by omega
      by_cases h58 : nth l (n - 1) = 58
      · rw [h58] at hcn
        clear h58
        go_wp2_with fail
        go_ret
        exact ⟨rfl, hb12⟩
      · have h58' : (nth l (n - 1) == 58) = false := beq_eq_false_iff_ne.2 h58
        obtain ⟨he, hk⟩ := HA.out (fun h => h58 h.2)
        have E3 := E2.out w2 (Below.refl _ _)
        rw [he] at E3
        have K3 := Lib.hid K2.out
        generalize keyI (l.take n) flow = k at *
        clear he h58
        go_wp2_with fail
        refine E3.mono ?_
        rintro e w3 ⟨rfl, hb3⟩
        go_wp2_with fail
        refine (K3.out w3 hb3).mono ?_
        rintro e w4 ⟨rfl, hb4⟩
        go_wp2_with fail
        go_ret
        exact ⟨rfl, below_then hb12 (below_then hb3 hb4)⟩
end Go.Proofs.Ytifhnjaeegmfkaa
