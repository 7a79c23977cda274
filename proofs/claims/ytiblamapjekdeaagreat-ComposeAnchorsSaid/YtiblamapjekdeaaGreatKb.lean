/- The reference's reader at the example's one line: what it reads. Condition: the reader stands at the example's line, without an error. -/
import Derived.Test.YtiblamapjekdeaaGreatKa
import Derived.Deep.RegionHeld3
namespace Go.Proofs.YtiblamapjekdeaaGreat
open Go.RowKit
attribute [local go_sem] Oper.semAt_some
structure RdP where
  rb : Nat
  lb : Nat
  lc : Nat
  fb : Nat
  fc : Nat
  tb : Nat
  tc : Nat
  xb : Nat
  xc : Nat
/-- The reader at p. -/
structure Rd (W : World) (p : RdP) (ov : Value) : Prop where
  row : W.heap[p.rb]? = some (.cells #[.slice (some ⟨p.lb, 0, none⟩) 1 p.lc, .slice (some ⟨p.fb, 0, none⟩) 1 p.fc, .int .i64 (-1), .int .i64 0, ov] 77 (0, 0))
  lc : 1 ≤ p.lc
  fc : 1 ≤ p.fc
  line : LnT W p.lb 0 p.xb p.xc
  fb : p.fb < W.heap.size
  full : W.cell? ⟨p.fb, 0, none⟩ = some (.slice (some ⟨p.tb, 0, none⟩) 7 p.tc)
  text : RowT W p.tb 0 p.tc
  n1 : p.lb ≠ p.rb
  n2 : p.fb ≠ p.rb
  n3 : p.tb ≠ p.rb
  n4 : p.xb ≠ p.rb
theorem Rd.lt {W : World} {p : RdP} {ov : Value} (h : Rd W p ov) : p.rb < W.heap.size := (Array.getElem?_eq_some_iff.1 h.row).1
theorem Rd.below {W W' : World} {p : RdP} {ov : Value} (h : Rd W p ov) (hb : Below W.heap.size W W') : Rd W' p ov :=
  ⟨(hb.block _ h.lt).trans h.row, h.lc, h.fc, h.line.below hb, Nat.lt_of_lt_of_le h.fb hb.size, (hb.cell (p := ⟨p.fb, 0, none⟩) h.fb).trans h.full, h.text.below hb, h.n1, h.n2, h.n3, h.n4⟩
/-- A place on the line. -/
abbrev plc (k : Nat) : Value := .agg #[.int .i64 0, .int .i64 (k : Int), .bool false]
theorem box3 (w : World) (a b c : Value) (t : TypeId) : ∃ V, w.alloc (.cells #[a, b, c] t) = V ∧ Below w.heap.size w V ∧ V.heap[w.heap.size]? = some (.cells #[a, b, c] t (0, 0)) ∧ V.heap.size = w.heap.size + 1 :=
  ⟨_, rfl, (Below.refl _ w).alloc (Nat.le_refl _) _, heap_alloc_new w _, by simp⟩
set_option maxRecDepth 100000 in
set_option maxHeartbeats 4000000 in
theorem rest_in (p : RdP) (k : Nat) (ov : Value) (w : World) (h : Rd w p ov) (hk : k < 7) :
    Calls Tryz.prog 67 #[.pointer (some ⟨p.rb, 0, none⟩), plc k] w fun e w' => e = .returned (.slice (some ⟨p.tb, k, none⟩) (7 - k) (p.tc - k)) ∧ Below w.heap.size w w' := by
  obtain ⟨V, hV, hbV, hrV, hsV⟩ := box3 w (.int .i64 0) (.int .i64 (k : Int)) (.bool false) 100
  have hVr := h.below hbV
  have r1 := Lib.cell_of_heap hVr.row 1
  have r2 := hVr.full
  have b0 := Lib.cell_of_heap hrV 0
  have b1 := Lib.cell_of_heap hrV 1
  have b2 := Lib.cell_of_heap hrV 2
  have h7 := h.text.2.1
  have hkI : (k : Int) < 7 := by omega
  have hk0 : (0 : Int) ≤ (k : Int) := Int.natCast_nonneg k
  have hk0d : decide ((k : Int) < 0) = false := decide_eq_false (by omega)
  have hk7 : decide ((7 : Int) ≤ (k : Int)) = false := decide_eq_false (by omega)
  have hk7' : ¬ (7 : Int) ≤ (k : Int) := by omega
  have hk7N : decide (7 ≤ k) = false := decide_eq_false (by omega)
  have hck : ¬ p.tc = k := by omega
  have hkc : (k : Int) ≤ (p.tc : Int) := by omega
  have HbV := Lib.hid hbV
  clear h hVr hrV hsV hbV
  go_enter Tryz.func67, Tryz.ntmps67
  go_wp2
  go_quiet (fail)
  go_wp2
  go_quiet (fail)
  go_wp2
  go_ret
  exact ⟨rfl, below_drewN (below_drewN HbV.out _) _⟩
set_option maxRecDepth 100000 in
set_option maxHeartbeats 4000000 in
theorem rest_end (p : RdP) (ov : Value) (w : World) (h : Rd w p ov) :
    Calls Tryz.prog 67 #[.pointer (some ⟨p.rb, 0, none⟩), .agg #[.int .i64 0, .int .i64 7, .bool false]] w fun e w' => e = .returned (.slice none 0 0) ∧ Below w.heap.size w w' := by
  obtain ⟨V, hV, hbV, hrV, hsV⟩ := box3 w (.int .i64 0) (.int .i64 7) (.bool false) 100
  have hVr := h.below hbV
  have r1 := Lib.cell_of_heap hVr.row 1
  have r2 := hVr.full
  have b0 := Lib.cell_of_heap hrV 0
  have b1 := Lib.cell_of_heap hrV 1
  have b2 := Lib.cell_of_heap hrV 2
  have HbV := Lib.hid hbV
  clear h hVr hrV hsV hbV
  go_enter Tryz.func67, Tryz.ntmps67
  go_wp2
  go_quiet (fail)
  go_wp2
  go_ret
  exact ⟨rfl, below_drewN HbV.out _⟩
/-- What stands behind a place. -/
def restV (p : RdP) (k : Nat) : Value := if k < 7 then .slice (some ⟨p.tb, k, none⟩) (7 - k) (p.tc - k) else .slice none 0 0
/-- What stands there. -/
def seeV (k : Nat) : Int := nth listT k
theorem rest_any (p : RdP) (k : Nat) (ov : Value) (w : World) (h : Rd w p ov) (hk : k ≤ 7) :
    Calls Tryz.prog 67 #[.pointer (some ⟨p.rb, 0, none⟩), plc k] w fun e w' => e = .returned (restV p k) ∧ Below w.heap.size w w' := by
  by_cases h7 : k < 7
  · rw [restV, if_pos h7]; exact rest_in p k ov w h h7
  · obtain rfl : k = 7 := by omega
    rw [restV, if_neg h7]; exact rest_end p ov w h
set_option maxRecDepth 100000 in
set_option maxHeartbeats 4000000 in
theorem see_any (p : RdP) (k : Nat) (ov : Value) (w : World) (h : Rd w p ov) (hk : k ≤ 7) :
    Calls Tryz.prog 87 #[.pointer (some ⟨p.rb, 0, none⟩), plc k] w fun e w' => e = .returned (.int .i64 (seeV k)) ∧ Below w.heap.size w w' := by
  obtain ⟨V, hV, hbV, hrV, hsV⟩ := box3 w (.int .i64 0) (.int .i64 (k : Int)) (.bool false) 100
  have hVr := h.below hbV
  have b0 := Lib.cell_of_heap hrV 0
  have b1 := Lib.cell_of_heap hrV 1
  have b2 := Lib.cell_of_heap hrV 2
  have HRe := Lib.hid (rest_any p k ov V hVr hk)
  have HbV := Lib.hid hbV
  by_cases h7 : k < 7
  · obtain ⟨m, hm⟩ : ∃ m, 7 - k = m := ⟨_, rfl⟩
    have hm0 : 0 < m := by omega
    have hmz : ((m : Int) == 0) = false := beq_eq_false_iff_ne.2 (by omega)
    have hrv : restV p k = .slice (some ⟨p.tb, k, none⟩) m (p.tc - k) := by rw [restV, if_pos h7, hm]
    rw [hrv] at HRe
    have Ht : Hid (∀ W, Below V.heap.size V W → W.cell? ⟨p.tb, k, none⟩ = some (.int .i64 (seeV k))) := fun W hW => by
      have h1 := (hVr.text.below hW).2.2 k h7
      rw [Nat.zero_add] at h1; exact h1
    have hmI : (0 : Int) < (m : Int) := by omega
    clear h hVr hrV hsV hbV hm hrv h7 hk
    go_enter Tryz.func87, Tryz.ntmps87
    go_wp2_with (go_at_call 67; refine HRe.out.mono ?_; rintro e w1 ⟨rfl, hb1⟩; have ht := Ht.out w1 hb1; have Hb1 := Lib.hid (below_then HbV.out hb1); clear hb1)
    go_ret
    exact ⟨rfl, Hb1.out⟩
  · obtain rfl : k = 7 := by omega
    have HR7 : Hid (Calls Tryz.prog 67 #[.pointer (some ⟨p.rb, 0, none⟩), .agg #[.int .i64 0, .int .i64 7, .bool false]] V fun e w' => e = .returned (.slice none 0 0) ∧ Below V.heap.size V w') := rest_end p ov V hVr
    have b1' : V.cell? ⟨w.heap.size, 1, none⟩ = some (.int .i64 7) := b1
    show Calls Tryz.prog 87 #[.pointer (some ⟨p.rb, 0, none⟩), .agg #[.int .i64 0, .int .i64 7, .bool false]] w fun e w' => e = .returned (.int .i64 0) ∧ Below w.heap.size w w'
    have hV' : w.alloc (.cells #[.int .i64 0, .int .i64 7, .bool false] 100) = V := hV
    clear h hVr hrV hsV hbV h7 hk b1 hV HRe
    go_enter Tryz.func87, Tryz.ntmps87
    go_wp2_with (go_at_call 67; refine HR7.out.mono ?_; rintro e w1 ⟨rfl, hb1⟩; have Hb1 := Lib.hid (below_then HbV.out hb1); clear hb1)
    go_ret
    exact ⟨rfl, Hb1.out⟩
set_option maxRecDepth 100000 in
set_option maxHeartbeats 4000000 in
theorem begins_no (p : RdP) (k : Nat) (c : Int) (ov : Value) (w : World) (h : Rd w p ov) (hk : k ≤ 7) (hc : (seeV k == c) = false) :
    Calls Tryz.prog 68 #[.pointer (some ⟨p.rb, 0, none⟩), plc k, .int .i64 c] w fun e w' => e = .returned (.bool false) ∧ Below w.heap.size w w' := by
  obtain ⟨V, hV, hbV, hrV, hsV⟩ := box3 w (.int .i64 0) (.int .i64 (k : Int)) (.bool false) 100; have hVr := h.below hbV; have HBx : Hid (∀ W, Below V.heap.size V W → W.cell? ⟨w.heap.size, 0, none⟩ = some (.int .i64 0) ∧ W.cell? ⟨w.heap.size, 1, none⟩ = some (.int .i64 (k : Int)) ∧ W.cell? ⟨w.heap.size, 2, none⟩ = some (.bool false) ∧ Below w.heap.size w W) := fun W hW => (by have h1 := (hW.block _ (by omega)).trans hrV; exact ⟨Lib.cell_of_heap h1 0, Lib.cell_of_heap h1 1, Lib.cell_of_heap h1 2, below_then hbV hW⟩); obtain ⟨b0, b1, b2, _⟩ := HBx.out V (Below.refl _ _); have HRe : Hid (∀ W, Below V.heap.size V W → Calls Tryz.prog 67 #[.pointer (some ⟨p.rb, 0, none⟩), plc k] W fun e w' => e = .returned (restV p k) ∧ Below V.heap.size V w') := fun W hW => (rest_any p k ov W (hVr.below hW) hk).mono fun e w' h => ⟨h.1, below_then hW h.2⟩; have HSe : Hid (∀ W, Below V.heap.size V W → Calls Tryz.prog 87 #[.pointer (some ⟨p.rb, 0, none⟩), plc k] W fun e w' => e = .returned (.int .i64 (seeV k)) ∧ Below V.heap.size V w') := fun W hW => (see_any p k ov W (hVr.below hW) hk).mono fun e w' h => ⟨h.1, below_then hW h.2⟩; obtain ⟨sv, hsv⟩ : ∃ z, seeV k = z := ⟨_, rfl⟩; obtain ⟨rv, hrv⟩ : ∃ z, restV p k = z := ⟨_, rfl⟩; rw [hsv] at HSe; rw [hrv] at HRe
  rw [hsv] at hc
  clear h hVr hrV hsV hbV hsv hrv hk
  go_enter Tryz.func68, Tryz.ntmps68
  go_wp2_with (first | (go_at_call 67; refine (HRe.out V (Below.refl _ _)).mono ?_; rintro e w1 ⟨rfl, hb1⟩; obtain ⟨b0', b1', b2', _⟩ := HBx.out w1 hb1; have Hb1 := Lib.hid hb1; clear hb1 b0 b1 b2) | (go_at_call 87; refine (HSe.out w1 Hb1.out).mono ?_; rintro e w2 ⟨rfl, hb2⟩; have Hb2 := Lib.hid hb2; clear hb2))
  go_ret
  exact ⟨rfl, (HBx.out w2 Hb2.out).2.2.2⟩
set_option maxRecDepth 100000 in
set_option maxHeartbeats 4000000 in
theorem question_no (p : RdP) (k : Nat) (ov : Value) (w : World) (h : Rd w p ov) (hk : k ≤ 7) (hc : (seeV k == 63) = false) :
    Calls Tryz.prog 127 #[.pointer (some ⟨p.rb, 0, none⟩), plc k] w fun e w' => e = .returned (.bool false) ∧ Below w.heap.size w w' := by
  obtain ⟨V, hV, hbV, hrV, hsV⟩ := box3 w (.int .i64 0) (.int .i64 (k : Int)) (.bool false) 100; have hVr := h.below hbV; have HBx : Hid (∀ W, Below V.heap.size V W → W.cell? ⟨w.heap.size, 0, none⟩ = some (.int .i64 0) ∧ W.cell? ⟨w.heap.size, 1, none⟩ = some (.int .i64 (k : Int)) ∧ W.cell? ⟨w.heap.size, 2, none⟩ = some (.bool false) ∧ Below w.heap.size w W) := fun W hW => (by have h1 := (hW.block _ (by omega)).trans hrV; exact ⟨Lib.cell_of_heap h1 0, Lib.cell_of_heap h1 1, Lib.cell_of_heap h1 2, below_then hbV hW⟩); obtain ⟨b0, b1, b2, _⟩ := HBx.out V (Below.refl _ _); have HRe : Hid (∀ W, Below V.heap.size V W → Calls Tryz.prog 67 #[.pointer (some ⟨p.rb, 0, none⟩), plc k] W fun e w' => e = .returned (restV p k) ∧ Below V.heap.size V w') := fun W hW => (rest_any p k ov W (hVr.below hW) hk).mono fun e w' h => ⟨h.1, below_then hW h.2⟩; have HSe : Hid (∀ W, Below V.heap.size V W → Calls Tryz.prog 87 #[.pointer (some ⟨p.rb, 0, none⟩), plc k] W fun e w' => e = .returned (.int .i64 (seeV k)) ∧ Below V.heap.size V w') := fun W hW => (see_any p k ov W (hVr.below hW) hk).mono fun e w' h => ⟨h.1, below_then hW h.2⟩; obtain ⟨sv, hsv⟩ : ∃ z, seeV k = z := ⟨_, rfl⟩; obtain ⟨rv, hrv⟩ : ∃ z, restV p k = z := ⟨_, rfl⟩; rw [hsv] at HSe; rw [hrv] at HRe
  rw [hsv] at hc
  clear h hVr hrV hsV hbV hsv hrv hk
  go_enter Tryz.func127, Tryz.ntmps127
  go_wp2_with (first | (go_at_call 67; refine (HRe.out V (Below.refl _ _)).mono ?_; rintro e w1 ⟨rfl, hb1⟩; obtain ⟨b0', b1', b2', _⟩ := HBx.out w1 hb1; have Hb1 := Lib.hid hb1; clear hb1 b0 b1 b2) | (go_at_call 87; refine (HSe.out w1 Hb1.out).mono ?_; rintro e w2 ⟨rfl, hb2⟩; have Hb2 := Lib.hid hb2; clear hb2))
  go_ret
  exact ⟨rfl, (HBx.out w2 Hb2.out).2.2.2⟩
set_option maxRecDepth 100000 in
set_option maxHeartbeats 4000000 in
theorem sign_no (p : RdP) (k k2 : Nat) (hd : Bool) (ov : Value) (w : World) (h : Rd w p ov) (hk : k ≤ 7) (hc : (seeV k != 58) = true) :
    Calls Tryz.prog 130 #[.pointer (some ⟨p.rb, 0, none⟩), plc k, plc k2, .bool hd] w fun e w' => e = .returned (.bool false) ∧ Below w.heap.size w w' := by
  obtain ⟨V, hV, hbV, hrV, hsV⟩ := box3 w (.int .i64 0) (.int .i64 (k : Int)) (.bool false) 100
  obtain ⟨V2, hV2, hbV2, hrV2, hsV2⟩ := box3 V (.int .i64 0) (.int .i64 (k2 : Int)) (.bool false) 100
  have hbb := below_then hbV hbV2
  have hr1 := (hbV2.block w.heap.size (by omega)).trans hrV
  have b0 := Lib.cell_of_heap hr1 0
  have b1 := Lib.cell_of_heap hr1 1
  have b2 := Lib.cell_of_heap hr1 2
  have HSe := Lib.hid (see_any p k ov V2 (h.below hbb) hk)
  obtain ⟨sv, hsv⟩ : ∃ z, seeV k = z := ⟨_, rfl⟩
  rw [hsv] at HSe hc
  have Hbb := Lib.hid hbb
  clear h hk hsv hbV hrV hsV hbV2 hrV2 hsV2 hbb hr1
  go_enter Tryz.func130, Tryz.ntmps130
  go_wp2_with (go_at_call 87; refine HSe.out.mono ?_; rintro e w1 ⟨rfl, hb1⟩; have Hb1 := Lib.hid (below_then Hbb.out hb1); clear hb1)
  go_ret
  exact ⟨rfl, Hb1.out⟩
set_option maxRecDepth 100000 in
set_option maxHeartbeats 4000000 in
theorem to_any (k n m : Nat) (w : World) (hm : k + n = m) (hl : m ≤ 100) :
    Calls Tryz.prog 89 #[plc k, .int .i64 (n : Int)] w fun e w' => e = .returned (plc m) ∧ Below w.heap.size w w' := by
  have hmI : (k : Int) + (n : Int) = (m : Int) := by omega
  have hmw : wrap64 ((k : Int) + (n : Int)) = (m : Int) := by rw [hmI]; exact IntWalk.wrap64_in _ (by omega)
  clear hm
  go_enter Tryz.func89, Tryz.ntmps89
  go_wp2
  have hrow := heap_alloc_new (w.alloc (.cells #[.int .i64 0, .int .i64 (k : Int), .bool false] 100)) (.cells #[.int .i64 0, .int .i64 (m : Int), .bool false] 100)
  have hs : (w.alloc (.cells #[.int .i64 0, .int .i64 (k : Int), .bool false] 100)).heap.size = w.heap.size + 1 := by simp
  rw [hs] at hrow
  refine bodyPost_ret (results_cell_row rfl _ _ (w.heap.size + 1) _ _ (0, 0) _ rfl hrow Tryz.underlying100 rfl (by kernel_rfl)) rfl ?_
  exact ⟨rfl, ((Below.refl _ w).alloc (Nat.le_refl _) _).alloc (by simp) _⟩
theorem nth_drop (l : List Int) (k j : Nat) : nth (l.drop k) j = nth l (k + j) := by simp [nth, List.getD, List.getElem?_drop]
set_option maxRecDepth 100000 in
set_option maxHeartbeats 4000000 in
theorem past_zero (p : RdP) (k : Nat) (ov : Value) (w : World) (h : Rd w p ov) (hk : k ≤ 7) (h0 : pastN (listT.drop k) = 0) (hc : (seeV k == 35) = false) :
    Calls Tryz.prog 66 #[.pointer (some ⟨p.rb, 0, none⟩), plc k] w fun e w' => e = .returned (plc k) ∧ Below w.heap.size w w' := by
  obtain ⟨V, hV, hbV, hrV, hsV⟩ := box3 w (.int .i64 0) (.int .i64 (k : Int)) (.bool false) 100
  obtain ⟨V2, hV2, hbV2, hrV2, hsV2⟩ := box3 V (.int .i64 0) (.int .i64 0) (.bool false) 100
  have hbb := below_then hbV hbV2
  have hVr := h.below hbb
  have HBx : Hid (∀ W, Below V2.heap.size V2 W → W.heap[w.heap.size]? = some (.cells #[.int .i64 0, .int .i64 (k : Int), .bool false] 100 (0, 0)) ∧ W.heap[V.heap.size]? = some (.cells #[.int .i64 0, .int .i64 0, .bool false] 100 (0, 0)) ∧ Below w.heap.size w W) := fun W hW =>
    ⟨(hW.block _ (by omega)).trans ((hbV2.block _ (by omega)).trans hrV), (hW.block _ (by omega)).trans hrV2, below_then hbb hW⟩
  have HBc : Hid (∀ W, Below V2.heap.size V2 W → W.cell? ⟨w.heap.size, 0, none⟩ = some (.int .i64 0) ∧ W.cell? ⟨w.heap.size, 1, none⟩ = some (.int .i64 (k : Int)) ∧ W.cell? ⟨w.heap.size, 2, none⟩ = some (.bool false)) := fun W hW => by
    obtain ⟨h1, _⟩ := HBx.out W hW
    exact ⟨Lib.cell_of_heap h1 0, Lib.cell_of_heap h1 1, Lib.cell_of_heap h1 2⟩
  obtain ⟨b0, b1, b2⟩ := HBc.out V2 (Below.refl _ _)
  have HRe : Hid (∀ W, Below V2.heap.size V2 W → Calls Tryz.prog 67 #[.pointer (some ⟨p.rb, 0, none⟩), plc k] W fun e w' => e = .returned (restV p k) ∧ Below V2.heap.size V2 w') := fun W hW => (rest_any p k ov W (hVr.below hW) hk).mono fun e w' h => ⟨h.1, below_then hW h.2⟩
  have HSe : Hid (∀ W, Below V2.heap.size V2 W → Calls Tryz.prog 87 #[.pointer (some ⟨p.rb, 0, none⟩), plc k] W fun e w' => e = .returned (.int .i64 (seeV k)) ∧ Below V2.heap.size V2 w') := fun W hW => (see_any p k ov W (hVr.below hW) hk).mono fun e w' h => ⟨h.1, below_then hW h.2⟩
  have HPa : Hid (∀ W, Below V2.heap.size V2 W → Calls Tryz.prog 42 #[restV p k] W fun e w' => e = .returned (.int .i64 0) ∧ W = w') := fun W hW => by
    by_cases h7 : k < 7
    · have h1 := Past_any (some ⟨p.tb, k, none⟩) (p.tc - k) (listT.drop k) W (by simp; omega) (fun _ => ⟨p.tb, k, rfl, (hVr.below hW).text.1, fun j hj => by
        have h2 := (hVr.below hW).text.2.2 (k + j) (by simp at hj; omega)
        rw [Nat.zero_add] at h2
        rw [nth_drop]; exact h2⟩)
      rw [h0] at h1
      rw [restV, if_pos h7]
      simpa using h1
    · have h1 := Past_any none 0 [] W (by simp) (fun h => by simp at h)
      rw [restV, if_neg h7]
      exact h1
  obtain ⟨sv, hsv⟩ : ∃ z, seeV k = z := ⟨_, rfl⟩
  obtain ⟨rv, hrv⟩ : ∃ z, restV p k = z := ⟨_, rfl⟩
  rw [hsv] at HSe hc
  rw [hrv] at HRe HPa
  have Hz : Hid (Below V2.heap.size V2 V2.drew) := (Below.refl _ _).drew
  have HVs : Hid (V.heap.size = w.heap.size + 1) := hsV
  have HWk : Hid (IntKind.i64.wrap (k : Int) = (k : Int)) := by show _ = _; rw [IntKind.wrap_i64]; omega
  have hkl : (k : Int) ≤ 7 := by omega
  have hk0 : (0 : Int) ≤ (k : Int) := Int.natCast_nonneg k
  clear h h0 hVr hrV hbV hrV2 hbV2 hbb hsv hrv hsV hsV2
  go_enter Tryz.func66, Tryz.ntmps66
  go_wp2_with fail
  go_region_held3 (fun W => W.cell? ⟨w.heap.size, 0, none⟩ = some (.int .i64 0) ∧ W.cell? ⟨w.heap.size, 1, none⟩ = some (.int .i64 (k : Int)) ∧ W.cell? ⟨w.heap.size, 2, none⟩ = some (.bool false))
    (first | exact HBc.out _ Hz.out | exact HBc.out _ Hb1.out | (rw [HWk.out]; exact HQ.out))
    (first
      | (go_at_call 67; refine (HRe.out _ Hz.out).mono ?_; rintro e w1 ⟨rfl, hb1⟩; have Hb1 := Lib.hid hb1; obtain ⟨q0, q1, q2⟩ := HBc.out w1 hb1; have f1 := Go.Joins.unfrozen_of_block (HBx.out w1 hb1).1 1; have HQ : Hid ((w1.setCell ⟨w.heap.size, 1, none⟩ (.int .i64 (k : Int))).cell? ⟨w.heap.size, 0, none⟩ = some (.int .i64 0) ∧ (w1.setCell ⟨w.heap.size, 1, none⟩ (.int .i64 (k : Int))).cell? ⟨w.heap.size, 1, none⟩ = some (.int .i64 (k : Int)) ∧ (w1.setCell ⟨w.heap.size, 1, none⟩ (.int .i64 (k : Int))).cell? ⟨w.heap.size, 2, none⟩ = some (.bool false)) := (by have hr := Go.Joins.block_setCell (i := 1) (HBx.out w1 hb1).1 (.int .i64 (k : Int)); exact ⟨Lib.cell_of_heap hr 0, Lib.cell_of_heap hr 1, Lib.cell_of_heap hr 2⟩); clear hb1)
      | (go_at_call 42; refine (HPa.out _ Hb1.out).mono ?_; rintro e w' ⟨rfl, rfl⟩))
  try rw [HWk.out]
  obtain ⟨X, hX⟩ : ∃ X, w1.setCell ⟨w.heap.size, 1, none⟩ (.int .i64 (k : Int)) = X := ⟨_, rfl⟩
  have HX : Hid (Below V2.heap.size V2 X) := by
    refine ⟨by rw [← hX]; exact Hb1.out.os, by rw [← hX]; exact Hb1.out.tape, by rw [← hX]; exact Hb1.out.output, by rw [← hX]; simpa using Hb1.out.size, fun b hb => ?_⟩
    by_cases e : b = w.heap.size
    · subst e
      have h1 := Go.Joins.block_setCell (i := 1) (HBx.out w1 Hb1.out).1 (.int .i64 (k : Int))
      rw [hX] at h1
      exact h1.trans (HBx.out V2 (Below.refl _ _)).1.symm
    · rw [← hX]; exact (Below.heap_setCell w1 ⟨w.heap.size, 1, none⟩ _ b e).trans (Hb1.out.block b hb)
  rw [hX]
  clear hX HQ q0 q1 q2 f1 b0 b1 b2
  obtain ⟨b0, b1, b2⟩ := HBc.out X HX.out
  have HXd : Hid (Below V2.heap.size V2 X.drew) := HX.out.drew
  go_wp2_with fail
  refine wp_region_held_drew (S := fun W => W.cell? ⟨w.heap.size, 0, none⟩ = some (.int .i64 0) ∧ W.cell? ⟨w.heap.size, 1, none⟩ = some (.int .i64 (k : Int)) ∧ W.cell? ⟨w.heap.size, 2, none⟩ = some (.bool false)) (by kernel_rfl) ⟨b0, b1, b2⟩ (fun hHeld => ?_)
  refine wpAnyH_take (i := 0) (v := ?_) rfl (by kernel_rfl) (by kernel_rfl) (by kernel_rfl) (fun _ _ _ h => h) (Or.inl ⟨by rfl, ?_⟩) hHeld ?_; rotate_left; (intro W hSw; obtain ⟨_, _, _⟩ := hSw; go_simp; with_reducible rfl); try simp only [Act.put, List.getElem_toArray, List.getElem_cons_zero, List.setIfInBounds_toArray, List.set_cons_zero, List.set_cons_succ]
  refine wpAnyH_take (i := 1) (v := ?_) rfl (by kernel_rfl) (by kernel_rfl) (by kernel_rfl) (fun _ _ _ h => h) (Or.inl ⟨by rfl, ?_⟩) hHeld ?_; rotate_left; (intro W hSw; obtain ⟨_, _, _⟩ := hSw; go_simp; with_reducible rfl); try simp only [Act.put, List.getElem_toArray, List.getElem_cons_succ, List.getElem_cons_zero, List.setIfInBounds_toArray, List.set_cons_zero, List.set_cons_succ]
  clear hHeld
  refine wpAnyH_ready (rs := [2]) (by kernel_rfl) (by simp) (AllReadyH.cons rfl (fun K hK => ?_) .nil)
  have HK := Lib.hid hK
  clear hK
  go_simp
  go_at_call 87
  refine (HSe.out _ HXd.out).mono ?_
  rintro e w3 ⟨rfl, hb3⟩
  have Hb3 := Lib.hid hb3
  obtain ⟨q0, q1, q2⟩ := HBc.out w3 hb3
  clear hb3
  try go_simp
  refine HK.out.out _ _ ⟨q0, q1, q2⟩ (fun hHeld => ?_)
  clear HK
  refine wpAnyH_take (i := 3) (v := ?_) rfl (by kernel_rfl) (by kernel_rfl) (by kernel_rfl) (fun _ _ _ h => h) (Or.inl ⟨by rfl, ?_⟩) hHeld ?_; rotate_left; (intro W hSw; obtain ⟨_, _, _⟩ := hSw; go_simp; with_reducible rfl); try simp only [Act.put, List.getElem_toArray, List.getElem_cons_succ, List.getElem_cons_zero, List.setIfInBounds_toArray, List.set_cons_zero, List.set_cons_succ]
  refine wpAnyH_take (i := 4) (v := ?_) rfl (by kernel_rfl) (by kernel_rfl) (by kernel_rfl) (fun _ _ _ h => h) (Or.inl ⟨by rfl, ?_⟩) hHeld ?_; rotate_left; (intro W hSw; obtain ⟨_, _, _⟩ := hSw; go_simp; with_reducible rfl); try simp only [Act.put, List.getElem_toArray, List.getElem_cons_succ, List.getElem_cons_zero, List.setIfInBounds_toArray, List.set_cons_zero, List.set_cons_succ]
  refine wpAnyH_take (i := 5) (v := undef) rfl (by kernel_rfl) (by kernel_rfl) (by kernel_rfl) (fun _ _ _ h => h) (Or.inr ⟨by rfl, rfl⟩) hHeld ?_; try simp only [Act.put, List.getElem_toArray, List.getElem_cons_succ, List.getElem_cons_zero, List.setIfInBounds_toArray, List.set_cons_zero, List.set_cons_succ]
  refine wpAnyH_take (i := 6) (v := undef) rfl (by kernel_rfl) (by kernel_rfl) (by kernel_rfl) (fun _ _ _ h => h) (Or.inr ⟨by rfl, rfl⟩) hHeld ?_; try simp only [Act.put, List.getElem_toArray, List.getElem_cons_succ, List.getElem_cons_zero, List.setIfInBounds_toArray, List.set_cons_zero, List.set_cons_succ]
  refine wpAnyH_take (i := 7) (v := undef) rfl (by kernel_rfl) (by kernel_rfl) (by kernel_rfl) (fun _ _ _ h => h) (Or.inr ⟨by rfl, rfl⟩) hHeld ?_; try simp only [Act.put, List.getElem_toArray, List.getElem_cons_succ, List.getElem_cons_zero, List.setIfInBounds_toArray, List.set_cons_zero, List.set_cons_succ]
  refine wpAnyH_take (i := 8) (v := undef) rfl (by kernel_rfl) (by kernel_rfl) (by kernel_rfl) (fun _ _ _ h => h) (Or.inr ⟨by rfl, rfl⟩) hHeld ?_; try simp only [Act.put, List.getElem_toArray, List.getElem_cons_succ, List.getElem_cons_zero, List.setIfInBounds_toArray, List.set_cons_zero, List.set_cons_succ]
  refine wpAnyH_take (i := 9) (v := undef) rfl (by kernel_rfl) (by kernel_rfl) (by kernel_rfl) (fun _ _ _ h => h) (Or.inr ⟨by rfl, rfl⟩) hHeld ?_; try simp only [Act.put, List.getElem_toArray, List.getElem_cons_succ, List.getElem_cons_zero, List.setIfInBounds_toArray, List.set_cons_zero, List.set_cons_succ]
  refine wpAnyH_take (i := 10) (v := undef) rfl (by kernel_rfl) (by kernel_rfl) (by kernel_rfl) (fun _ _ _ h => h) (Or.inr ⟨by rfl, rfl⟩) hHeld ?_; try simp only [Act.put, List.getElem_toArray, List.getElem_cons_succ, List.getElem_cons_zero, List.setIfInBounds_toArray, List.set_cons_zero, List.set_cons_succ]
  refine wpAnyH_take (i := 11) (v := undef) rfl (by kernel_rfl) (by kernel_rfl) (by kernel_rfl) (fun _ _ _ h => h) (Or.inr ⟨by rfl, rfl⟩) hHeld ?_; try simp only [Act.put, List.getElem_toArray, List.getElem_cons_succ, List.getElem_cons_zero, List.setIfInBounds_toArray, List.set_cons_zero, List.set_cons_succ]
  refine wpAnyH_take (i := 12) (v := undef) rfl (by kernel_rfl) (by kernel_rfl) (by kernel_rfl) (fun _ _ _ h => h) (Or.inr ⟨by rfl, rfl⟩) hHeld ?_; try simp only [Act.put, List.getElem_toArray, List.getElem_cons_succ, List.getElem_cons_zero, List.setIfInBounds_toArray, List.set_cons_zero, List.set_cons_succ]
  refine wpAnyH_take (i := 13) (v := undef) rfl (by kernel_rfl) (by kernel_rfl) (by kernel_rfl) (fun _ _ _ h => h) (Or.inr ⟨by rfl, rfl⟩) hHeld ?_; try simp only [Act.put, List.getElem_toArray, List.getElem_cons_succ, List.getElem_cons_zero, List.setIfInBounds_toArray, List.set_cons_zero, List.set_cons_succ]
  refine wpAnyH_take (i := 14) (v := undef) rfl (by kernel_rfl) (by kernel_rfl) (by kernel_rfl) (fun _ _ _ h => h) (Or.inr ⟨by rfl, rfl⟩) hHeld ?_; try simp only [Act.put, List.getElem_toArray, List.getElem_cons_succ, List.getElem_cons_zero, List.setIfInBounds_toArray, List.set_cons_zero, List.set_cons_succ]
  refine wpAnyH_take (i := 15) (v := undef) rfl (by kernel_rfl) (by kernel_rfl) (by kernel_rfl) (fun _ _ _ h => h) (Or.inr ⟨by rfl, rfl⟩) hHeld ?_; try simp only [Act.put, List.getElem_toArray, List.getElem_cons_succ, List.getElem_cons_zero, List.setIfInBounds_toArray, List.set_cons_zero, List.set_cons_succ]
  refine wpAnyH_take (i := 16) (v := undef) rfl (by kernel_rfl) (by kernel_rfl) (by kernel_rfl) (fun _ _ _ h => h) (Or.inr ⟨by rfl, rfl⟩) hHeld ?_; try simp only [Act.put, List.getElem_toArray, List.getElem_cons_succ, List.getElem_cons_zero, List.setIfInBounds_toArray, List.set_cons_zero, List.set_cons_succ]
  refine wpAnyH_take (i := 17) (v := undef) rfl (by kernel_rfl) (by kernel_rfl) (by kernel_rfl) (fun _ _ _ h => h) (Or.inr ⟨by rfl, rfl⟩) hHeld ?_; try simp only [Act.put, List.getElem_toArray, List.getElem_cons_succ, List.getElem_cons_zero, List.setIfInBounds_toArray, List.set_cons_zero, List.set_cons_succ]
  refine wpAnyH_take (i := 18) (v := undef) rfl (by kernel_rfl) (by kernel_rfl) (by kernel_rfl) (fun _ _ _ h => h) (Or.inr ⟨by rfl, rfl⟩) hHeld ?_; try simp only [Act.put, List.getElem_toArray, List.getElem_cons_succ, List.getElem_cons_zero, List.setIfInBounds_toArray, List.set_cons_zero, List.set_cons_succ]
  refine wpAnyH_take (i := 19) (v := undef) rfl (by kernel_rfl) (by kernel_rfl) (by kernel_rfl) (fun _ _ _ h => h) (Or.inr ⟨by rfl, rfl⟩) hHeld ?_; try simp only [Act.put, List.getElem_toArray, List.getElem_cons_succ, List.getElem_cons_zero, List.setIfInBounds_toArray, List.set_cons_zero, List.set_cons_succ]
  refine wpAnyH_take (i := 20) (v := undef) rfl (by kernel_rfl) (by kernel_rfl) (by kernel_rfl) (fun _ _ _ h => h) (Or.inr ⟨by rfl, rfl⟩) hHeld ?_; try simp only [Act.put, List.getElem_toArray, List.getElem_cons_succ, List.getElem_cons_zero, List.setIfInBounds_toArray, List.set_cons_zero, List.set_cons_succ]
  refine wpAnyH_take (i := 21) (v := undef) rfl (by kernel_rfl) (by kernel_rfl) (by kernel_rfl) (fun _ _ _ h => h) (Or.inr ⟨by rfl, rfl⟩) hHeld ?_; try simp only [Act.put, List.getElem_toArray, List.getElem_cons_succ, List.getElem_cons_zero, List.setIfInBounds_toArray, List.set_cons_zero, List.set_cons_succ]
  refine wpAnyH_take (i := 22) (v := undef) rfl (by kernel_rfl) (by kernel_rfl) (by kernel_rfl) (fun _ _ _ h => h) (Or.inr ⟨by rfl, rfl⟩) hHeld ?_; try simp only [Act.put, List.getElem_toArray, List.getElem_cons_succ, List.getElem_cons_zero, List.setIfInBounds_toArray, List.set_cons_zero, List.set_cons_succ]
  refine wpAnyH_take (i := 23) (v := undef) rfl (by kernel_rfl) (by kernel_rfl) (by kernel_rfl) (fun _ _ _ h => h) (Or.inr ⟨by rfl, rfl⟩) hHeld ?_; try simp only [Act.put, List.getElem_toArray, List.getElem_cons_succ, List.getElem_cons_zero, List.setIfInBounds_toArray, List.set_cons_zero, List.set_cons_succ]
  refine wpAnyH_take (i := 24) (v := ?_) rfl (by kernel_rfl) (by kernel_rfl) (by kernel_rfl) (fun _ _ _ h => h) (Or.inl ⟨by rfl, ?_⟩) hHeld ?_; rotate_left; (intro W hSw; obtain ⟨_, _, _⟩ := hSw; go_simp; with_reducible rfl); try simp only [Act.put, List.getElem_toArray, List.getElem_cons_succ, List.getElem_cons_zero, List.setIfInBounds_toArray, List.set_cons_zero, List.set_cons_succ]
  refine wpAnyH_done (by kernel_rfl) ?_ _
  have c0 := Lib.cell_of_heap (HBx.out w3 Hb3.out).2.1 0
  have c1 := Lib.cell_of_heap (HBx.out w3 Hb3.out).2.1 1
  have c2 := Lib.cell_of_heap (HBx.out w3 Hb3.out).2.1 2
  have g0 := Go.Joins.unfrozen_of_block (HBx.out w3 Hb3.out).2.1 0
  have g1 := Go.Joins.unfrozen_of_block (HBx.out w3 Hb3.out).2.1 1
  have g2 := Go.Joins.unfrozen_of_block (HBx.out w3 Hb3.out).2.1 2
  have hw9 := Go.Joins.block_setCell (i := 2) (Go.Joins.block_setCell (i := 1) (Go.Joins.block_setCell (i := 0) (HBx.out w3 Hb3.out).2.1 (.int .i64 0)) (.int .i64 (k : Int))) (.bool false)
  have hb9 := (((HBx.out w3 Hb3.out).2.2.setCell (p := ⟨V.heap.size, 0, none⟩) (show w.heap.size ≤ V.heap.size by have := HVs.out; omega) (.int .i64 0)).setCell (p := ⟨V.heap.size, 1, none⟩) (show w.heap.size ≤ V.heap.size by have := HVs.out; omega) (.int .i64 (k : Int))).setCell (p := ⟨V.heap.size, 2, none⟩) (show w.heap.size ≤ V.heap.size by have := HVs.out; omega) (.bool false)
  have Hw9 := Lib.hid hw9
  have Hb9 := Lib.hid hb9
  clear hw9 hb9
  go_wp2_with fail
  refine bodyPost_ret (results_cell_row rfl _ _ V.heap.size _ _ (0, 0) _ rfl Hw9.out Tryz.underlying100 rfl (by kernel_rfl)) rfl ?_
  exact ⟨rfl, Hb9.out⟩
end Go.Proofs.YtiblamapjekdeaaGreat
