/- How deep each event stands, handed one by one to a body that keeps the most. Condition: a row of at most 100000 events. -/
import Derived.Test.YtmlghkkbkgfjmaaEvR
import Derived.Test.YtmlghkkbkgfjmaaRange
import Derived.BigGuardIn
import Derived.Maps.AppendAt
namespace Go.Proofs.Ytmlghkkbkgfjmaa
open Go.RowKit Go.Shelf
attribute [local go_sem] Oper.semAt_some
def levN (L : List Ev) (i : Nat) : Int := Ev.lev 0 ((kinds L).take i)
def topN (L : List Ev) (i : Nat) : Int := Ev.top 0 ((kinds L).take i)
/-- How deep an event stands (one that begins or ends a collection stands in it). -/
def deepN (L : List Ev) (i : Nat) : Int := if Ev.opens (evs L i).kind then levN L i + 1 else levN L i
theorem kinds_take {L : List Ev} {k : Nat} (h : k < L.length) : (kinds L).take (k + 1) = (kinds L).take k ++ [(evs L k).kind] := by
  rw [evs_eq h, kinds, List.take_succ_eq_append_getElem (by simpa using h)]; simp
theorem topN_next {L : List Ev} {k : Nat} (h : k < L.length) : topN L (k + 1) = max (topN L k) (deepN L k) := by
  rw [topN, kinds_take h, Ev.top_snoc]; rfl
theorem levN_next {L : List Ev} {k : Nat} (h : k < L.length) : levN L (k + 1) = if Ev.closes (evs L k).kind then deepN L k - 1 else deepN L k := by
  rw [levN, kinds_take h, Ev.lev_append]
  simp only [Ev.lev, Ev.step, deepN, levN]
  by_cases ho : Ev.opens (evs L k).kind = true
  · have hc : ¬ Ev.closes (evs L k).kind = true := by
      simp only [Ev.opens, Ev.closes, Bool.or_eq_true, beq_iff_eq] at ho ⊢; omega
    rw [if_pos ho, if_neg hc, if_pos ho]
  · rw [if_neg ho, if_neg ho]
theorem lev_bound (l : List Int) : ∀ d, d - l.length ≤ Ev.lev d l ∧ Ev.lev d l ≤ d + l.length := by
  induction l with
  | nil => intro d; simp [Ev.lev]
  | cons x l ih =>
    intro d
    have h := ih (Ev.step d x)
    have hs : d - 1 ≤ Ev.step d x ∧ Ev.step d x ≤ d + 1 := by unfold Ev.step; split; omega; split <;> omega
    simp only [Ev.lev, List.length_cons]
    omega
theorem top_bound (l : List Int) : ∀ d, d ≤ Ev.top d l ∧ Ev.top d l ≤ d + l.length := by
  induction l with
  | nil => intro d; simp [Ev.top]
  | cons x l ih =>
    intro d
    have h := ih (Ev.step d x)
    have hs : Ev.step d x ≤ d + 1 := by unfold Ev.step; split; omega; split <;> omega
    simp only [Ev.top, List.length_cons]
    omega
theorem levN_bound (L : List Ev) (k : Nat) : -(L.length : Int) ≤ levN L k ∧ levN L k ≤ L.length := by
  have h := lev_bound ((kinds L).take k) 0
  have hl : ((kinds L).take k).length ≤ L.length := by simp [kinds]; omega
  rw [levN]; omega
theorem topN_bound (L : List Ev) (k : Nat) : 0 ≤ topN L k ∧ topN L k ≤ L.length := by
  have h := top_bound ((kinds L).take k) 0
  have hl : ((kinds L).take k).length ≤ L.length := by simp [kinds]; omega
  rw [topN]; omega
theorem deepN_bound (L : List Ev) (k : Nat) : -(L.length : Int) ≤ deepN L k ∧ deepN L k ≤ L.length + 1 := by
  have h := levN_bound L k
  rw [deepN]; split <;> omega
theorem Calm.grown {B : Nat} {V : World} {row : Option Nat} (hn : V.heap.size ≤ B) : Calm B (fun W => V.grownBy W row) := fun W l o o' hl h _ hs =>
  ⟨hs.os, hs.tape, hs.output, by simpa using hs.size, fun k hk hne => (World.putObj_heap_other (by omega)).trans (hs.block k hk hne)⟩
theorem Calm.frozen {B : Nat} {a : Addr} {v : Value} : Calm B (fun W => W.cell? a = some v ∧ W.frozen? a = false) := fun W l o o' hl h hc hs => by
  obtain ⟨o2, ho2, hc2⟩ := cells_of_cell hs.1
  have hne : a.block ≠ l := by rintro rfl; rw [h] at ho2; cases ho2; rw [hc] at hc2; cases hc2
  exact ⟨(World.cell?_of_block (World.putObj_heap_other hne)).trans hs.1, (World.frozen?_of_block (World.putObj_heap_other hne)).trans hs.2⟩
/-- The world at an event: the most so far lies in the block m; nothing else that was there has turned. -/
def DInv (L : List Ev) (V : World) (m i : Nat) (W : World) : Prop := V.grownBy W (some m) ∧ W.cell? ⟨m, 0, none⟩ = some (.int .i64 (topN L i)) ∧ W.frozen? ⟨m, 0, none⟩ = false
theorem Calm.dinv {B : Nat} {L : List Ev} {V : World} {m i : Nat} (hn : V.heap.size ≤ B) : Calm B (DInv L V m i) := (Calm.grown hn).and Calm.frozen
theorem deeps_any (A : Option Addr) (n c : Nat) (i : Int) (w : World) : Calls Try.prog 19 #[.slice A n c, .int .i64 i] w fun e w' =>
    e = .returned (.func (.func 23) #[] #[.pointer (some ⟨w.heap.size + 1, 0, none⟩), .pointer (some ⟨w.heap.size, 0, none⟩)]) ∧ (w.alloc (.cells #[.slice A n c] 22)).alloc (.cells #[.int .i64 i] 3) = w' := by
  go_enter Try.func19, Try.ntmps19
  go_wp2
  go_ret
  exact ⟨rfl, rfl⟩
theorem undef_no {b : Bool} (h : some undef = some (Value.bool b)) : False := by cases h
set_option maxRecDepth 100000 in
set_option maxHeartbeats 2000000 in
theorem deepsIter (A : Option Addr) (c : Nat) (L : List Ev) (lp B1 B2 m : Nat) (V W : World) (hl : L.length ≤ 100000) (hV : DInv L V m 0 W)
    (hb1 : V.cell? ⟨B1, 0, none⟩ = some (.int .i64 0)) (hb2 : V.cell? ⟨B2, 0, none⟩ = some (.slice A L.length c)) (h1m : B1 ≠ m) (h2m : B2 ≠ m) (hE : EvsAt V m A L)
    (Bk : World → Prop)
    (hY : ∀ i W1, i < L.length → DInv L V m i W1 → Bk W1 → YieldAt Fence.wide (3 - 1 - 1) Try.prog lp #[.int .i64 (i : Int), .int .i64 (deepN L i)] W1 fun e W' => e = .returned (.bool true) ∧ DInv L V m (i + 1) W' ∧ Bk W')
    (hk : Bk W) :
    CallsIn Fence.wide (3 - 1) Try.prog 23 #[.func (.yield lp) #[] #[], .pointer (some ⟨B1, 0, none⟩), .pointer (some ⟨B2, 0, none⟩)] W fun e W' => (∃ v, e = .returned v) ∧ DInv L V m L.length W' ∧ Bk W' := by
  refine callsIn_of_wp Try.func23 rfl trivial ?_ rfl
  simp only [Try.ntmps23, List.size_toArray, List.length_cons, List.length_nil, Nat.reduceAdd, Nat.reduceSub, Array.replicate_succ, Array.replicate_zero, List.push_toArray, List.append_toArray, List.nil_append, List.cons_append]
  have hb1w := hV.1.cell hb1 (by simpa using h1m)
  gi_wp2
  gi_loopw [4, 5] (fun d i wr => ∃ k : Nat, k ≤ L.length ∧ i = .int .i64 k ∧ d = .int .i64 (levN L k) ∧ Hid (DInv L V m k wr) ∧ Bk wr) (fun _ i _ => L.length - (intOf i).toNat)
  case atStart => exact ⟨0, Nat.zero_le _, rfl, rfl, hV, hk⟩
  case round =>
    obtain ⟨k, hk, rfl, rfl, HD, hbk⟩ := hrel
    have hb2r := HD.out.1.cell hb2 (by simpa using h2m)
    by_cases hlt : k < L.length
    · obtain ⟨b, off, rfl, hbw, hc⟩ := hE (by omega)
      have hne : some b ≠ some m := by simp; omega
      have hck := HD.out.1.cell (hc k hlt).c0 hne
      have HC := Lib.hid (hc k hlt).c0
      have hlt' : (k : Int) < (L.length : Int) := by omega
      have HB2 := Lib.hid hb2
      clear hc hb1 hb2 hb1w hV
      have hlb := levN_bound L k
      have hn := levN_next hlt
      have hdn : deepN L k = if Ev.opens (evs L k).kind then levN L k + 1 else levN L k := rfl
      have hYk := hY k wr hlt HD.out hbk
      obtain ⟨x, hx⟩ : ∃ x, (evs L k).kind = x := ⟨_, rfl⟩
      rw [hx] at hck hn hdn HC
      obtain ⟨lv, hlv⟩ : ∃ lv, levN L k = lv := ⟨_, rfl⟩
      have hx3 : (x = 3 ∨ x = 5) ∨ (x = 4 ∨ x = 6) ∨ (¬ x = 3 ∧ ¬ x = 5 ∧ ¬ x = 4 ∧ ¬ x = 6) := by omega
      have hne' : b ≠ m := by omega
      rcases hx3 with h3 | h4 | ⟨e3, e5, e4, e6⟩
      · have ho : Ev.opens x = true := by rcases h3 with rfl | rfl <;> rfl
        have hcl : Ev.closes x = false := by rcases h3 with rfl | rfl <;> rfl
        have hob : (x == 3 || x == 5) = true := by rcases h3 with rfl | rfl <;> rfl
        have hcb : (x == 4 || x == 6) = false := by rcases h3 with rfl | rfl <;> rfl
        rw [ho] at hdn
        rw [hcl] at hn
        simp only [Bool.false_eq_true, if_false, if_true] at hdn hn
        rw [hdn] at hn hYk
        rw [hlv] at hYk hn hlb
        have HN := Lib.hid hn
        clear hn hdn hx h3 ho hcl
        obtain ⟨fn, tmps, assign, body, hy, hR⟩ := hYk
        rw [hlv]
        gi_wp2_with (first | (refine ⟨trivial, ?_⟩; gi_at_call 20; refine (callsIn_wide.2 (opens_any _ _)).mono ?_; rintro e w2 ⟨rfl, rfl⟩) | (refine ⟨trivial, ?_⟩; gi_at_call 24; refine (callsIn_wide.2 (closes_any _ _)).mono ?_; rintro e w2 ⟨rfl, rfl⟩))
        refine hR.mono ?_
        rintro e W3 ⟨rfl, hD3, hk3⟩
        have hc3 := hD3.1.cell HC.out hne
        have hb3 := hD3.1.cell HB2.out (by simpa using h2m)
        have HD3 := Lib.hid hD3
        clear hD3 hck hb2r
        gi_wp2_with (first | (refine ⟨trivial, ?_⟩; gi_at_call 20; refine (callsIn_wide.2 (opens_any _ _)).mono ?_; rintro e w2 ⟨rfl, rfl⟩) | (refine ⟨trivial, ?_⟩; gi_at_call 24; refine (callsIn_wide.2 (closes_any _ _)).mono ?_; rintro e w2 ⟨rfl, rfl⟩))
        go_roundw
        case rel => exact ⟨k + 1, by omega, by go_num, by rw [HN.out], HD3, hk3⟩
        case measure => simp [intOf]; omega
      · have ho : Ev.opens x = false := by rcases h4 with rfl | rfl <;> rfl
        have hcl : Ev.closes x = true := by rcases h4 with rfl | rfl <;> rfl
        have hob : (x == 3 || x == 5) = false := by rcases h4 with rfl | rfl <;> rfl
        have hcb : (x == 4 || x == 6) = true := by rcases h4 with rfl | rfl <;> rfl
        rw [ho] at hdn
        rw [hcl] at hn
        simp only [Bool.false_eq_true, if_false, if_true] at hdn hn
        rw [hdn] at hn hYk
        rw [hlv] at hYk hn hlb
        have HN := Lib.hid hn
        clear hn hdn hx h4 ho hcl
        obtain ⟨fn, tmps, assign, body, hy, hR⟩ := hYk
        rw [hlv]
        gi_wp2_with (first | (refine ⟨trivial, ?_⟩; gi_at_call 20; refine (callsIn_wide.2 (opens_any _ _)).mono ?_; rintro e w2 ⟨rfl, rfl⟩) | (refine ⟨trivial, ?_⟩; gi_at_call 24; refine (callsIn_wide.2 (closes_any _ _)).mono ?_; rintro e w2 ⟨rfl, rfl⟩))
        refine hR.mono ?_
        rintro e W3 ⟨rfl, hD3, hk3⟩
        have hc3 := hD3.1.cell HC.out hne
        have hb3 := hD3.1.cell HB2.out (by simpa using h2m)
        have HD3 := Lib.hid hD3
        clear hD3 hck hb2r
        gi_wp2_with (first | (refine ⟨trivial, ?_⟩; gi_at_call 20; refine (callsIn_wide.2 (opens_any _ _)).mono ?_; rintro e w2 ⟨rfl, rfl⟩) | (refine ⟨trivial, ?_⟩; gi_at_call 24; refine (callsIn_wide.2 (closes_any _ _)).mono ?_; rintro e w2 ⟨rfl, rfl⟩))
        go_roundw
        case rel => exact ⟨k + 1, by omega, by go_num, by rw [HN.out], HD3, hk3⟩
        case measure => simp [intOf]; omega
      · have ho : Ev.opens x = false := by simp [Ev.opens, e3, e5]
        have hcl : Ev.closes x = false := by simp [Ev.closes, e4, e6]
        have hob : (x == 3 || x == 5) = false := by simp [e3, e5]
        have hcb : (x == 4 || x == 6) = false := by simp [e4, e6]
        rw [ho] at hdn
        rw [hcl] at hn
        simp only [Bool.false_eq_true, if_false] at hdn hn
        rw [hdn] at hn hYk
        rw [hlv] at hYk hn hlb
        have HN := Lib.hid hn
        clear hn hdn hx ho hcl
        obtain ⟨fn, tmps, assign, body, hy, hR⟩ := hYk
        rw [hlv]
        gi_wp2_with (first | (refine ⟨trivial, ?_⟩; gi_at_call 20; refine (callsIn_wide.2 (opens_any _ _)).mono ?_; rintro e w2 ⟨rfl, rfl⟩) | (refine ⟨trivial, ?_⟩; gi_at_call 24; refine (callsIn_wide.2 (closes_any _ _)).mono ?_; rintro e w2 ⟨rfl, rfl⟩))
        refine hR.mono ?_
        rintro e W3 ⟨rfl, hD3, hk3⟩
        have hc3 := hD3.1.cell HC.out hne
        have hb3 := hD3.1.cell HB2.out (by simpa using h2m)
        have HD3 := Lib.hid hD3
        clear hD3 hck hb2r
        gi_wp2_with (first | (refine ⟨trivial, ?_⟩; gi_at_call 20; refine (callsIn_wide.2 (opens_any _ _)).mono ?_; rintro e w2 ⟨rfl, rfl⟩) | (refine ⟨trivial, ?_⟩; gi_at_call 24; refine (callsIn_wide.2 (closes_any _ _)).mono ?_; rintro e w2 ⟨rfl, rfl⟩))
        go_roundw
        case rel => exact ⟨k + 1, by omega, by go_num, by rw [HN.out], HD3, hk3⟩
        case measure => simp [intOf]; omega
    · gi_wp2
      go_end0
      obtain rfl : k = L.length := by omega
      exact ⟨⟨_, rfl⟩, HD.out, hbk⟩
end Go.Proofs.Ytmlghkkbkgfjmaa
