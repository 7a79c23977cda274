/- The reference's reader at the example: on. Condition: the reader stands at the example's line. -/
import Derived.Test.YtiblamapjekdeaaGreatKd
import Derived.Lib.SlBytesRow
import Derived.Laws.ResultCell
namespace Go.Proofs.YtiblamapjekdeaaGreat
open Go.RowKit
attribute [local go_sem] Oper.semAt_some
theorem Rd.flt {W : World} {p : RdP} {ov : Value} (h : Rd W p ov) : W.cell? ⟨p.rb, 3, none⟩ = some (.int .i64 0) := Lib.cell_of_heap h.row 3
set_option maxRecDepth 100000 in
set_option maxHeartbeats 4000000 in
theorem on_any (p : RdP) (k m : Nat) (ov : Value) (w : World) (h : Rd w p ov) (hm : m < 7)
    (hp : ∀ W, Rd W p ov → Calls Tryz.prog 66 #[.pointer (some ⟨p.rb, 0, none⟩), plc k] W fun e w' => e = .returned (plc m) ∧ Below W.heap.size W w') :
    Calls Tryz.prog 117 #[.pointer (some ⟨p.rb, 0, none⟩), plc k] w fun e w' => e = .returned (plc m) ∧ Below w.heap.size w w' := by
  obtain ⟨V, hV, hbV, hrV, hsV⟩ := box3 w (.int .i64 0) (.int .i64 (k : Int)) (.bool false) 100
  obtain ⟨V2, hV2, hbV2, hrV2, hsV2⟩ := box3 V (.int .i64 0) (.int .i64 0) (.bool false) 100
  have hbb := below_then hbV hbV2
  have hVr := h.below hbb
  have hro := (hbV2.block _ (by omega)).trans hrV
  have b0 := Lib.cell_of_heap hro 0
  have b1 := Lib.cell_of_heap hro 1
  have b2 := Lib.cell_of_heap hro 2
  have r3 := hVr.flt
  have HX : Hid (∀ w1, Below V2.heap.size V2 w1 → ∃ X, ((w1.setCell ⟨w.heap.size, 0, none⟩ (.int .i64 0)).setCell ⟨w.heap.size, 1, none⟩ (.int .i64 (m : Int))).setCell ⟨w.heap.size, 2, none⟩ (.bool false) = X ∧ Below w.heap.size w X ∧ X.heap[w.heap.size]? = some (.cells #[.int .i64 0, .int .i64 (m : Int), .bool false] 100 (0, 0)) ∧ X.heap[V.heap.size]? = some (.cells #[.int .i64 0, .int .i64 0, .bool false] 100 (0, 0))) := fun w1 hb1 => by
    have h1 := (hb1.block w.heap.size (by omega)).trans hro
    have h2 := (hb1.block V.heap.size (by omega)).trans hrV2
    refine ⟨_, rfl, (((below_then hbb hb1).setCell (p := ⟨w.heap.size, 0, none⟩) (Nat.le_refl _) _).setCell (p := ⟨w.heap.size, 1, none⟩) (Nat.le_refl _) _).setCell (p := ⟨w.heap.size, 2, none⟩) (Nat.le_refl _) _, Go.Joins.block_setCell (i := 2) (Go.Joins.block_setCell (i := 1) (Go.Joins.block_setCell (i := 0) h1 (.int .i64 0)) (.int .i64 (m : Int))) (.bool false), ?_⟩
    have hne : V.heap.size ≠ w.heap.size := by omega
    rw [Below.heap_setCell _ ⟨w.heap.size, 2, none⟩ _ _ hne, Below.heap_setCell _ ⟨w.heap.size, 1, none⟩ _ _ hne, Below.heap_setCell _ ⟨w.heap.size, 0, none⟩ _ _ hne]
    exact h2
  have HG : Hid (∀ w1, Below V2.heap.size V2 w1 → ∀ i, w1.frozen? ⟨w.heap.size, i, none⟩ = false) := fun w1 hb1 i => Go.Joins.unfrozen_of_block ((hb1.block w.heap.size (by omega)).trans hro) i
  have Hp := Lib.hid (hp V2 hVr)
  have HC : Hid (∀ w1, Below V2.heap.size V2 w1 → w1.cell? ⟨w.heap.size, 0, none⟩ = some (.int .i64 0) ∧ w1.cell? ⟨w.heap.size, 1, none⟩ = some (.int .i64 (k : Int)) ∧ w1.cell? ⟨w.heap.size, 2, none⟩ = some (.bool false)) := fun w1 hb1 => (by have h1 := (hb1.block w.heap.size (by omega)).trans hro; exact ⟨Lib.cell_of_heap h1 0, Lib.cell_of_heap h1 1, Lib.cell_of_heap h1 2⟩)
  have HR : Hid (∀ W, Below w.heap.size w W → Calls Tryz.prog 67 #[.pointer (some ⟨p.rb, 0, none⟩), plc m] W fun e w' => e = .returned (restV p m) ∧ Below W.heap.size W w') := fun W hW => rest_any p m ov W (h.below hW) (by omega)
  obtain ⟨n, hn⟩ : ∃ n, 7 - m = n := ⟨_, rfl⟩
  have hn0 : (0 : Int) < (n : Int) := by omega
  have hrv : restV p m = .slice (some ⟨p.tb, m, none⟩) n (p.tc - m) := by rw [restV, if_pos hm, hn]
  rw [hrv] at HR
  have HVs : Hid (w.heap.size ≤ V.heap.size) := hbV.size
  clear h hp hVr hrV hrV2 hbV hbV2 hbb hro hsV hsV2 hrv hn hm
  go_enter Tryz.func117, Tryz.ntmps117
  go_wp2_with fail
  go_loopw [5] (fun j wr => j = undef ∧ wr = V2) (fun _ _ => 0)
  case atStart => exact ⟨rfl, by subst hV2; subst hV; rfl⟩
  case round =>
    obtain ⟨rfl, rfl⟩ := hrel
    go_wp2_with (first
      | (go_at_call 66; refine Hp.out.mono ?_; rintro e w1 ⟨rfl, hb1⟩; have g0 := HG.out w1 hb1 0; have g1 := HG.out w1 hb1 1; have g2 := HG.out w1 hb1 2; obtain ⟨c0, c1, c2⟩ := HC.out w1 hb1; have Hb1 := Lib.hid hb1; clear hb1)
      | (go_at_call 67; obtain ⟨X, hX, hXw, hXr, hXz⟩ := HX.out w1 Hb1.out; rw [hX]; refine (HR.out _ hXw).mono ?_; rintro e w2 ⟨rfl, hb2⟩; have h1 := (hb2.block _ (Array.getElem?_eq_some_iff.1 hXr).1).trans hXr; have h2 := (hb2.block _ (Array.getElem?_eq_some_iff.1 hXz).1).trans hXz; have d0 := Lib.cell_of_heap h1 0; have d1 := Lib.cell_of_heap h1 1; have d2 := Lib.cell_of_heap h1 2; have e0 := Lib.cell_of_heap h2 0; have e1 := Lib.cell_of_heap h2 1; have e2 := Lib.cell_of_heap h2 2; have g0' := Go.Joins.unfrozen_of_block h2 0; have g1' := Go.Joins.unfrozen_of_block h2 1; have g2' := Go.Joins.unfrozen_of_block h2 2; have Hw9 := Lib.hid (Go.Joins.block_setCell (i := 2) (Go.Joins.block_setCell (i := 1) (Go.Joins.block_setCell (i := 0) h2 (.int .i64 0)) (.int .i64 (m : Int))) (.bool false)); have Hb9 := Lib.hid ((((below_then hXw hb2).setCell (p := ⟨V.heap.size, 0, none⟩) HVs.out (.int .i64 0)).setCell (p := ⟨V.heap.size, 1, none⟩) HVs.out (.int .i64 (m : Int))).setCell (p := ⟨V.heap.size, 2, none⟩) HVs.out (.bool false)); clear hX hXw hXr hXz hb2 h1 h2))
    refine bodyPost_ret (results_cell_row rfl _ _ V.heap.size _ _ (0, 0) _ rfl Hw9.out Tryz.underlying100 rfl (by kernel_rfl)) rfl ?_
    exact ⟨rfl, Hb9.out⟩
end Go.Proofs.YtiblamapjekdeaaGreat
/- The reference's Anchor of a text that begins with one letter. No condition beyond the text. -/
namespace Go.Proofs.YtiblamapjekdeaaGreat
open Go.RowKit
attribute [local go_sem] Oper.semAt_some
theorem bytes_at {W : World} {g : Nat} {s : ByteArray} {l : List Int} (hl : l = s.data.toList.map fun b => (b.toNat : Int)) (h : ∀ k (hk : k < l.length), W.cell? ⟨g, k, none⟩ = some (.int .u8 l[k])) : Lib.Bytes W g 0 s := by
  intro i hi
  subst hl
  have h1 := h i (by simpa using hi)
  rw [Nat.zero_add, h1]
  simp
  rfl
theorem enc97 : encL [97] = [97] := by decide
set_option maxRecDepth 100000 in
set_option maxHeartbeats 4000000 in
theorem Anchor_a (b o n c : Nat) (w : World) (hn : 0 < n) (hn7 : n ≤ 7) (hc : n ≤ c) (hb : b < w.heap.size) (h0 : w.cell? ⟨b, o, none⟩ = some (.int .i64 97)) (h1 : 1 < n → ∃ x, w.cell? ⟨b, o + 1, none⟩ = some (.int .i64 x) ∧ nameB x = false) :
    Calls Tryz.prog 94 #[.slice (some ⟨b, o, none⟩) n c] w fun e w' => e = .returned (.tuple #[.string ⟨#[97]⟩, .int .i64 1, .bool true]) ∧ Below w.heap.size w w' := by
  have HBy : Hid (Calls Tryz.prog 82 #[.slice (some ⟨b, o, none⟩) 1 c] w (PutR w w.heap.size (encL [97]))) := Bytes_any (some ⟨b, o, none⟩) c [97] w (by simp) (fun _ => ⟨b, o, rfl, hb, fun k hk => by
    obtain rfl : k = 0 := by simpa using hk
    exact h0⟩)
  rw [enc97] at HBy
  have HN := Lib.hid RName_any
  have n97 : nameB 97 = true := by decide
  have hnI : (0 : Int) < (n : Int) := by omega
  have hcI : (1 : Int) ≤ (c : Int) := by omega
  clear hb
  go_enter Tryz.func94, Tryz.ntmps94
  go_wp2_with fail
  go_loop [5] (fun i => ∃ k : Nat, k ≤ 1 ∧ i = .int .i64 k) (fun i => 1 - (intOf i).toNat)
  case atStart => exact ⟨0, by omega, rfl⟩
  case round =>
    obtain ⟨k, hk, rfl⟩ := hrel
    by_cases hk0 : k = 0
    · subst hk0
      go_wp2_with (first | (go_at_call 82; refine HBy.out.mono ?_; rintro e w5 ⟨v5, rfl, hb5, hbel⟩; obtain ⟨g, c5, hv5, hcell⟩ := BOwn.cells hb5 (by decide); subst hv5; have hcv : (convert 82 9 (.slice (some ⟨g, 0, none⟩) 1 c5)).run Tryz.prog w5 = .ok (.string ⟨#[97]⟩) w5 := Lib.run_convert_whole (P := Tryz.prog) w5 82 5 9 Tryz.underlying82 Tryz.underlying5 Tryz.underlying9 g 0 ⟨#[97]⟩ (bytes_at (by decide) hcell) c5; have Hb5 := Lib.hid hbel; clear hb5 hbel hcell) | (go_at_call 62; refine (HN.out _ _).mono ?_; rintro e w' ⟨rfl, hw'⟩; subst hw'))
      go_round
      case rel => exact ⟨1, by omega, by go_num⟩
      case measure => simp [intOf]
    · obtain rfl : k = 1 := by omega
      by_cases hlt : 1 < n
      · obtain ⟨x, hx, hnx⟩ := h1 hlt
        have hltI : (1 : Int) < (n : Int) := by omega
        clear hk0 hk h1
        go_wp2_with (first | (go_at_call 82; refine HBy.out.mono ?_; rintro e w5 ⟨v5, rfl, hb5, hbel⟩; obtain ⟨g, c5, hv5, hcell⟩ := BOwn.cells hb5 (by decide); subst hv5; have hcv : (convert 82 9 (.slice (some ⟨g, 0, none⟩) 1 c5)).run Tryz.prog w5 = .ok (.string ⟨#[97]⟩) w5 := Lib.run_convert_whole (P := Tryz.prog) w5 82 5 9 Tryz.underlying82 Tryz.underlying5 Tryz.underlying9 g 0 ⟨#[97]⟩ (bytes_at (by decide) hcell) c5; have Hb5 := Lib.hid hbel; clear hb5 hbel hcell) | (go_at_call 62; refine (HN.out _ _).mono ?_; rintro e w' ⟨rfl, hw'⟩; subst hw'))
        go_ret3
        exact ⟨rfl, Hb5.out⟩
      · have hltI : ¬ (1 : Int) < (n : Int) := by omega
        clear hk0 hk h1
        go_wp2_with (first | (go_at_call 82; refine HBy.out.mono ?_; rintro e w5 ⟨v5, rfl, hb5, hbel⟩; obtain ⟨g, c5, hv5, hcell⟩ := BOwn.cells hb5 (by decide); subst hv5; have hcv : (convert 82 9 (.slice (some ⟨g, 0, none⟩) 1 c5)).run Tryz.prog w5 = .ok (.string ⟨#[97]⟩) w5 := Lib.run_convert_whole (P := Tryz.prog) w5 82 5 9 Tryz.underlying82 Tryz.underlying5 Tryz.underlying9 g 0 ⟨#[97]⟩ (bytes_at (by decide) hcell) c5; have Hb5 := Lib.hid hbel; clear hb5 hbel hcell) | (go_at_call 62; refine (HN.out _ _).mono ?_; rintro e w' ⟨rfl, hw'⟩; subst hw'))
        go_ret3
        exact ⟨rfl, Hb5.out⟩
end Go.Proofs.YtiblamapjekdeaaGreat
/- The reference's reader at the example: prop. Condition: the reader stands at the example's line. -/
namespace Go.Proofs.YtiblamapjekdeaaGreat
open Go.RowKit
attribute [local go_sem] Oper.semAt_some
/-- All as before, but for some blocks. -/
structure Bar (S : Nat → Prop) (w w' : World) : Prop where
  os : w'.os = w.os
  tape : w'.tape = w.tape
  output : w'.output = w.output
  size : w.heap.size ≤ w'.heap.size
  block : ∀ b, b < w.heap.size → ¬ S b → w'.heap[b]? = w.heap[b]?
theorem Bar.of {n : Nat} {S : Nat → Prop} {w w' : World} (h : Below n w w') (hn : ∀ b, b < w.heap.size → ¬ S b → b < n) : Bar S w w' := ⟨h.os, h.tape, h.output, h.size, fun b hb hs => h.block b (hn b hb hs)⟩
theorem Bar.below {n : Nat} {S : Nat → Prop} {w w' : World} (h : Bar S w w') (hn : ∀ b, b < n → b < w.heap.size ∧ ¬ S b) : Below n w w' := ⟨h.os, h.tape, h.output, h.size, fun b hb => h.block b (hn b hb).1 (hn b hb).2⟩
theorem Bar.trans {S T : Nat → Prop} {a b c : World} (h : Bar S a b) (k : Bar T b c) (hT : ∀ x, x < a.heap.size → T x → S x) : Bar S a c :=
  ⟨k.os.trans h.os, k.tape.trans h.tape, k.output.trans h.output, Nat.le_trans h.size k.size, fun x hx hs => (k.block x (Nat.lt_of_lt_of_le hx h.size) fun ht => hs (hT x hx ht)).trans (h.block x hx hs)⟩
theorem Bar.then {S : Nat → Prop} {a b c : World} (h : Bar S a b) (k : Below a.heap.size b c) : Bar S a c :=
  ⟨k.os.trans h.os, k.tape.trans h.tape, k.output.trans h.output, Nat.le_trans h.size k.size, fun x hx hs => (k.block x hx).trans (h.block x hx hs)⟩
theorem Bar.setCell {S : Nat → Prop} {w W : World} {b i : Nat} (h : Bar S w W) (hb : S b) (v : Value) : Bar S w (W.setCell ⟨b, i, none⟩ v) :=
  ⟨h.os, h.tape, h.output, by simpa using h.size, fun x hx hs => (Below.heap_setCell W ⟨b, i, none⟩ v x (fun e => hs (e ▸ hb))).trans (h.block x hx hs)⟩
/-- A place's three cells are stored. -/
theorem put3 {W : World} {r : Nat} {a b c x y z : Value} {t : TypeId} (h : W.heap[r]? = some (.cells #[a, b, c] t (0, 0))) : (((W.setCell ⟨r, 0, none⟩ x).setCell ⟨r, 1, none⟩ y).setCell ⟨r, 2, none⟩ z).heap[r]? = some (.cells #[x, y, z] t (0, 0)) :=
  Go.Joins.block_setCell (i := 2) (Go.Joins.block_setCell (i := 1) (Go.Joins.block_setCell (i := 0) h x) y) z
theorem below_put3 {n : Nat} {w W : World} {r : Nat} {x y z : Value} (h : Below n w W) (hr : n ≤ r) : Below n w (((W.setCell ⟨r, 0, none⟩ x).setCell ⟨r, 1, none⟩ y).setCell ⟨r, 2, none⟩ z) :=
  ((h.setCell (p := ⟨r, 0, none⟩) hr x).setCell (p := ⟨r, 1, none⟩) hr y).setCell (p := ⟨r, 2, none⟩) hr z
theorem heap_put3 {W : World} {r b : Nat} {x y z : Value} (h : b ≠ r) : (((W.setCell ⟨r, 0, none⟩ x).setCell ⟨r, 1, none⟩ y).setCell ⟨r, 2, none⟩ z).heap[b]? = W.heap[b]? := by
  rw [Below.heap_setCell _ ⟨r, 2, none⟩ _ _ h, Below.heap_setCell _ ⟨r, 1, none⟩ _ _ h, Below.heap_setCell _ ⟨r, 0, none⟩ _ _ h]
theorem results_row_tmp {P : Program} {fn : Func} {p u : Tmp} {ty : TypeId} (h : fn.results = #[.cell p ty, .tmp u]) (tmps : Array Value) (w : World) (g : Nat) (t : TypeId) (cs : Array Value) (fr : Nat × Nat) (d : TypeDesc)
    (hp : tmps.getD p undef = .pointer (some ⟨g, 0, none⟩)) (hg : w.heap[g]? = some (.cells cs t fr))
    (hu : P.underlying ty = some d) (hd : (match d with | .struct _ | .array _ _ => true | _ => false) = true) (hi : (P.info? ty).map (·.size) = some cs.size) :
    (results fn tmps).run P w = .ok (.tuple #[.agg cs, tmps.getD u undef]) w := by
  rw [results_cell_tmp h, hp]
  simp [asAddr, Result.andThen, run_loadVar_row w g t ty cs fr d hg hu hd hi]
/-- What the walk wants of a block of three cells. -/
def B3 (W : World) (r : Nat) (a b c : Value) : Prop := W.cell? ⟨r, 0, none⟩ = some a ∧ W.cell? ⟨r, 1, none⟩ = some b ∧ W.cell? ⟨r, 2, none⟩ = some c ∧ W.frozen? ⟨r, 0, none⟩ = false ∧ W.frozen? ⟨r, 1, none⟩ = false ∧ W.frozen? ⟨r, 2, none⟩ = false
theorem B3.of {W : World} {r : Nat} {a b c : Value} {t : TypeId} (h : W.heap[r]? = some (.cells #[a, b, c] t (0, 0))) : B3 W r a b c :=
  ⟨Lib.cell_of_heap h 0, Lib.cell_of_heap h 1, Lib.cell_of_heap h 2, Go.Joins.unfrozen_of_block h 0, Go.Joins.unfrozen_of_block h 1, Go.Joins.unfrozen_of_block h 2⟩
theorem lt_of_row {W : World} {b : Nat} {o : Obj} (h : W.heap[b]? = some o) : b < W.heap.size := (Array.getElem?_eq_some_iff.1 h).1
set_option maxRecDepth 100000 in
set_option maxHeartbeats 4000000 in
theorem prop_no (p : RdP) (k : Nat) (xv ov : Value) (w : World) (h : Rd w p ov) (hk : k ≤ 7) (h1 : (seeV k == 38) = false) (h2 : (seeV k == 33) = false) :
    Calls Tryz.prog 73 #[.pointer (some ⟨p.rb, 0, none⟩), plc k, xv] w fun e w' => e = .returned (.tuple #[plc k, .bool false]) ∧ Below w.heap.size w w' := by
  obtain ⟨V, hV, hbV, hrV, hsV⟩ := box3 w (.int .i64 0) (.int .i64 (k : Int)) (.bool false) 100
  obtain ⟨V2, hV2, hbV2, hrV2, hsV2⟩ := box3 V (.int .i64 0) (.int .i64 0) (.bool false) 100
  have hro := (hbV2.block _ (by omega)).trans hrV
  have HBx : Hid (∀ W, Below V2.heap.size V2 W → B3 W w.heap.size (.int .i64 0) (.int .i64 (k : Int)) (.bool false) ∧ B3 W V.heap.size (.int .i64 0) (.int .i64 0) (.bool false) ∧ W.heap[V.heap.size]? = some (.cells #[.int .i64 0, .int .i64 0, .bool false] 100 (0, 0)) ∧ Below w.heap.size w W) := fun W hW =>
    have e1 := (hW.block _ (by omega)).trans hro
    have e2 := (hW.block _ (by omega)).trans hrV2
    ⟨.of e1, .of e2, e2, below_then (below_then hbV hbV2) hW⟩
  have hVr := h.below (below_then hbV hbV2)
  obtain ⟨⟨b0, b1, b2, _⟩, _⟩ := HBx.out V2 (Below.refl _ _)
  have HRe := Lib.hid (rest_any p k ov V2 hVr hk)
  have HSe : Hid (∀ W, Below V2.heap.size V2 W → Calls Tryz.prog 87 #[.pointer (some ⟨p.rb, 0, none⟩), plc k] W fun e w' => e = .returned (.int .i64 (seeV k)) ∧ Below V2.heap.size V2 w') := fun W hW => (see_any p k ov W (hVr.below hW) hk).mono fun e w' h => ⟨h.1, below_then hW h.2⟩
  obtain ⟨sv, hsv⟩ : ∃ z, seeV k = z := ⟨_, rfl⟩
  obtain ⟨rv, hrv⟩ : ∃ z, restV p k = z := ⟨_, rfl⟩
  rw [hsv] at HSe h1 h2
  rw [hrv] at HRe
  have HVs : Hid (w.heap.size ≤ V.heap.size) := hbV.size
  clear h hVr hro hrV hbV hrV2 hbV2 hsv hrv hsV hsV2 hk
  go_enter Tryz.func73, Tryz.ntmps73
  go_wp2_with (first
    | (go_at_call 67; refine HRe.out.mono ?_; rintro e w1 ⟨rfl, hb1⟩; obtain ⟨⟨c0, c1, c2, _⟩, _⟩ := HBx.out w1 hb1; have Hb1 := Lib.hid hb1; clear hb1)
    | (go_at_call 87; refine (HSe.out _ Hb1.out).mono ?_; rintro e w2 ⟨rfl, hb2⟩; obtain ⟨⟨d0, d1, d2, _⟩, ⟨e0, e1, e2, g0, g1, g2⟩, _⟩ := HBx.out w2 hb2; have Hb2 := Lib.hid hb2; clear hb2))
  obtain ⟨_, _, h3, hb⟩ := HBx.out w2 Hb2.out
  refine bodyPost_ret (results_row_tmp rfl _ _ V.heap.size _ _ (0, 0) _ rfl (put3 h3) Tryz.underlying100 rfl (by kernel_rfl)) rfl ?_
  exact ⟨rfl, below_put3 hb HVs.out⟩
theorem see0 : seeV 0 = 38 := rfl
theorem see1 : seeV 1 = 97 := rfl
theorem see2 : seeV 2 = 32 := rfl
theorem n32 : nameB 32 = false := by decide
/-- A property's row. -/
abbrev prow (a : ByteArray) (s : Bool) : Obj := .cells #[.string a, .string ⟨#[]⟩, .bool s] 103 (0, 0)
set_option maxRecDepth 100000 in
set_option maxHeartbeats 4000000 in
theorem prop_amp (p : RdP) (x : Nat) (ov : Value) (w : World) (h : Rd w p ov) (hx : w.heap[x]? = some (prow ⟨#[]⟩ false)) :
    Calls Tryz.prog 73 #[.pointer (some ⟨p.rb, 0, none⟩), .agg #[.int .i64 0, .int .i64 0, .bool false], .pointer (some ⟨x, 0, none⟩)] w fun e w' => e = .returned (.tuple #[.agg #[.int .i64 0, .int .i64 2, .bool false], .bool true]) ∧ Bar (· = x) w w' ∧ w'.heap[x]? = some (prow ⟨#[97]⟩ true) := by
  obtain ⟨V, hV, hbV, hrV, hsV⟩ := box3 w (.int .i64 0) (.int .i64 0) (.bool false) 100
  obtain ⟨V2, hV2, hbV2, hrV2, hsV2⟩ := box3 V (.int .i64 0) (.int .i64 0) (.bool false) 100
  have hro := (hbV2.block _ (by omega)).trans hrV
  have hxw := lt_of_row hx
  have hxV := ((below_then hbV hbV2).block _ hxw).trans hx
  have HBx : Hid (∀ W, Below V2.heap.size V2 W → B3 W w.heap.size (.int .i64 0) (.int .i64 0) (.bool false) ∧ B3 W x (.string ⟨#[]⟩) (.string ⟨#[]⟩) (.bool false) ∧ W.heap[x]? = some (prow ⟨#[]⟩ false) ∧ W.heap[V.heap.size]? = some (.cells #[.int .i64 0, .int .i64 0, .bool false] 100 (0, 0)) ∧ Below w.heap.size w W) := fun W hW =>
    have e1 := (hW.block _ (by omega)).trans hro
    have e2 := (hW.block _ (by omega)).trans hrV2
    have e3 := (hW.block _ (by omega)).trans hxV
    ⟨.of e1, .of e3, e3, e2, below_then (below_then hbV hbV2) hW⟩
  have hVr := h.below (below_then hbV hbV2)
  obtain ⟨⟨b0, b1, b2, _⟩, _⟩ := HBx.out V2 (Below.refl _ _)
  have htc := hVr.text.2.1
  have hRe := rest_any p 0 ov V2 hVr (by omega)
  rw [restV, if_pos (by omega)] at hRe
  have HRe : Hid (Calls Tryz.prog 67 #[.pointer (some ⟨p.rb, 0, none⟩), .agg #[.int .i64 0, .int .i64 0, .bool false]] V2 fun e w' => e = .returned (.slice (some ⟨p.tb, 0, none⟩) 7 p.tc) ∧ Below V2.heap.size V2 w') := hRe
  have HSe : Hid (∀ W, Below V2.heap.size V2 W → Calls Tryz.prog 87 #[.pointer (some ⟨p.rb, 0, none⟩), .agg #[.int .i64 0, .int .i64 0, .bool false]] W fun e w' => e = .returned (.int .i64 38) ∧ Below V2.heap.size V2 w') := fun W hW => (see_any p 0 ov W (hVr.below hW) (by omega)).mono fun e w' h => ⟨h.1, below_then hW h.2⟩
  have HAn : Hid (∀ W, Below V2.heap.size V2 W → Calls Tryz.prog 94 #[.slice (some ⟨p.tb, 1, none⟩) 6 (p.tc - 1)] W fun e w' => e = .returned (.tuple #[.string ⟨#[97]⟩, .int .i64 1, .bool true]) ∧ Below V2.heap.size V2 w') := fun W hW => (Anchor_a p.tb 1 6 (p.tc - 1) W (by omega) (by omega) (by omega) (hVr.below hW).text.1 ((hVr.below hW).text.2.2 1 (by omega)) (fun _ => ⟨32, (hVr.below hW).text.2.2 2 (by omega), n32⟩)).mono fun e w' h => ⟨h.1, below_then hW h.2⟩
  have HTo : Hid (∀ W, Calls Tryz.prog 89 #[.agg #[.int .i64 0, .int .i64 0, .bool false], .int .i64 2] W fun e w' => e = .returned (.agg #[.int .i64 0, .int .i64 2, .bool false]) ∧ Below W.heap.size W w') := fun W => to_any 0 2 2 W (by omega) (by omega)
  have HVs : Hid (w.heap.size ≤ V.heap.size) := hbV.size
  have hne : ¬ w.heap.size = x := by omega
  have hne2 : ¬ V.heap.size = x := by omega
  have htI : (1 : Int) ≤ (p.tc : Int) := by omega
  have ht7 : (7 : Int) ≤ (p.tc : Int) := by omega
  clear h hRe hVr hro hrV hbV hrV2 hbV2 hsV hsV2 hxV hx htc
  go_enter Tryz.func73, Tryz.ntmps73
  go_wp2_with (first
    | (go_at_call 67; refine HRe.out.mono ?_; rintro e w1 ⟨rfl, hb1⟩; obtain ⟨⟨c0, c1, c2, _⟩, _⟩ := HBx.out w1 hb1; have Hb1 := Lib.hid hb1; clear hb1)
    | (go_at_call 87; refine (HSe.out _ Hb1.out).mono ?_; rintro e w2 ⟨rfl, hb2⟩; have Hb2 := Lib.hid hb2; clear hb2)
    | (go_at_call 94; refine (HAn.out _ Hb2.out).mono ?_; rintro e w3 ⟨rfl, hb3⟩; obtain ⟨⟨d0, d1, d2, _⟩, ⟨e0, e1, e2, g0, g1, g2⟩, _⟩ := HBx.out w3 hb3; have Hb3 := Lib.hid hb3; clear hb3)
    | (go_at_call 89; go_loud (obtain ⟨X, hX⟩ : ∃ X, (w3.setCell ⟨x, 0, none⟩ (.string ⟨#[97]⟩)).setCell ⟨x, 2, none⟩ (.bool true) = X := ⟨_, rfl⟩; rw [hX]; have hXx : X.heap[x]? = some (prow ⟨#[97]⟩ true) := (by rw [← hX]; exact Go.Joins.block_setCell (i := 2) (Go.Joins.block_setCell (i := 0) (HBx.out w3 Hb3.out).2.2.1 (.string ⟨#[97]⟩)) (.bool true)); have hXv : X.heap[V.heap.size]? = some (.cells #[.int .i64 0, .int .i64 0, .bool false] 100 (0, 0)) := (by rw [← hX, Below.heap_setCell _ ⟨x, 2, none⟩ _ _ hne2, Below.heap_setCell _ ⟨x, 0, none⟩ _ _ hne2]; exact (HBx.out w3 Hb3.out).2.2.2.1); have hXb : Bar (· = x) w X := (by rw [← hX]; exact Bar.setCell (S := (· = x)) (Bar.setCell (S := (· = x)) (Bar.of (HBx.out w3 Hb3.out).2.2.2.2 fun _ h _ => h) rfl _) rfl _); refine (HTo.out X).mono ?_; rintro e w4 ⟨rfl, hb4⟩; have h4x := (hb4.block _ (lt_of_row hXx)).trans hXx; have h4v := (hb4.block _ (lt_of_row hXv)).trans hXv; obtain ⟨f0, f1, f2, k0, k1, k2⟩ := B3.of h4v; have H4 := Lib.hid (And.intro h4x (And.intro h4v (hXb.then (hb4.mono hXb.size)))); clear hX hXx hXv hXb hb4 h4x h4v)))
  obtain ⟨h4x, h4v, h4b⟩ := H4.out
  refine bodyPost_ret (results_row_tmp rfl _ _ V.heap.size _ _ (0, 0) _ rfl (put3 h4v) Tryz.underlying100 rfl (by kernel_rfl)) rfl ?_
  exact ⟨rfl, h4b.then (below_put3 (Below.refl _ _) HVs.out), (heap_put3 (Ne.symm hne2)).trans h4x⟩
end Go.Proofs.YtiblamapjekdeaaGreat
