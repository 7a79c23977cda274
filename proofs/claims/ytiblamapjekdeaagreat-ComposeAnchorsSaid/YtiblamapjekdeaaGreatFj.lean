/- The program's Graph. Condition: a row of at most 1500000 events. -/
import Derived.Test.YtiblamapjekdeaaGreatFi
import Derived.Test.YtiblamapjekdeaaGreatPn
import Derived.Lib.SmallJoins
namespace Go.Proofs.YtiblamapjekdeaaGreat
open Go.RowKit
attribute [local go_sem] Oper.semAt_some
theorem place_sz {t : Mk} {k : Nat} (ht : t.Sz k) (i : Nat) : (place i t).Sz (k + 1) := by
  unfold place
  have h' := ht.mono (Nat.le_succ k)
  have hr := ht.roots
  split
  · exact ⟨h'.nodes, by simp; omega, h'.way, h'.names, h'.kids⟩
  · rename_i u _
    refine ⟨by simpa using h'.nodes, h'.roots, h'.way, h'.names, fun v => ?_⟩
    show (nd (t.nodes.modify u (addKid i)) v).kids.length ≤ k + 1
    by_cases hu : u < t.nodes.length
    · rw [nd_modify _ _ _ _ hu]
      split
      · show ((nd t.nodes u).kids ++ [(i : Int)]).length ≤ k + 1
        rw [List.length_append]; have := ht.kids u; simp; omega
      · exact h'.kids v
    · rw [List.modify_eq_self (by omega)]; exact h'.kids v
theorem step_sz {d n k : Nat} {s t : Mk} {x : Ev} (hs : s.Sz k) (h : mkStep d n s x = .ok t) : t.Sz (k + 1) := by
  have h' := hs.mono (Nat.le_succ k)
  unfold mkStep at h
  split at h
  · cases h; exact ⟨h'.nodes, h'.roots, h'.way, Nat.zero_le _, h'.kids⟩
  split at h
  · split at h
    · cases h
    split at h
    · cases h
    · cases h
      have q := newNode_sz hs (nodeK x) rfl x.anchor
      refine ⟨q.nodes, q.roots, ?_, q.names, q.kids⟩
      have := hs.way
      simp; omega
  split at h
  · cases h; refine ⟨h'.nodes, h'.roots, ?_, h'.names, h'.kids⟩; have := hs.way; simp; omega
  split at h
  · split at h
    · cases h
    · cases h; exact newNode_sz hs _ rfl _
  split at h
  · split at h
    · cases h
    · cases h; exact place_sz hs _
  · cases h; exact h'
theorem mkAll_good {d n : Nat} {L : List Ev} : ∀ (k : Nat) (s : Mk), k ≤ L.length → mkAll d n mk0 (L.take k) = .ok s → s.Ok ∧ s.Sz k := by
  intro k
  induction k with
  | zero => intro s _ h; cases h; exact ⟨mk0_ok, ⟨Nat.le_refl _, Nat.le_refl _, Nat.le_refl _, Nat.le_refl _, fun u => by simp [nd, mk0]; rfl⟩⟩
  | succ k ih =>
    intro s hk h
    rw [mkAll_take (by omega)] at h
    cases ht : mkAll d n mk0 (L.take k) with
    | error e => rw [ht] at h; cases h
    | ok t =>
      rw [ht] at h
      obtain ⟨h1, h2⟩ := ih t (by omega) ht
      exact ⟨h1.step h, step_sz h2 h⟩
/-- The builder, new. -/
def R00 (bb : Nat) (d n : Int) : Nat → ORow := fun i => if i = 3 then ⟨57, 6, .slice (some ⟨bb, 0, none⟩) 1 1, 1, [.slice none 0 0, .slice none 0 0, .map none, .slice none 0 0, .int .i64 d, .int .i64 n]⟩ else if i = 0 then ⟨46, 5, .slice none 0 0, 0, []⟩ else ⟨3, 1, .slice none 0 0, 0, []⟩
theorem Bd.new (W : World) (d n : Int) : Bd (W.alloc (.cells #[.slice none 0 0, .slice none 0 0, .map none, .slice none 0 0, .int .i64 d, .int .i64 n] 57)) W.heap.size W.heap.size mk0 d n := by
  have e3 : R00 W.heap.size d n 3 = ⟨57, 6, .slice (some ⟨W.heap.size, 0, none⟩) 1 1, 1, [.slice none 0 0, .slice none 0 0, .map none, .slice none 0 0, .int .i64 d, .int .i64 n]⟩ := rfl
  have e0 : R00 W.heap.size d n 0 = ⟨46, 5, .slice none 0 0, 0, []⟩ := rfl
  have ei : ∀ i, i ≠ 3 → i ≠ 0 → R00 W.heap.size d n i = ⟨3, 1, .slice none 0 0, 0, []⟩ := fun i h h0 => by unfold R00; rw [if_neg h, if_neg h0]
  have ev : ∀ i, i ≠ 3 → (R00 W.heap.size d n i).v = .slice none 0 0 := fun i h => by
    by_cases h0 : i = 0
    · subst h0; rfl
    · rw [ei i h h0]
  refine ⟨R00 W.heap.size d n, .map none, ⟨⟨fun i => ?_, fun i j g hne hi hj => ?_⟩, e0, ei 1 (by omega) (by omega), ei 2 (by omega) (by omega), fun k => ?_, fun k _ => ev _ (by omega)⟩, e3, .inl ⟨rfl, rfl⟩, by simp⟩
  · by_cases h : i = 3
    · subst h
      rw [e3]
      exact World.ownsRow_lit W _ 1 (Nat.le_refl _) (by decide) rfl
    · by_cases h0 : i = 0
      · subst h0; rw [e0]; exact ⟨rfl, .inl ⟨rfl, rfl⟩⟩
      · rw [ei i h h0]; exact ⟨rfl, .inl ⟨rfl, rfl⟩⟩
  · by_cases h : i = 3
    · rw [ev j (by omega)] at hj; cases hj
    · rw [ev i h] at hi; cases hi
  · rw [ei _ (by omega) (by omega)]
    simp [nd, mk0]
    exact ⟨rfl, rfl⟩
theorem mkStep_err {d n : Nat} {s : Mk} {x : Ev} {c : Int} (h : mkStep d n s x = .error c) : c ≠ 0 := by
  unfold mkStep at h
  split at h
  · cases h
  split at h
  · split at h
    · cases h; decide
    split at h
    · cases h; decide
    · cases h
  split at h
  · cases h
  split at h
  · split at h
    · cases h; decide
    · cases h
  split at h
  · split at h
    · cases h; decide
    · cases h
  · cases h
theorem Fam.other {W w' : World} {N : Nat} {R : Nat → ORow} (h : Fam W N R) (hb : ∀ b, N ≤ b → w'.heap[b]? = W.heap[b]?) : Fam w' N R :=
  ⟨fun i => ownsRow_by (h.own i) fun g hg => hb g ((h.own i).lt g hg).1, h.sep⟩
theorem results_row_tmpF {P : Program} {fn : Func} {p u : Tmp} {ty : TypeId} (h : fn.results = #[.cell p ty, .tmp u]) (tmps : Array Value) (w : World) (g : Nat) (t : TypeId) (cs : Array Value) (fr : Nat × Nat) (d : TypeDesc)
    (hp : tmps.getD p undef = .pointer (some ⟨g, 0, none⟩)) (hg : w.heap[g]? = some (.cells cs t fr))
    (hu : P.underlying ty = some d) (hd : (match d with | .struct _ | .array _ _ => true | _ => false) = true) (hi : (P.info? ty).map (·.size) = some cs.size) :
    (results fn tmps).run P w = .ok (.tuple #[.agg cs, tmps.getD u undef]) w := by
  rw [results_cell_tmp h, hp]
  simp [asAddr, Result.andThen, run_loadVar_row w g t ty cs fr d hg hu hd hi]
/-- What Graph tells. -/
def DidM (w : World) (g : Gr × Int) (e : Ending) (w' : World) : Prop := ∃ v, e = .returned (.tuple #[v, .int .i64 g.2]) ∧ GrAt w' w'.heap.size g.1 v ∧ Below w.heap.size w w'
theorem grAt_nil (w : World) (B : Nat) : GrAt w B ⟨[], []⟩ (.agg #[.slice none 0 0, .slice none 0 0]) := ⟨none, 0, none, 0, rfl, NdsAt.nil, IntsAt.nil⟩
set_option maxRecDepth 100000 in
set_option maxHeartbeats 2000000 in
theorem Graph_any (A : Option Addr) (c : Nat) (L : List Ev) (d n : Int) (w : World) (hl : L.length ≤ 1500000) (hE : EvsAt w w.heap.size A L) (hok : ∀ x ∈ L, Ev.ok x) :
    Calls Tryz.prog 8 #[.slice A L.length c, .int .i64 d, .int .i64 n] w (DidM w (mkG L (min d 200).toNat (min n 20000).toNat)) := by
  obtain ⟨V, hV, hbV, hrV, hsV⟩ := box2 w (.slice none 0 0) (.slice none 0 0) 28
  have hEV := hE.below hbV (Nat.le_refl _)
  have HR : Hid (Calls Tryz.prog 18 #[.slice A L.length c] V fun e w' => e = .returned (.bool (rightsB L)) ∧ Below V.heap.size V w') := Right_any A c L V (by omega) (hEV.more hbV.size)
  have HB : Hid (∀ W, Below V.heap.size V W → W.heap[w.heap.size]? = some (.cells #[.slice none 0 0, .slice none 0 0] 28 (0, 0)) ∧ Below w.heap.size w W) := fun W hW => ⟨(hW.block _ (by omega)).trans hrV, below_then hbV hW⟩
  obtain ⟨dm, hdm⟩ : ∃ dm, (if (200 : Int) < d then 200 else d) = dm := ⟨_, rfl⟩
  obtain ⟨nm, hnm⟩ : ∃ nm, (if (20000 : Int) < n then 20000 else n) = nm := ⟨_, rfl⟩
  have hdm' : min d 200 = dm := by rw [← hdm]; split <;> omega
  have hnm' : min n 20000 = nm := by rw [← hnm]; split <;> omega
  rw [hdm', hnm']
  clear hdm' hnm'
  cases hr : rightsB L with
  | false =>
    rw [hr] at HR
    have hG : mkG L dm.toNat nm.toNat = (⟨[], []⟩, 1) := by rw [mkG, hr]; rfl
    have HG := Lib.hid hG
    clear hbV hrV hE hEV hr hG hdm hnm hok
    go_enter Tryz.func8, Tryz.ntmps8
    go_wp2_with (first
      | (go_at_call 18; refine HR.out.mono ?_; rintro e w1 ⟨rfl, hb1⟩; obtain ⟨hr1, hbw1⟩ := HB.out w1 hb1; have a0 := Lib.cell_of_heap hr1 0; have a1 := Lib.cell_of_heap hr1 1; have g0 := Go.Joins.unfrozen_of_block hr1 0; have g1 := Go.Joins.unfrozen_of_block hr1 1; have H1 := Lib.hid (And.intro hr1 hbw1); clear hb1 hr1 hbw1))
    obtain ⟨hr1, hbw1⟩ := H1.out
    obtain ⟨Z, hZ⟩ : ∃ Z, (w1.setCell ⟨w.heap.size, 0, none⟩ (.slice none 0 0)).setCell ⟨w.heap.size, 1, none⟩ (.slice none 0 0) = Z := ⟨_, rfl⟩
    have hz : Z.heap[w.heap.size]? = some (.cells #[.slice none 0 0, .slice none 0 0] 28 (0, 0)) := by rw [← hZ]; exact Go.Joins.block_setCell (i := 1) (Go.Joins.block_setCell (i := 0) hr1 _) _
    have hbz : Below w.heap.size w Z := by rw [← hZ]; exact (hbw1.setCell (p := ⟨w.heap.size, 0, none⟩) (Nat.le_refl _) _).setCell (p := ⟨w.heap.size, 1, none⟩) (Nat.le_refl _) _
    rw [hZ]
    refine bodyPost_ret (results_row_tmpF rfl _ _ w.heap.size _ _ (0, 0) _ rfl hz Tryz.underlying28 rfl (by kernel_rfl)) rfl ?_
    rw [HG.out]
    exact ⟨_, rfl, grAt_nil _ _, hbz⟩
  | true =>
    rw [hr] at HR
    have Hr := Lib.hid hr
    clear hbV hrV hr
    go_enter Tryz.func8, Tryz.ntmps8
    go_wp2_with (first
      | (go_at_call 18; refine HR.out.mono ?_; rintro e w1 ⟨rfl, hb1⟩; have H1 := Lib.hid (HB.out w1 hb1); clear hb1))
    obtain ⟨U, hU⟩ : ∃ U, w1.alloc (.cells #[.slice none 0 0, .slice none 0 0, .map none, .slice none 0 0, .int .i64 dm, .int .i64 nm] 57) = U := ⟨_, rfl⟩
    have hbd0 := Bd.new w1 dm nm
    have hbU : Below w1.heap.size w1 U := by rw [← hU]; exact (Below.refl _ _).alloc (Nat.le_refl _) _
    rw [hU] at hbd0 ⊢
    have HU := Lib.hid (And.intro hbd0 hbU)
    have HE := Lib.hid hE
    have HOk := Lib.hid hok
    clear hbd0 hbU hU hE hok hEV HB
    go_loopw [24] (fun i wr => ∃ k : Nat, k ≤ L.length ∧ i = .int .i64 (k : Int) ∧ ∃ s : Mk, Hid (mkAll dm.toNat nm.toNat mk0 (L.take k) = .ok s) ∧ Hid (Bd wr w1.heap.size w1.heap.size s dm nm) ∧ Hid (Below w1.heap.size U wr)) (fun i _ => L.length - (intOf i).toNat)
    case atStart => exact ⟨0, Nat.zero_le _, rfl, mk0, rfl, HU.out.1, Below.refl _ _⟩
    case round =>
      obtain ⟨k, hk, rfl, s, HM, HBd, HBl⟩ := hrel
      have hlw : w.heap.size < w1.heap.size := by have := H1.out.1; exact (Array.getElem?_eq_some_iff.1 this).1
      have Hlw := Lib.hid hlw
      have HWr : Hid (Below w.heap.size w wr) := H1.out.2.trans (HU.out.2.trans HBl.out |>.mono (Nat.le_of_lt hlw))
      by_cases hlt : k < L.length
      · have hlt' : (k : Int) < (L.length : Int) := by omega
        obtain ⟨b, off, rfl, hbw, hc⟩ := HE.out (by omega)
        have hx := (hc k hlt).below HWr.out hbw
        have hxo := HOk.out _ (evs_mem hlt)
        have hcl := fun h => levN_pos Hr.out hlt h
        obtain ⟨w1', w2'⟩ := mkAll_way Hr.out k s hk HM.out
        obtain ⟨ok, sz⟩ := mkAll_good k s hk HM.out
        have htk := mkAll_take (d := dm.toNat) (n := nm.toNat) hlt
        rw [HM.out] at htk
        have HTk : Hid (mkAll dm.toNat nm.toNat mk0 (L.take (k + 1)) = mkStep dm.toNat nm.toNat s (evs L k)) := htk
        obtain ⟨x, hxe⟩ : ∃ x, evs L k = x := ⟨_, rfl⟩
        rw [hxe] at hx hxo hcl HTk
        obtain ⟨c0, c1, c2, c3, c4, c5⟩ := hx
        have HEv : Hid (∀ W', Bd W' w1.heap.size w1.heap.size s dm nm → Calls Tryz.prog 19 #[.pointer (some ⟨w1.heap.size, 0, none⟩), evV x] W' (DidE w1.heap.size w1.heap.size dm nm W' (mkStep dm.toNat nm.toNat s x))) := fun W' hW' => by
          have hs := sz.mono (show k ≤ 1700000 by omega)
          have ha := hxo.anchor
          by_cases k1 : x.kind = 1
          · exact event_1 x _ _ s dm nm W' hW' ha k1
          by_cases k3 : x.kind = 3
          · exact event_3 x _ _ s dm nm W' hW' hs ok ha k3
          by_cases k5 : x.kind = 5
          · exact event_5 x _ _ s dm nm W' hW' hs ok ha k5
          by_cases k7 : x.kind = 7
          · exact event_7 x _ _ s dm nm W' hW' hs ok ha k7
          by_cases k8 : x.kind = 8
          · exact event_8 x _ _ s dm nm W' hW' hs ok ha k8
          by_cases k46 : x.kind = 4 ∨ x.kind = 6
          · refine event_46 x _ _ s dm nm W' hW' hs ha k46 fun e => ?_
            have h1 := hcl (by simpa [Ev.closes] using k46)
            rw [← w1', e] at h1
            exact absurd h1 (by decide)
          · exact event_0 x _ _ s dm nm W' hW' ha k1 k3 k5 k7 k8 k46
        obtain ⟨X, hX, hbX, hrX, hsX⟩ := boxV wr x
        have x0 := Lib.cell_of_heap hrX 0
        have x1 := Lib.cell_of_heap hrX 1
        have x2 := Lib.cell_of_heap hrX 2
        have x3 := Lib.cell_of_heap hrX 3
        have x4 := Lib.cell_of_heap hrX 4
        have x5 := Lib.cell_of_heap hrX 5
        have HX : Hid (Bd X w1.heap.size w1.heap.size s dm nm ∧ Below w1.heap.size U X) := ⟨HBd.out.below hbX, HBl.out.trans (hbX.mono (by obtain ⟨R, m, h⟩ := HBd.out; exact h.lt))⟩
        clear hc hxo hcl w1' w2' ok sz htk hxe hbX hrX hsX hk
        cases hst : mkStep dm.toNat nm.toNat s x with
        | error er =>
          rw [hst] at HEv HTk
          have her := mkStep_err hst
          have hne : (er != 0) = true := bne_iff_ne.2 her
          have HG : Hid (mkG L dm.toNat nm.toNat = (⟨[], []⟩, er)) := by show mkG _ _ _ = _; rw [mkG, Hr.out, mkAll_stop HTk.out]; rfl
          have HR1 : Hid (∀ W', Below w1.heap.size X W' → W'.heap[w.heap.size]? = some (.cells #[.slice none 0 0, .slice none 0 0] 28 (0, 0)) ∧ Below w.heap.size w W') := fun W' hW' => by
            have hb := HU.out.2.trans (HX.out.2.trans hW')
            exact ⟨(hb.block _ Hlw.out).trans H1.out.1, H1.out.2.trans (hb.mono (Nat.le_of_lt Hlw.out))⟩
          clear hst her HTk
          go_wp2_with (first
            | (go_at_call 19; refine (HEv.out X HX.out.1).mono ?_; rintro e w3 ⟨rfl, hb3⟩; obtain ⟨hr3, hbw3⟩ := HR1.out w3 hb3; have a0 := Lib.cell_of_heap hr3 0; have a1 := Lib.cell_of_heap hr3 1; have g0 := Go.Joins.unfrozen_of_block hr3 0; have g1 := Go.Joins.unfrozen_of_block hr3 1; have H3 := Lib.hid (And.intro hr3 hbw3); clear hb3 hr3 hbw3))
          obtain ⟨hr1, hbw1⟩ := H3.out
          obtain ⟨Z, hZ⟩ : ∃ Z, (w3.setCell ⟨w.heap.size, 0, none⟩ (.slice none 0 0)).setCell ⟨w.heap.size, 1, none⟩ (.slice none 0 0) = Z := ⟨_, rfl⟩
          have hz : Z.heap[w.heap.size]? = some (.cells #[.slice none 0 0, .slice none 0 0] 28 (0, 0)) := by rw [← hZ]; exact Go.Joins.block_setCell (i := 1) (Go.Joins.block_setCell (i := 0) hr1 _) _
          have hbz : Below w.heap.size w Z := by rw [← hZ]; exact (hbw1.setCell (p := ⟨w.heap.size, 0, none⟩) (Nat.le_refl _) _).setCell (p := ⟨w.heap.size, 1, none⟩) (Nat.le_refl _) _
          rw [hZ]
          refine bodyPost_ret (results_row_tmpF rfl _ _ w.heap.size _ _ (0, 0) _ rfl hz Tryz.underlying28 rfl (by kernel_rfl)) rfl ?_
          rw [HG.out]
          exact ⟨_, rfl, grAt_nil _ _, hbz⟩
        | ok s2 =>
          rw [hst] at HEv HTk
          clear hst
          go_wp2_with (first
            | (go_at_call 19; refine (HEv.out X HX.out.1).mono ?_; rintro e w3 ⟨rfl, hbd3, hb3⟩))
          go_roundw
          case rel => exact ⟨k + 1, by omega, by go_num, s2, HTk.out, hbd3, HX.out.2.trans hb3⟩
          case measure => simp [intOf]; omega
      · obtain rfl : k = L.length := by omega
        have hM := HM.out
        rw [List.take_length] at hM
        have HG : Hid (mkG L dm.toNat nm.toNat = (⟨s.nodes, s.roots⟩, 0)) := by show mkG _ _ _ = _; rw [mkG, Hr.out, hM]; rfl
        obtain ⟨R, m, hB⟩ := HBd.out
        obtain ⟨c0, c1, _⟩ := hB.cells
        have hb := HU.out.2.trans HBl.out
        have hrr := (hb.block _ hlw).trans H1.out.1
        have a0 := Lib.cell_of_heap hrr 0
        have a1 := Lib.cell_of_heap hrr 1
        have g0 := Go.Joins.unfrozen_of_block hrr 0
        have g1 := Go.Joins.unfrozen_of_block hrr 1
        have Hrr := Lib.hid hrr
        obtain ⟨NA, nc, hnv, _⟩ := hB.made.nodesForm
        obtain ⟨RA, rc, hrv, _⟩ := hB.made.rootsForm
        have HF := Lib.hid hB.made
        rw [hnv] at c0
        rw [hrv] at c1
        have Hv := Lib.hid (And.intro hnv hrv)
        clear hnv hrv
        have hd2 : ¬ (L.length : Int) < (L.length : Int) := by omega
        clear hM hB hb hrr hk hlt
        go_wp2_with fail
        obtain ⟨Z, hZ⟩ : ∃ Z, (wr.setCell ⟨w.heap.size, 0, none⟩ (.slice NA s.nodes.length nc)).setCell ⟨w.heap.size, 1, none⟩ (.slice RA s.roots.length rc) = Z := ⟨_, rfl⟩
        have hz : Z.heap[w.heap.size]? = some (.cells #[.slice NA s.nodes.length nc, .slice RA s.roots.length rc] 28 (0, 0)) := by rw [← hZ]; exact Go.Joins.block_setCell (i := 1) (Go.Joins.block_setCell (i := 0) Hrr.out _) _
        have hbz : Below w.heap.size w Z := by rw [← hZ]; exact (HWr.out.setCell (p := ⟨w.heap.size, 0, none⟩) (Nat.le_refl _) _).setCell (p := ⟨w.heap.size, 1, none⟩) (Nat.le_refl _) _
        rw [hZ]
        refine bodyPost_ret (results_row_tmpF rfl _ _ w.heap.size _ _ (0, 0) _ rfl hz Tryz.underlying28 rfl (by kernel_rfl)) rfl ?_
        rw [HG.out]
        have hfz : Fam Z w1.heap.size R := HF.out.fam.other fun b hb => by rw [← hZ, Below.heap_setCell _ _ _ _ (by show b ≠ w.heap.size; omega), Below.heap_setCell _ _ _ _ (by show b ≠ w.heap.size; omega)]
        have hgr := (HF.out.of hfz).gr
        rw [Hv.out.1, Hv.out.2] at hgr
        exact ⟨_, rfl, hgr, hbz⟩
end Go.Proofs.YtiblamapjekdeaaGreat
