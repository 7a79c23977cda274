/- graph.Cyclic. Conditions: as Reach's. -/
import Derived.Test.YtdcbngimgpdjoaaDoorGk
namespace Go.Proofs.YtdcbngimgpdjoaaDoor
open Go.RowKit Go.Shelf Go.Deep
attribute [local go_sem] Oper.semAt_some
def cyclicB (G : Gr) (root : Int) : Bool := isB G root && cycL G root.toNat
/-- Cyclic's boxes. -/
structure CyC (w : World) (N B B1 B2 : Nat) (NA RA : Option Addr) (n nc m rc root : Nat) (W : World) : Prop where
  below : Below w.heap.size w W
  size : N ≤ W.heap.size
  b1 : W.heap[B1]? = some (.cells #[.slice NA n nc, .slice RA m rc] 25 (0, 0))
  b2 : W.heap[B2]? = some (.cells #[.int .i64 root] 3 (0, 0))
  box : W.heap[B]? = some (.cells #[.bool false] 4 (0, 0))
structure CyL (w : World) (B : Nat) (ex cd : Code) (W : World) : Prop where
  code : cd = ex
  below : Below w.heap.size w W
  box : W.heap[B]? = some (.cells #[.bool true] 4 (0, 0))
theorem CyC.calm {M : Nat} {w : World} {N B B1 B2 : Nat} {NA RA : Option Addr} {n nc m rc root : Nat} (hM : w.heap.size ≤ M) : Calm M (CyC w N B B1 B2 NA RA n nc m rc root) := fun W l o o' hl h hc hs =>
  ⟨Calm.below hM W l o o' hl h hc hs.below, by simpa using hs.size, Calm.row (B := M) W l o o' hl h hc hs.b1, Calm.row (B := M) W l o o' hl h hc hs.b2, Calm.row (B := M) W l o o' hl h hc hs.box⟩
theorem CyL.calm {M : Nat} {w : World} {B : Nat} {ex cd : Code} (hM : w.heap.size ≤ M) : Calm M (CyL w B ex cd) := fun W l o o' hl h hc hs =>
  ⟨hs.code, Calm.below hM W l o o' hl h hc hs.below, Calm.row (B := M) W l o o' hl h hc hs.box⟩
theorem RoSt.calm {M N gs n gw cw : Nat} {D : List Nat} {stk : List (Nat × Nat)} : Calm M (RoSt N gs n D gw cw stk) := fun W l o o' hl h hc hs =>
  ⟨Calm.rowIs (M := M) W l o o' hl h hc hs.seen, hs.lo, Calm.owns (B := M) W l o o' hl h hc hs.way, hs.wgs⟩
theorem CyC.cal {w : World} {N B B1 B2 : Nat} {NA RA : Option Addr} {G : Gr} {nc m rc root : Nat} (hw : w.heap.size ≤ N) (hB : B < N) (hB1 : B1 < N) (hB2 : B2 < N) (hN : NdsAt w w.heap.size NA G.nodes) :
    CalR (CyC w N B B1 B2 NA RA G.nodes.length nc m rc root) N G NA RA nc m rc root B1 B2 := by
  refine ⟨fun W W' h hf => ?_, ⟨hB1, fun W h => h.size⟩, fun _ h => ⟨Lib.cell_of_heap h.b1 0, Lib.cell_of_heap h.b1 1, Lib.cell_of_heap h.b2 0⟩, fun _ h => (hN.below h.below (Nat.le_refl _)).more hw⟩
  have hs := h.size
  have hk : ∀ g, g < N → W'.heap[g]? = W.heap[g]? := fun g hg => hf.block g (by omega) (.inl hg)
  exact ⟨⟨hf.os.trans h.below.os, hf.tape.trans h.below.tape, hf.output.trans h.below.output, Nat.le_trans h.below.size hf.size, fun g hg => (hk g (by omega)).trans (h.below.block g hg)⟩, Nat.le_trans hs hf.size, (hk _ hB1).trans h.b1, (hk _ hB2).trans h.b2, (hk _ hB).trans h.box⟩
set_option maxRecDepth 100000 in
set_option maxHeartbeats 2000000 in
theorem Cyclic_any (G : Gr) (v : Value) (root : Int) (w : World) (hG : GrAt w w.heap.size G v) (hok : G.ok) (hT : Tabs w) :
    Calls Tryd.prog 23 #[v, .int .i64 root] w fun e w' => e = .returned (.bool (cyclicB G root)) ∧ Below w.heap.size w w' := by
  have hIs : Hid (∀ W, Below w.heap.size w W → Calls Tryd.prog 48 #[v, .int .i64 root] W fun r w' => r = .returned (.bool (isB G root)) ∧ Below W.heap.size W w') := fun W hW => is_any G v root W ((hG.below hW (Nat.le_refl _)).more hW.size) hok (hT.below hW)
  obtain ⟨NA, nc, RA, rc, rfl, hN, hR⟩ := hG.ex
  have hr : isB G root = false ∨ (isB G root = true ∧ ∃ r : Nat, root = r ∧ r < G.nodes.length ∧ RightG G) := by
    cases h : isB G root
    · exact .inl rfl
    · simp only [isB, Bool.and_eq_true, decide_eq_true_eq] at h
      exact .inr ⟨rfl, root.toNat, by omega, by omega, .of h.2⟩
  obtain ⟨V, hV, hbV, hrow, hsz⟩ := box2 w (.slice NA G.nodes.length nc) (.slice RA G.roots.length rc) 25
  have v0 : V.cell? ⟨w.heap.size, 0, none⟩ = some (.slice NA G.nodes.length nc) := Lib.cell_of_heap hrow 0
  have v1 : V.cell? ⟨w.heap.size, 1, none⟩ = some (.slice RA G.roots.length rc) := Lib.cell_of_heap hrow 1
  have HIs := Lib.hid (hIs.out V hbV)
  clear hIs
  rcases hr with hr | ⟨hr, r, rfl, hlt, hRG⟩
  · rw [hr] at HIs
    have HE : Hid (cyclicB G root = false) := by show _ = _; rw [cyclicB, hr]; rfl
    rw [HE.out]
    have HbV := Lib.hid hbV
    clear hsz hrow hG hN hR hok hT hr hbV
    go_enter Tryd.func23, Tryd.ntmps23
    go_wp2_with (go_at_call 48; refine HIs.out.mono ?_; rintro e w' ⟨rfl, hb⟩)
    go_ret
    exact ⟨by first | rfl | simp, below_then HbV.out hb⟩
  · rw [hr] at HIs
    have HL : Hid (cyclicB G r = cycL G r) := by show _ = _; rw [cyclicB, hr]; simp
    rw [HL.out]
    have Hsz := Lib.hid hsz
    have Hrow := Lib.hid hrow
    have HbV := Lib.hid hbV
    clear hsz hrow hG hR hok hT hr hbV
    refine (callsIn_wide (n := 3)).1 ?_
    refine callsIn_of_wp_marks Tryd.func23 rfl trivial ?_ rfl
    simp only [Tryd.ntmps23, List.size_toArray, List.length_cons, List.length_nil, Nat.reduceAdd, Nat.reduceSub, Array.replicate_succ, Array.replicate_zero, List.push_toArray, List.append_toArray, List.nil_append, List.cons_append]
    have HG1 : Hid (∀ W, Below V.heap.size V W → W.cell? ⟨w.heap.size, 0, none⟩ = some (.slice NA G.nodes.length nc) ∧ W.cell? ⟨w.heap.size, 1, none⟩ = some (.slice RA G.roots.length rc)) := fun W h => by
      have hr := (h.block w.heap.size (by have := Hsz.out; omega)).trans Hrow.out
      exact ⟨Lib.cell_of_heap hr 0, Lib.cell_of_heap hr 1⟩
    gi_wp2_with (first
      | (refine ⟨trivial, ?_⟩; gi_at_call 48; refine (callsIn_wide.2 HIs.out).mono ?_; rintro e w1 ⟨rfl, hb⟩
         obtain ⟨X0, hX0, hbX0, hrX0, hsX0⟩ := box1 w1 (.bool false) 4
         have x0 := Lib.cell_of_heap hrX0 0
         have x1 := Go.Joins.unfrozen_of_block hrX0 0
         obtain ⟨X, hX⟩ : ∃ X, X0.setCell ⟨w1.heap.size, 0, none⟩ (.bool false) = X := ⟨_, rfl⟩
         have hbX : Below w1.heap.size w1 X := by rw [← hX]; exact hbX0.setCell (p := ⟨w1.heap.size, 0, none⟩) (Nat.le_refl _) _
         have hrX : X.heap[w1.heap.size]? = some (.cells #[.bool false] 4 (0, 0)) := by rw [← hX]; exact Go.Joins.block_setCell hrX0 _
         have hsX : X.heap.size = w1.heap.size + 1 := by rw [← hX]; simpa using hsX0
         obtain ⟨g0, g1⟩ := HG1.out X (below_then hb hbX)
         have Hb := Lib.hid hb
         have HbX := Lib.hid hbX
         have HrX := Lib.hid hrX
         have HsX := Lib.hid hsX
         clear hb hbX hrX hsX hrX0 hsX0 hbX0)
      | (refine ⟨trivial, ?_⟩; gi_at_call 51; refine (callsIn_wide.2 (rounds_any _ _ _ _ _ _ _ _)).mono ?_; rintro e w'' ⟨rfl, rfl⟩))
    obtain ⟨Y, hY, hbY, hrY, hsY⟩ := box2 X (.slice NA G.nodes.length nc) (.slice RA G.roots.length rc) 25
    rw [hY]
    obtain ⟨Z, hZ, hbZ, hrZ, hsZ⟩ := box1 Y (.int .i64 (r : Int)) 3
    rw [hZ]
    clear hY hZ hX hV v0 v1 hX0 x0 x1
    have hsX := HsX.out
    have hb := Hb.out
    have hVs := hb.size
    have hsV := Hsz.out
    have hwV := HbV.out
    have hbX := HbX.out
    have hwZ : Below w.heap.size w Z := below_then hwV (below_then hb (below_then hbX (below_then hbY hbZ)))
    have hZB : Z.heap[w1.heap.size]? = some (.cells #[.bool false] 4 (0, 0)) := (hbZ.block _ (by omega)).trans ((hbY.block _ (by omega)).trans HrX.out)
    have hZ1 : Z.heap[X.heap.size]? = some (.cells #[.slice NA G.nodes.length nc, .slice RA G.roots.length rc] 25 (0, 0)) := (hbZ.block _ (by omega)).trans hrY
    have hZ2 : Z.heap[X.heap.size + 1]? = some (.cells #[.int .i64 (r : Int)] 3 (0, 0)) := by rw [← hsY]; exact hrZ
    have hwB : w.heap.size ≤ w1.heap.size := by omega
    obtain ⟨N, hNd⟩ : ∃ N, N = Z.heap.size + 2 := ⟨_, rfl⟩
    have HLT : Hid (w.heap.size ≤ w1.heap.size ∧ w1.heap.size < N ∧ X.heap.size < N ∧ X.heap.size + 1 < N ∧ X.heap.size = w1.heap.size + 1 ∧ Z.heap.size = w1.heap.size + 3 ∧ N = Z.heap.size + 2) := ⟨by omega, by omega, by omega, by omega, by omega, by omega, hNd⟩
    clear hrY hrZ hbY hbZ hb hbX Hb HbX HrX HsX HIs HG1 g0 g1 Hrow hNd hwB hsX hsY hsZ hVs hsV
    generalize hBe : w1.heap.size = B at *
    generalize hB1e : X.heap.size = B1 at *
    clear hBe hB1e X0
    have hCal : CalR (CyC w N B B1 (B1 + 1) NA RA G.nodes.length nc G.roots.length rc r) N G NA RA nc G.roots.length rc r B1 (B1 + 1) := by
      obtain ⟨_, _, _, _, _, _, _⟩ := HLT.out
      exact CyC.cal (by omega) (by omega) (by omega) (by omega) hN
    have hCalm : Calm Z.heap.size (CyC w N B B1 (B1 + 1) NA RA G.nodes.length nc G.roots.length rc r) := CyC.calm (by obtain ⟨_, _, _, _, _, _, _⟩ := HLT.out; omega)
    have hCalL : ∀ cd, Calm Z.heap.size (CyL w B (.exit 0) cd) := fun cd => CyL.calm (by obtain ⟨_, _, _, _, _, _, _⟩ := HLT.out; omega)
    refine range_law (β := RTold) rfl (by decide) (gf := 70) (lb := #[.pointer (some ⟨B1, 0, none⟩), .pointer (some ⟨B1 + 1, 0, none⟩)]) rfl trivial (enters_of Tryd.func70 (by kernel_rfl) rfl)
      (fun s => #[.bool s.flag]) (fun _ => rfl)
      (RouRd (CyC w N B B1 (B1 + 1) NA RA G.nodes.length nc G.roots.length rc r) N G.nodes.length)
      (fun s W => s.flag = false ∧ RouRd (CyC w N B B1 (B1 + 1) NA RA G.nodes.length nc G.roots.length rc r) N G.nodes.length s W)
      (fun cd s W => s.flag = true ∧ CyL w B (.exit 0) cd W)
      (fun W => cycL G r = false ∧ CyC w N B B1 (B1 + 1) NA RA G.nodes.length nc G.roots.length rc r W)
      (fun cd W => cycL G r = true ∧ CyL w B (.exit 0) cd W)
      (fun s => hCalm.and RoSt.calm) (fun s => Calm.pure.and (hCalm.and RoSt.calm)) (fun cd s => Calm.pure.and (hCalL cd)) (Calm.pure.and hCalm) (fun cd => Calm.pure.and (hCalL cd))
      (fun s => { tmps := #[.agg #[.slice NA G.nodes.length nc, .slice RA G.roots.length rc], .int .i64 (r : Int), .pointer (some ⟨w.heap.size, 0, none⟩), undef, .bool false, .pointer (some ⟨B, 0, none⟩), .bool s.flag,
        .agg #[.slice NA G.nodes.length nc, .slice RA G.roots.length rc], .int .i64 (r : Int), .bool true, .bool false, .agg #[.slice NA G.nodes.length nc, .slice RA G.roots.length rc], .int .i64 (r : Int),
        .func (.func 70) #[] #[.pointer (some ⟨B1, 0, none⟩), .pointer (some ⟨B1 + 1, 0, none⟩)], .bool s.flag, undef, undef], defers := [] }) ?assign ?body ?iter ?done ?stop
    case assign =>
      intro lp s W K hK
      gi_wp2
      exact hK
    case iter =>
      intro lp Bk Bx o kBk kBx hY hk
      obtain ⟨l1, l2, l3, l4, l5, l6, l7⟩ := HLT.out
      have hbW : Below Z.heap.size Z ((Z.alloc (.deferred (some []))).alloc o) := ((Below.refl _ Z).alloc (Nat.le_refl _) _).alloc (by simp) _
      exact rouIter G NA RA nc G.roots.length rc r lp _ _ N _ (CyL w B (.exit 0)) _ hRG hlt hCal ⟨below_then hwZ hbW, by simp; omega, (hbW.block _ (by omega)).trans hZ1, (hbW.block _ (by omega)).trans hZ2, (hbW.block _ (by omega)).trans hZB⟩ (by simp; omega) Bk Bx kBk hY hk
    case done =>
      rintro D W hD ⟨hcy, hc⟩ hK
      have hcb := Lib.cell_of_heap hc.box 0
      have Hc := Lib.hid hc
      have Hcy := Lib.hid hcy
      clear hc hcy
      gi_wp2
      refine ⟨by simp, .inl ⟨_, _, rfl, run_takeDeferred hK, ?_⟩⟩
      have hD2 : w.heap.size ≤ D := by obtain ⟨_, _, _, _, _, _, _⟩ := HLT.out; omega
      refine ⟨.bool false, ?_, by rw [Hcy.out], Hc.out.below.trans (belowK_b (w := w) (Nat.le_refl _) W D _ _ hD2 hK rfl rfl)⟩
      simp [results, Tryd.f23, go_sem]
    case stop =>
      rintro D cd W hD ⟨hcy, hc⟩ hK
      have hcd := hc.code
      subst hcd
      have hcb := Lib.cell_of_heap hc.box 0
      have Hc := Lib.hid hc
      have Hcy := Lib.hid hcy
      clear hc hcy
      gi_wp2
      refine ⟨by simp, .inl ⟨_, _, rfl, run_takeDeferred hK, ?_⟩⟩
      have hD2 : w.heap.size ≤ D := by obtain ⟨_, _, _, _, _, _, _⟩ := HLT.out; omega
      refine ⟨.bool true, ?_, by rw [Hcy.out], Hc.out.below.trans (belowK_b (w := w) (Nat.le_refl _) W D _ _ hD2 hK rfl rfl)⟩
      simp [results, Tryd.f23, go_sem]
    case body =>
      rintro lp ⟨flag, gs, gw, cw, Dn, stk⟩ W ⟨hc, hi⟩
      simp only at hi ⊢
      have hcb := Lib.cell_of_heap hc.box 0
      have hfz := Go.Joins.unfrozen_of_block hc.box 0
      have Hc := Lib.hid hc
      have Hi := Lib.hid hi
      have hwB : Hid (w.heap.size ≤ B) := by obtain ⟨_, _, _, _, _, _, _⟩ := HLT.out; show _ ≤ _; omega
      have HL2 : Hid (CyL w B (.exit 0) (.exit 0) (W.setCell ⟨B, 0, none⟩ (.bool true))) := ⟨rfl, hc.below.setCell (p := ⟨B, 0, none⟩) hwB.out _, Go.Joins.block_setCell hc.box _⟩
      clear hc hi
      cases flag with
      | false =>
        gi_wp2
        exact ⟨KeepsOthers.refl _, rfl, Hc.out, Hi.out⟩
      | true =>
        gi_wp2
        exact ⟨KeepsOthers.setCell _ _ _, rfl, HL2.out⟩
end Go.Proofs.YtdcbngimgpdjoaaDoor
