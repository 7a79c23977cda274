/- expand.measured: what a node unfolds to, and how deep. Conditions: as Reach's. -/
import Derived.Test.YtdcbngimgpdjoaaDoorXc
import Derived.Test.YtdcbngimgpdjoaaDoorGl
namespace Go.Proofs.YtdcbngimgpdjoaaDoor
open Go.RowKit Go.Shelf Go.Deep
attribute [local go_sem] Oper.semAt_some
set_option maxRecDepth 100000 in
theorem sum_any (a b : Nat) (w : World) (ha : a ≤ great) (hb : b ≤ great) : Calls Tryd.prog 75 #[.int .i64 (a : Int), .int .i64 (b : Int)] w fun e w' => e = .returned (.int .i64 (sumN a b : Nat)) ∧ w' = w := by
  unfold great at ha hb
  have hw1 : wrap64 ((4611686018427387904 : Int) - (b : Int)) = 4611686018427387904 - (b : Int) := IntWalk.wrap64_in _ (by omega)
  by_cases h : great < a + b
  · have HR : Hid (sumN a b = 4611686018427387904) := by show _ = _; unfold sumN great at *; omega
    have hc : (4611686018427387904 : Int) - (b : Int) < (a : Int) := by unfold great at h; omega
    clear h ha hb
    go_enter Tryd.func75, Tryd.ntmps75
    go_wp2_with fail
    go_ret
    exact ⟨by rw [HR.out]; rfl, rfl⟩
  · have HR : Hid (((sumN a b : Nat) : Int) = (a : Int) + (b : Int)) := by show _ = _; unfold sumN great at *; omega
    have hc : ¬ (4611686018427387904 : Int) - (b : Int) < (a : Int) := by unfold great at h; omega
    have hd : decide ((4611686018427387904 : Int) - (b : Int) < (a : Int)) = false := decide_eq_false hc
    have hw2 : wrap64 ((a : Int) + (b : Int)) = (a : Int) + (b : Int) := IntWalk.wrap64_in _ (by unfold great at h; omega)
    clear h ha hb
    go_enter Tryd.func75, Tryd.ntmps75
    go_wp2_with fail
    go_ret
    exact ⟨by rw [HR.out]; rfl, rfl⟩
set_option maxRecDepth 100000 in
theorem rsum_any (a b : Nat) (w : World) (ha : a ≤ great) (hb : b ≤ great) : Calls Tryd.prog 60 #[.int .i64 (a : Int), .int .i64 (b : Int)] w fun e w' => e = .returned (.int .i64 (sumN a b : Nat)) ∧ w' = w := by
  unfold great at ha hb
  have hw1 : wrap64 ((4611686018427387904 : Int) - (b : Int)) = 4611686018427387904 - (b : Int) := IntWalk.wrap64_in _ (by omega)
  by_cases h : great < a + b
  · have HR : Hid (sumN a b = 4611686018427387904) := by show _ = _; unfold sumN great at *; omega
    have hc : (4611686018427387904 : Int) - (b : Int) < (a : Int) := by unfold great at h; omega
    clear h ha hb
    go_enter Tryd.func60, Tryd.ntmps60
    go_wp2_with fail
    go_ret
    exact ⟨by rw [HR.out]; rfl, rfl⟩
  · have HR : Hid (((sumN a b : Nat) : Int) = (a : Int) + (b : Int)) := by show _ = _; unfold sumN great at *; omega
    have hc : ¬ (4611686018427387904 : Int) - (b : Int) < (a : Int) := by unfold great at h; omega
    have hd : decide ((4611686018427387904 : Int) - (b : Int) < (a : Int)) = false := decide_eq_false hc
    have hw2 : wrap64 ((a : Int) + (b : Int)) = (a : Int) + (b : Int) := IntWalk.wrap64_in _ (by unfold great at h; omega)
    clear h ha hb
    go_enter Tryd.func60, Tryd.ntmps60
    go_wp2_with fail
    go_ret
    exact ⟨by rw [HR.out]; rfl, rfl⟩
/-- Why a node is not unfolded. -/
def errB (G : Gr) (root : Int) : Int := if isB G root then (if cyclicB G root then 13 else 0) else 1
noncomputable def sizeB (G : Gr) (root : Int) : Nat := if errB G root = 0 then sizeA (kidN G) root.toNat else 0
noncomputable def deepB (G : Gr) (root : Int) : Nat := if errB G root = 0 then deepA (kidN G) root.toNat else 0
noncomputable def szF (kids : Nat → List Nat) (R : List Nat) (k : Nat) : Nat := open Classical in if k ∈ R then sizeA kids k else 0
noncomputable def dpF (kids : Nat → List Nat) (R : List Nat) (k : Nat) : Nat := open Classical in if k ∈ R then deepA kids k else 0
/-- A row of measures. -/
def MsRow (W : World) (ga n : Nat) (f g : Nat → Nat) : Prop := ∃ cur : Array Value, W.heap[ga]? = some (.cells cur 77 (0, 0)) ∧ cur.size = n * 2 ∧ ∀ k, k < n → cur[k * 2]? = some (.int .i64 (f k : Nat)) ∧ cur[k * 2 + 1]? = some (.int .i64 (g k : Nat))
/-- measured's boxes, and its row. -/
structure MeC (w : World) (N BV BA ga B1 B2 : Nat) (NA RA : Option Addr) (nc rc root : Nat) (G : Gr) (R : List Nat) (W : World) : Prop where
  below : Below w.heap.size w W
  size : N ≤ W.heap.size
  b0 : W.heap[w.heap.size]? = some (.cells #[.slice NA G.nodes.length nc, .slice RA G.roots.length rc] 25 (0, 0))
  b1 : W.heap[B1]? = some (.cells #[.slice NA G.nodes.length nc, .slice RA G.roots.length rc] 25 (0, 0))
  b2 : W.heap[B2]? = some (.cells #[.int .i64 root] 3 (0, 0))
  all : W.heap[BA]? = some (.cells #[.slice (some ⟨ga, 0, none⟩) G.nodes.length G.nodes.length] 91 (0, 0))
  row : MsRow W ga G.nodes.length (szF (kidN G) R) (dpF (kidN G) R)
  v : W.heap[BV]? = some (.cells #[.int .i64 0, .int .i64 0] 77 (0, 0))
  deep : ∀ y ∈ R, deepA (kidN G) y ≤ R.length
/-- All that lay in X lies in W as it lay, but for one block. -/
structure Kp (X W : World) (a : Nat) : Prop where
  os : W.os = X.os
  tape : W.tape = X.tape
  output : W.output = X.output
  size : X.heap.size ≤ W.heap.size
  block : ∀ k, k < X.heap.size → k ≠ a → W.heap[k]? = X.heap[k]?
theorem Kp.refl (X : World) (a : Nat) : Kp X X a := ⟨rfl, rfl, rfl, Nat.le_refl _, fun _ _ _ => rfl⟩
theorem Kp.set {X W : World} {a : Nat} (h : Kp X W a) (o : Nat) (v : Value) : Kp X (W.setCell ⟨a, o, none⟩ v) a :=
  ⟨h.os, h.tape, h.output, by have := h.size; simp; omega, fun k hk hn => (Below.heap_setCell W ⟨a, o, none⟩ v k hn).trans (h.block k hk hn)⟩
theorem Kp.drew {X W : World} {a : Nat} (h : Kp X W a) : Kp X W.drew a := ⟨h.os, h.tape, h.output, h.size, h.block⟩
theorem Kp.frm {X W : World} {a N B1 : Nat} (h : Kp X W a) (hN : N ≤ a) (hB : B1 < N) : Frm N B1 X W :=
  ⟨h.os, h.tape, h.output, h.size, fun g hg hk => h.block g hg (by rcases hk with h | rfl <;> omega)⟩
theorem Tryd.infoMeas : (Tryd.prog.info? 77).map (fun i => (i.zero, i.size, i.bytes)) = some (some (.agg #[.int .i64 0, .int .i64 0]), 2, 16) := by kernel_rfl
/-- A made row of measures. -/
theorem meas_made (W : World) (n : Nat) (hn : n ≤ 20000) : ∃ M, (Instr.makeSlice 91 (.int .i64 (n : Int)) (.int .i64 (n : Int))).run Tryd.prog W = .ok (.slice (some ⟨W.heap.size, 0, none⟩) n n) M ∧ Below W.heap.size W M ∧ M.heap.size = W.heap.size + 1 ∧
    MsRow M W.heap.size n (fun _ => 0) (fun _ => 0) := by
  obtain ⟨i0, hi, hz0, hz1, hz2⟩ := info_parts Tryd.infoMeas
  have hr := run_make (P := Tryd.prog) W 91 77 i0 _ Tryd.underlying91 hi hz0 .i64 .i64 n n (by omega) (Int.le_refl _) (by rw [hz2]; omega) (by omega)
  simp only [Int.toNat_natCast, hz1] at hr
  refine ⟨_, hr, (Below.refl _ W).alloc (Nat.le_refl _) _, by simp, _, heap_alloc_new W _, size_madeCells _ _, fun k hk => ?_⟩
  have e1 : (Value.agg #[.int .i64 0, .int .i64 0]).cells = #[.int .i64 0, .int .i64 0] := rfl
  rw [e1]
  constructor
  · simp only [madeCells, Array.getElem?_map, Array.getElem?_range]
    rw [if_pos (by omega)]
    simp
  · simp only [madeCells, Array.getElem?_map, Array.getElem?_range]
    rw [if_pos (by omega)]
    simp
theorem MsRow.congr {W : World} {ga n : Nat} {f g f' g' : Nat → Nat} (h : MsRow W ga n f g) (h1 : ∀ k, k < n → f k = f' k) (h2 : ∀ k, k < n → g k = g' k) : MsRow W ga n f' g' := by
  obtain ⟨cur, a, b, c⟩ := h
  exact ⟨cur, a, b, fun k hk => by rw [← h1 k hk, ← h2 k hk]; exact c k hk⟩
theorem MsRow.block {W W' : World} {ga n : Nat} {f g : Nat → Nat} (h : MsRow W ga n f g) (hb : W'.heap[ga]? = W.heap[ga]?) : MsRow W' ga n f g := by
  obtain ⟨cur, a, b, c⟩ := h
  exact ⟨cur, hb.trans a, b, c⟩
theorem MsRow.lt {W : World} {ga n : Nat} {f g : Nat → Nat} (h : MsRow W ga n f g) : ga < W.heap.size := by
  obtain ⟨cur, a, _⟩ := h
  exact (Array.getElem?_eq_some_iff.1 a).1
theorem MsRow.cells {W : World} {ga n : Nat} {f g : Nat → Nat} (h : MsRow W ga n f g) {k : Nat} (hk : k < n) : W.cell? ⟨ga, k * 2, none⟩ = some (.int .i64 (f k : Nat)) ∧ W.cell? ⟨ga, k * 2 + 1, none⟩ = some (.int .i64 (g k : Nat)) ∧ W.frozen? ⟨ga, k * 2, none⟩ = false ∧ W.frozen? ⟨ga, k * 2 + 1, none⟩ = false := by
  obtain ⟨cur, a, _, c⟩ := h
  exact ⟨(Lib.cell_of_heap a _).trans (c k hk).1, (Lib.cell_of_heap a _).trans (c k hk).2, Go.Joins.unfrozen_of_block a _, Go.Joins.unfrozen_of_block a _⟩
theorem MsRow.set {W : World} {ga n : Nat} {f g : Nat → Nat} (h : MsRow W ga n f g) {i : Nat} (hi : i < n) (x y : Nat) :
    MsRow ((W.setCell ⟨ga, i * 2, none⟩ (.int .i64 (x : Int))).setCell ⟨ga, i * 2 + 1, none⟩ (.int .i64 (y : Int))) ga n (fun k => if k = i then x else f k) (fun k => if k = i then y else g k) := by
  obtain ⟨cur, a, b, c⟩ := h
  refine ⟨_, Go.Joins.block_setCell (Go.Joins.block_setCell a _) _, by simpa using b, fun k hk => ?_⟩
  obtain ⟨c1, c2⟩ := c k hk
  by_cases e : k = i
  · subst e
    simp only [if_true]
    refine ⟨?_, ?_⟩
    · rw [Array.getElem?_setIfInBounds_ne (by omega), Array.getElem?_setIfInBounds_self, if_pos (by omega)]
    · rw [Array.getElem?_setIfInBounds_self, if_pos (by simp; omega)]
  · simp only [if_neg e]
    refine ⟨?_, ?_⟩
    · rw [Array.getElem?_setIfInBounds_ne (by omega), Array.getElem?_setIfInBounds_ne (by omega)]; exact c1
    · rw [Array.getElem?_setIfInBounds_ne (by omega), Array.getElem?_setIfInBounds_ne (by omega)]; exact c2
theorem MsRow.calm {B ga n : Nat} {f g : Nat → Nat} : Calm B (fun W => MsRow W ga n f g) := fun W l o o' hl h hc hs => by
  refine MsRow.block hs ?_
  obtain ⟨cur, a, _⟩ := hs
  exact World.putObj_heap_other (by rintro rfl; rw [h] at a; cases a; cases hc)
theorem MeC.calm {M : Nat} {w : World} {N BV BA ga B1 B2 : Nat} {NA RA : Option Addr} {nc rc root : Nat} {G : Gr} (hM : w.heap.size ≤ M) (R : List Nat) : Calm M (MeC w N BV BA ga B1 B2 NA RA nc rc root G R) := fun W l o o' hl h hc hs =>
  ⟨Calm.below hM W l o o' hl h hc hs.below, by simpa using hs.size, Calm.row (B := M) W l o o' hl h hc hs.b0, Calm.row (B := M) W l o o' hl h hc hs.b1, Calm.row (B := M) W l o o' hl h hc hs.b2, Calm.row (B := M) W l o o' hl h hc hs.all, MsRow.calm W l o o' hl h hc hs.row, Calm.row (B := M) W l o o' hl h hc hs.v, hs.deep⟩
theorem MeC.frm {w : World} {N BV BA ga B1 B2 : Nat} {NA RA : Option Addr} {nc rc root : Nat} {G : Gr} {R : List Nat} {W W' : World} (h : MeC w N BV BA ga B1 B2 NA RA nc rc root G R W) (hw : w.heap.size < N) (hV : BV < N) (hA : BA < N) (hg : ga < N) (h1 : B1 < N) (h2 : B2 < N) (hf : Frm N B1 W W') :
    MeC w N BV BA ga B1 B2 NA RA nc rc root G R W' := by
  have hs := h.size
  have hk : ∀ g, g < N → W'.heap[g]? = W.heap[g]? := fun g hg => hf.block g (by omega) (.inl hg)
  exact ⟨⟨hf.os.trans h.below.os, hf.tape.trans h.below.tape, hf.output.trans h.below.output, Nat.le_trans h.below.size hf.size, fun g hg => (hk g (by omega)).trans (h.below.block g hg)⟩, Nat.le_trans hs hf.size, (hk _ hw).trans h.b0, (hk _ h1).trans h.b1, (hk _ h2).trans h.b2, (hk _ hA).trans h.all, h.row.block (hk _ hg), (hk _ hV).trans h.v, h.deep⟩
theorem szF_nil (kids : Nat → List Nat) (k : Nat) : szF kids [] k = 0 := by simp [szF]
theorem dpF_nil (kids : Nat → List Nat) (k : Nat) : dpF kids [] k = 0 := by simp [dpF]
theorem szF_snoc (kids : Nat → List Nat) (R : List Nat) (i k : Nat) : szF kids (R ++ [i]) k = if k = i then sizeA kids i else szF kids R k := by
  unfold szF
  by_cases e : k = i
  · subst e; simp
  · simp [e]
theorem dpF_snoc (kids : Nat → List Nat) (R : List Nat) (i k : Nat) : dpF kids (R ++ [i]) k = if k = i then deepA kids i else dpF kids R k := by
  unfold dpF
  by_cases e : k = i
  · subst e; simp
  · simp [e]
theorem szF_mem {kids : Nat → List Nat} {R : List Nat} {k : Nat} (h : k ∈ R) : szF kids R k = sizeA kids k := by simp [szF, h]
theorem dpF_mem {kids : Nat → List Nat} {R : List Nat} {k : Nat} (h : k ∈ R) : dpF kids R k = deepA kids k := by simp [dpF, h]
theorem ikwrap_nat1 (m : Nat) (h : m ≤ 1000000000) : IntKind.i64.wrap ((m : Int) + 1) = m + 1 := by rw [IntKind.wrap_i64]; omega
theorem results_row2 {P : Program} {fn : Func} {p u : Tmp} {ty : TypeId} (h : fn.results = #[.cell p ty, .tmp u]) (tmps : Array Value) (w : World) (g : Nat) (t : TypeId) (cs : Array Value) (fr : Nat × Nat) (d : TypeDesc)
    (hp : tmps.getD p undef = .pointer (some ⟨g, 0, none⟩)) (hg : w.heap[g]? = some (.cells cs t fr))
    (hu : P.underlying ty = some d) (hd : (match d with | .struct _ | .array _ _ => true | _ => false) = true) (hi : (P.info? ty).map (·.size) = some cs.size) :
    (results fn tmps).run P w = .ok (.tuple #[.agg cs, tmps.getD u undef]) w := by
  rw [results_cell_tmp h]
  have hp' : tmps[p]?.getD undef = .pointer (some ⟨g, 0, none⟩) := by simpa using hp
  simp [hp', asAddr, run_loadVar_row w g t ty cs fr d hg hu hd hi, Result.andThen]
set_option maxRecDepth 100000 in
set_option maxHeartbeats 8000000 in
theorem measured_any (G : Gr) (v : Value) (root : Int) (w : World) (hG : GrAt w w.heap.size G v) (hok : G.ok) (hT : Tabs w) :
    Calls Tryd.prog 58 #[v, .int .i64 root] w fun e w' => e = .returned (.tuple #[.agg #[.int .i64 (sizeB G root : Nat), .int .i64 (deepB G root : Nat)], .int .i64 (errB G root)]) ∧ Below w.heap.size w w' := by
  have hl := hok.nodes
  unfold maxLen at hl
  have hRt : Hid (∀ W, Below w.heap.size w W → Calls Tryd.prog 18 #[v] W fun r w' => r = .returned (.bool (rightB G)) ∧ Below W.heap.size W w') := fun W hW => Right_any G v W ((hG.below hW (Nat.le_refl _)).more hW.size) hok (hT.below hW)
  have hCy : Hid (∀ W, Below w.heap.size w W → Calls Tryd.prog 23 #[v, .int .i64 root] W fun r w' => r = .returned (.bool (cyclicB G root)) ∧ Below W.heap.size W w') := fun W hW => Cyclic_any G v root W ((hG.below hW (Nat.le_refl _)).more hW.size) hok (hT.below hW)
  have HGw : Hid (∀ W, Below w.heap.size w W → GrAt W w.heap.size G v) := fun W hW => hG.below hW (Nat.le_refl _)
  have HTw : Hid (∀ W, Below w.heap.size w W → Tabs W) := fun W hW => hT.below hW
  obtain ⟨NA, nc, RA, rc, rfl, hN, hR⟩ := hG.ex
  obtain ⟨V, hV, hbV, hrow, hsz⟩ := box2 w (.slice NA G.nodes.length nc) (.slice RA G.roots.length rc) 25
  obtain ⟨X, hX, hbX, hrX, hsX⟩ := box2 V (.int .i64 0) (.int .i64 0) 77
  have HG1 : Hid (∀ W, Below X.heap.size X W → W.cell? ⟨w.heap.size, 0, none⟩ = some (.slice NA G.nodes.length nc) ∧ W.cell? ⟨w.heap.size, 1, none⟩ = some (.slice RA G.roots.length rc) ∧ W.heap[w.heap.size]? = some (.cells #[.slice NA G.nodes.length nc, .slice RA G.roots.length rc] 25 (0, 0)) ∧
      W.heap[V.heap.size]? = some (.cells #[.int .i64 0, .int .i64 0] 77 (0, 0)) ∧ Below w.heap.size w W) := fun W h => by
    have hr := (h.block w.heap.size (by omega)).trans ((hbX.block w.heap.size (by omega)).trans hrow)
    exact ⟨Lib.cell_of_heap hr 0, Lib.cell_of_heap hr 1, hr, (h.block _ (by omega)).trans hrX, below_then hbV (below_then hbX h)⟩
  obtain ⟨v0, v1, _, k2, _⟩ := HG1.out X (Below.refl _ _)
  have k20 := Lib.cell_of_heap k2 0
  have k21 := Lib.cell_of_heap k2 1
  have k2f0 := Go.Joins.unfrozen_of_block k2 0
  have k2f1 := Go.Joins.unfrozen_of_block k2 1
  have HRes : Hid (∀ (W : World) (a b : Int), Below X.heap.size X W → Below w.heap.size w ((W.setCell ⟨V.heap.size, 0, none⟩ (.int .i64 a)).setCell ⟨V.heap.size, 1, none⟩ (.int .i64 b)) ∧ ((W.setCell ⟨V.heap.size, 0, none⟩ (.int .i64 a)).setCell ⟨V.heap.size, 1, none⟩ (.int .i64 b)).heap[V.heap.size]? = some (.cells #[.int .i64 a, .int .i64 b] 77 (0, 0))) := fun W a b hW => by
    obtain ⟨_, _, _, q3, q4⟩ := HG1.out W hW
    exact ⟨(q4.setCell (p := ⟨V.heap.size, 0, none⟩) (by show w.heap.size ≤ V.heap.size; omega) _).setCell (p := ⟨V.heap.size, 1, none⟩) (by show w.heap.size ≤ V.heap.size; omega) _, Go.Joins.block_setCell (i := 1) (Go.Joins.block_setCell (i := 0) q3 (.int .i64 a)) (.int .i64 b)⟩
  obtain ⟨rt, hrt⟩ : ∃ b, rightB G = b := ⟨_, rfl⟩
  rw [hrt] at hRt
  have hcs : root < 0 ∨ (0 ≤ root ∧ (G.nodes.length : Int) ≤ root) ∨ (0 ≤ root ∧ root < (G.nodes.length : Int) ∧ rt = false) ∨ (0 ≤ root ∧ root < (G.nodes.length : Int) ∧ rt = true) := by cases rt <;> simp <;> omega
  have hno : isB G root = false → errB G root = 1 ∧ sizeB G root = 0 ∧ deepB G root = 0 := fun h => by simp [errB, sizeB, deepB, h]
  rcases hcs with h1 | ⟨h1, h2⟩ | ⟨h1, h2, rfl⟩ | ⟨h1, h2, rfl⟩
  · have HE := Lib.hid (hno (by simp [isB]; omega))
    clear hG hN hR hok hT hrow hsz hno hrt hRt hCy hbV hbX hrX hsX k2
    go_enter Tryd.func58, Tryd.ntmps58
    go_wp2_with fail
    obtain ⟨r1, r2⟩ := HRes.out _ 0 0 (Below.refl _ _); refine bodyPost_ret (results_row2 rfl _ _ V.heap.size _ _ (0, 0) _ rfl r2 Tryd.underlying77 rfl (by kernel_rfl)) rfl ?_; obtain ⟨e1, e2, e3⟩ := HE.out; exact ⟨by rw [e1, e2, e3]; rfl, r1⟩
  · have HE := Lib.hid (hno (by simp [isB]; omega))
    have h1' : decide (root < 0) = false := decide_eq_false (by omega)
    clear hG hN hR hok hT hrow hsz hno hrt hRt hCy hbV hbX hrX hsX k2
    go_enter Tryd.func58, Tryd.ntmps58
    go_wp2_with fail
    obtain ⟨r1, r2⟩ := HRes.out _ 0 0 (Below.refl _ _); refine bodyPost_ret (results_row2 rfl _ _ V.heap.size _ _ (0, 0) _ rfl r2 Tryd.underlying77 rfl (by kernel_rfl)) rfl ?_; obtain ⟨e1, e2, e3⟩ := HE.out; exact ⟨by rw [e1, e2, e3]; rfl, r1⟩
  · have HE := Lib.hid (hno (by simp [isB, hrt]))
    have h1' : decide (root < 0) = false := decide_eq_false (by omega)
    have h2' : decide ((G.nodes.length : Int) ≤ root) = false := decide_eq_false (by omega)
    clear hG hN hR hok hT hrow hsz hno hrt hCy hbV hbX hrX hsX k2
    go_enter Tryd.func58, Tryd.ntmps58
    go_wp2_with (go_at_call 18; refine (hRt.out X (HG1.out X (Below.refl _ _)).2.2.2.2).mono ?_; rintro e w1 ⟨rfl, hb1⟩; obtain ⟨x0, x1, _, k2, _⟩ := HG1.out _ (hb1); have k20 := Lib.cell_of_heap k2 0; have k21 := Lib.cell_of_heap k2 1; have k2f0 := Go.Joins.unfrozen_of_block k2 0; have k2f1 := Go.Joins.unfrozen_of_block k2 1; have Hb1 := Lib.hid hb1; clear hb1 k2)
    obtain ⟨r1, r2⟩ := HRes.out _ 0 0 (Hb1.out); refine bodyPost_ret (results_row2 rfl _ _ V.heap.size _ _ (0, 0) _ rfl r2 Tryd.underlying77 rfl (by kernel_rfl)) rfl ?_; obtain ⟨e1, e2, e3⟩ := HE.out; exact ⟨by rw [e1, e2, e3]; rfl, r1⟩
  · have his : isB G root = true := by simp [isB, hrt]; omega
    obtain ⟨r, rfl⟩ : ∃ r : Nat, root = r := ⟨root.toNat, by omega⟩
    have h1' : decide ((r : Int) < 0) = false := decide_eq_false (by omega)
    have h2' : decide ((G.nodes.length : Int) ≤ (r : Int)) = false := decide_eq_false (by omega)
    obtain ⟨cy, hcy⟩ : ∃ b, cyclicB G r = b := ⟨_, rfl⟩
    rw [hcy] at hCy
    cases cy with
    | true =>
      have HE : Hid (errB G r = 13 ∧ sizeB G r = 0 ∧ deepB G r = 0) := by
        have : errB G r = 13 := by simp [errB, his, hcy]
        exact ⟨this, by simp [sizeB, this], by simp [deepB, this]⟩
      clear hG hN hR hok hT hrow hsz hno hrt hbV hbX hrX hsX k2 his hcy
      go_enter Tryd.func58, Tryd.ntmps58
      go_wp2_with (first
        | (go_at_call 18; refine (hRt.out X (HG1.out X (Below.refl _ _)).2.2.2.2).mono ?_; rintro e w1 ⟨rfl, hb1⟩; obtain ⟨y0, y1, _⟩ := HG1.out w1 hb1; have Hb1 := Lib.hid hb1; clear hb1)
        | (go_at_call 23; refine (hCy.out w1 (HG1.out w1 Hb1.out).2.2.2.2).mono ?_; rintro e w2 ⟨rfl, hb2⟩; have hb3 := below_then Hb1.out hb2; obtain ⟨x0, x1, _, k2, _⟩ := HG1.out _ (hb3); have k20 := Lib.cell_of_heap k2 0; have k21 := Lib.cell_of_heap k2 1; have k2f0 := Go.Joins.unfrozen_of_block k2 0; have k2f1 := Go.Joins.unfrozen_of_block k2 1; have Hb2 := Lib.hid hb3; clear hb2 hb3 k2))
      obtain ⟨r1, r2⟩ := HRes.out _ 0 0 (Hb2.out); refine bodyPost_ret (results_row2 rfl _ _ V.heap.size _ _ (0, 0) _ rfl r2 Tryd.underlying77 rfl (by kernel_rfl)) rfl ?_; obtain ⟨e1, e2, e3⟩ := HE.out; exact ⟨by rw [e1, e2, e3]; rfl, r1⟩
    | false =>
      have hRG : RightG G := .of hrt
      have HE : Hid (errB G r = 0 ∧ sizeB G r = sizeA (kidN G) r ∧ deepB G r = deepA (kidN G) r) := by
        have : errB G r = 0 := by simp [errB, his, hcy]
        exact ⟨this, by simp [sizeB, this], by simp [deepB, this]⟩
      have hrn : r < G.nodes.length := by omega
      have hacc : Acc (edge (kidN G)) r := by
        have h3 := hRG.cyc hrn
        have h4 : cycL G r = false := by
          have := hcy
          unfold cyclicB at this
          rw [his] at this
          simpa using this
        rw [h4] at h3
        exact Classical.byContradiction fun h => by simpa using h3.2 h
      have HL1 : Hid (w.heap.size < V.heap.size ∧ V.heap.size < X.heap.size) := ⟨by omega, by omega⟩
      have Hacc := Lib.hid hacc
      have hnn := hRG.nodes
      clear hG hR hT hrow hsz hno hrt hbV hbX hrX hsX hcy hacc k2
      refine (callsIn_wide (n := 3)).1 ?_
      refine callsIn_of_wp_marks Tryd.func58 rfl trivial ?_ rfl
      simp only [Tryd.ntmps58, List.size_toArray, List.length_cons, List.length_nil, Nat.reduceAdd, Nat.reduceSub, Array.replicate_succ, Array.replicate_zero, List.push_toArray, List.append_toArray, List.nil_append, List.cons_append]
      gi_wp2_with (first
        | (refine ⟨trivial, ?_⟩; gi_at_call 18; refine (callsIn_wide.2 (hRt.out X (HG1.out X (Below.refl _ _)).2.2.2.2)).mono ?_; rintro e w1 ⟨rfl, hb1⟩; obtain ⟨y0, y1, _⟩ := HG1.out w1 hb1; have Hb1 := Lib.hid hb1; clear hb1)
        | (refine ⟨trivial, ?_⟩; gi_at_call 23; refine (callsIn_wide.2 (hCy.out w1 (HG1.out w1 Hb1.out).2.2.2.2)).mono ?_; rintro e w2 ⟨rfl, hb2⟩; have hb3 := below_then Hb1.out hb2; have Hb2 := Lib.hid hb3; obtain ⟨y2, y3, _⟩ := HG1.out w2 hb3
           obtain ⟨M, hmake, hbM, hsM, hMs⟩ := meas_made w2 G.nodes.length hnn
           obtain ⟨z0, z1, _⟩ := HG1.out M (below_then hb3 hbM)
           obtain ⟨Y, hY, hbY, hrY, hsY⟩ := box1 M (.slice (some ⟨w2.heap.size, 0, none⟩) G.nodes.length G.nodes.length) 91
           obtain ⟨t0, t1, _⟩ := HG1.out Y (below_then hb3 (below_then hbM hbY))
           have HbY := Lib.hid (below_then hb3 (below_then hbM hbY))
           have HMs := Lib.hid (hMs.block (hbY.block _ hMs.lt))
           have HrY := Lib.hid hrY
           have HsY : Hid (M.heap.size = w2.heap.size + 1 ∧ Y.heap.size = w2.heap.size + 2) := ⟨hsM, by omega⟩
           clear hb2 hb3 hbM hMs hbY hrY hsY)
        | (refine ⟨trivial, ?_⟩; gi_at_call 74; refine (callsIn_wide.2 (backs_any _ _ _ _ _ _ _ _)).mono ?_; rintro e w'' ⟨rfl, rfl⟩))
      obtain ⟨Y2, hY2, hbY2, hrY2, hsY2⟩ := box2 Y (.slice NA G.nodes.length nc) (.slice RA G.roots.length rc) 25
      rw [hY2]
      obtain ⟨Z, hZ, hbZ, hrZ, hsZ⟩ := box1 Y2 (.int .i64 (r : Int)) 3
      rw [hZ]
      obtain ⟨q1, q2⟩ := HsY.out
      obtain ⟨q3, q4⟩ := HL1.out
      have hXw2 := Hb2.out.size
      have hYZ := below_then hbY2 hbZ
      have hMsZ := HMs.out.block (hYZ.block _ HMs.out.lt)
      have hZA := (hYZ.block _ (by omega)).trans HrY.out
      have hZ1 := (hbZ.block Y.heap.size (by omega)).trans hrY2
      have hZ2 : Z.heap[Y.heap.size + 1]? = some (.cells #[.int .i64 (r : Int)] 3 (0, 0)) := by rw [← hsY2]; exact hrZ
      obtain ⟨_, _, hZ0, hZV, hwZ⟩ := HG1.out Z (below_then HbY.out hYZ)
      have HXZ := Lib.hid (below_then HbY.out hYZ)
      rw [q1] at hZA
      obtain ⟨ga, hga⟩ : ∃ g, w2.heap.size = g := ⟨_, rfl⟩
      have hYs : Y.heap.size = ga + 2 := by omega
      rw [hYs] at hZ1 hZ2 ⊢
      rw [hga] at hMsZ hZA ⊢
      obtain ⟨N, hNd⟩ : ∃ N, N = Z.heap.size + 2 := ⟨_, rfl⟩
      have HLT : Hid (w.heap.size < V.heap.size ∧ V.heap.size < X.heap.size ∧ X.heap.size ≤ ga ∧ Z.heap.size = ga + 4 ∧ N = Z.heap.size + 2) := ⟨q3, q4, by omega, by omega, hNd⟩
      have HZr : Hid (MsRow Z ga G.nodes.length (fun _ => 0) (fun _ => 0) ∧ Z.heap[ga + 1]? = some (.cells #[.slice (some ⟨ga, 0, none⟩) G.nodes.length G.nodes.length] 91 (0, 0)) ∧ Z.heap[ga + 2]? = some (.cells #[.slice NA G.nodes.length nc, .slice RA G.roots.length rc] 25 (0, 0)) ∧ Z.heap[ga + 2 + 1]? = some (.cells #[.int .i64 (r : Int)] 3 (0, 0)) ∧
          Z.heap[w.heap.size]? = some (.cells #[.slice NA G.nodes.length nc, .slice RA G.roots.length rc] 25 (0, 0)) ∧ Below w.heap.size w Z ∧ Z.heap[V.heap.size]? = some (.cells #[.int .i64 0, .int .i64 0] 77 (0, 0))) := ⟨hMsZ, hZA, hZ1, hZ2, hZ0, hwZ, hZV⟩
      have hCal : CalQ (MeC w N V.heap.size (ga + 1) ga (ga + 2) (ga + 2 + 1) NA RA nc rc r G) N G NA RA nc rc r (ga + 2) (ga + 2 + 1) := by
        obtain ⟨l1, l2, l3, l4, l5⟩ := HLT.out
        refine ⟨fun R W W' h hf => h.frm (by omega) (by omega) (by omega) (by omega) (by omega) (by omega) hf, ⟨by omega, fun R W h => h.size⟩, fun R W h => ⟨Lib.cell_of_heap h.b1 0, Lib.cell_of_heap h.b1 1, Lib.cell_of_heap h.b2 0⟩, fun R W h => (HGw.out W h.below).more (by omega), fun R W h => (hN.below h.below (Nat.le_refl _)).more (by omega), fun R W h => HTw.out W h.below⟩
      have hCalm : ∀ R, Calm Z.heap.size (MeC w N V.heap.size (ga + 1) ga (ga + 2) (ga + 2 + 1) NA RA nc rc r G R) := fun R => MeC.calm (by obtain ⟨l1, l2, l3, l4, l5⟩ := HLT.out; omega) R
      clear hY2 hZ hbY2 hbZ hrY2 hrZ hsY2 hsZ q1 q2 q3 q4 hXw2 hYZ hMsZ hZA hZ1 hZ2 hZ0 hZV hwZ hga hYs hNd HbY HMs HrY HsY hmake hY hX hV y0 y1 y2 y3 z0 z1 t0 t1 v0 v1 k20 k21 k2f0 k2f1 hRt hCy Hb1 Hb2
      refine range_law (β := QTold) rfl (by decide) (gf := 81) (lb := #[.pointer (some ⟨ga + 2, 0, none⟩), .pointer (some ⟨ga + 2 + 1, 0, none⟩)]) rfl trivial (enters_of Tryd.func81 (by kernel_rfl) rfl)
        (fun s => #[.int .i64 (s.i : Int)]) (fun _ => rfl)
        (QRd (MeC w N V.heap.size (ga + 1) ga (ga + 2) (ga + 2 + 1) NA RA nc rc r G) N G (metL G r))
        (QAf (MeC w N V.heap.size (ga + 1) ga (ga + 2) (ga + 2 + 1) NA RA nc rc r G) N G (metL G r))
        (fun _ _ _ => False)
        (fun W => ∃ R, (∀ x ∈ metL G r, Acc (edge (kidN G)) x → x ∈ R) ∧ MeC w N V.heap.size (ga + 1) ga (ga + 2) (ga + 2 + 1) NA RA nc rc r G R W)
        (fun _ _ => False)
        (QRd.calm hCalm) (QAf.calm hCalm) (fun cd i => Calm.pure) (Calm.ex fun R => Calm.and Calm.pure (hCalm R)) (fun cd => Calm.pure)
        (fun s => { tmps := #[.agg #[.slice NA G.nodes.length nc, .slice RA G.roots.length rc], .int .i64 (r : Int), .pointer (some ⟨w.heap.size, 0, none⟩), undef, .pointer (some ⟨V.heap.size, 0, none⟩), .int .i64 0, .pointer (some ⟨ga + 1, 0, none⟩), .int .i64 (s.i : Int), undef, undef, undef,
          .int .i64 (r : Int), .bool false, .bool false, .int .i64 (r : Int), .pointer (some ⟨w.heap.size, 0, none⟩), .slice NA G.nodes.length nc, .int .i64 (G.nodes.length : Int), .bool false, .bool false, .bool false, .agg #[.slice NA G.nodes.length nc, .slice RA G.roots.length rc], .bool true, .bool false, .bool false, undef,
          .agg #[.slice NA G.nodes.length nc, .slice RA G.roots.length rc], .int .i64 (r : Int), .bool false, undef, .pointer (some ⟨w.heap.size, 0, none⟩), .slice NA G.nodes.length nc, .int .i64 (G.nodes.length : Int), .slice (some ⟨ga, 0, none⟩) G.nodes.length G.nodes.length, .agg #[.slice NA G.nodes.length nc, .slice RA G.roots.length rc], .int .i64 (r : Int),
          .func (.func 81) #[] #[.pointer (some ⟨ga + 2, 0, none⟩), .pointer (some ⟨ga + 2 + 1, 0, none⟩)], .int .i64 (s.i : Int), undef, undef, undef, undef, undef, undef, undef, undef, undef, undef, undef, undef, undef, undef, undef, undef, undef, undef, undef, undef, undef, undef, undef, undef, undef, undef, undef, undef, undef, undef, undef, undef, undef, undef, undef, undef, undef, undef, undef, undef], defers := [] }) ?assign ?body ?iter ?done ?stop
      case assign =>
        intro lp s W K hK
        gi_wp2
        exact hK
      case iter =>
        intro lp Bk Bx o kBk kBx hY hk
        obtain ⟨l1, l2, l3, l4, l5⟩ := HLT.out
        obtain ⟨m1, m2, m3, m4, m5, m6, m7⟩ := HZr.out
        have hbW : Below Z.heap.size Z ((Z.alloc (.deferred (some []))).alloc o) := ((Below.refl _ Z).alloc (Nat.le_refl _) _).alloc (by simp) _
        exact backIter G NA RA nc rc r lp _ _ N _ _ hRG his hok hCal ⟨below_then m6 hbW, by simp; omega, (hbW.block _ (by omega)).trans m5, (hbW.block _ (by omega)).trans m3, (hbW.block _ (by omega)).trans m4, (hbW.block _ (by omega)).trans m2, (m1.block (hbW.block _ m1.lt)).congr (fun k _ => (szF_nil _ k).symm) (fun k _ => (dpF_nil _ k).symm), (hbW.block _ (by omega)).trans m7, fun y hy => by cases hy⟩ (by simp; omega) Bk Bx kBk hY hk
      case stop => exact fun D cd W hD hF => hF.elim
      case done =>
        rintro D W hD ⟨R, hRa, hc⟩ hK
        obtain ⟨l1, l2, l3, l4, l5⟩ := HLT.out
        have hrR : r ∈ R := hRa r (hRG.met hrn).base Hacc.out
        obtain ⟨c0, c1, _, _⟩ := hc.row.cells hrn
        rw [szF_mem hrR] at c0
        rw [dpF_mem hrR] at c1
        have ca := Lib.cell_of_heap hc.all 0
        have hV2 : W.heap[V.heap.size]? = some (.cells #[.int .i64 0, .int .i64 0] 77 (0, 0)) := hc.v
        have k20 := Lib.cell_of_heap hV2 0
        have k21 := Lib.cell_of_heap hV2 1
        have k2f0 := Go.Joins.unfrozen_of_block hV2 0
        have k2f1 := Go.Joins.unfrozen_of_block hV2 1
        have hrI : (r : Int) < (G.nodes.length : Int) := by omega
        have hr0 : (0 : Int) ≤ (r : Int) := Int.natCast_nonneg r
        have Hc := Lib.hid hc
        have HV2 := Lib.hid hV2
        clear hc hV2 l1 l2 l3 l4 l5 hRa hrR
        gi_wp2
        have hVD : V.heap.size ≠ D := fun e => by
          have h1 := HV2.out
          rw [e, hK] at h1
          cases h1
        have hD2 : w.heap.size ≤ D := by obtain ⟨_, _, _, _, _⟩ := HLT.out; omega
        have hwV : w.heap.size ≤ V.heap.size := by obtain ⟨_, _, _, _, _⟩ := HLT.out; omega
        have hK2 : ((W.setCell ⟨V.heap.size, 0, none⟩ (.int .i64 (sizeA (kidN G) r : Nat))).setCell ⟨V.heap.size, 1, none⟩ (.int .i64 (deepA (kidN G) r : Nat))).heap[D]? = some (.deferred (some [])) :=
          ((Below.heap_setCell _ ⟨V.heap.size, 1, none⟩ _ D fun e => hVD e.symm).trans (Below.heap_setCell W ⟨V.heap.size, 0, none⟩ _ D fun e => hVD e.symm)).trans hK
        have hr2 := Go.Joins.block_setCell (i := 1) (Go.Joins.block_setCell (i := 0) HV2.out (.int .i64 (sizeA (kidN G) r : Nat))) (.int .i64 (deepA (kidN G) r : Nat))
        have hb2 := (Hc.out.below.setCell (p := ⟨V.heap.size, 0, none⟩) hwV (.int .i64 (sizeA (kidN G) r : Nat))).setCell (p := ⟨V.heap.size, 1, none⟩) hwV (.int .i64 (deepA (kidN G) r : Nat))
        obtain ⟨W2, hW2⟩ : ∃ W2, (W.setCell ⟨V.heap.size, 0, none⟩ (.int .i64 (sizeA (kidN G) r : Nat))).setCell ⟨V.heap.size, 1, none⟩ (.int .i64 (deepA (kidN G) r : Nat)) = W2 := ⟨_, rfl⟩
        rw [hW2] at hK2 hr2 hb2 ⊢
        refine ⟨by simp, .inl ⟨_, _, rfl, run_takeDeferred hK2, ?_⟩⟩
        refine ⟨_, results_row2 rfl _ _ V.heap.size _ _ (0, 0) _ rfl ((World.putObj_heap_other hVD).trans hr2) Tryd.underlying77 rfl (by kernel_rfl), ?_⟩
        obtain ⟨e1, e2, e3⟩ := HE.out
        exact ⟨by rw [e1, e2, e3]; rfl, hb2.trans (belowK_b (w := w) (Nat.le_refl _) W2 D _ _ hD2 hK2 rfl rfl)⟩
      case body =>
        rintro lp s W ⟨hc, hst, hkids, hnew, hlt, hlen, hacc⟩
        obtain ⟨l1, l2, l3, l4, l5⟩ := HLT.out
        have hNW := hc.size
        have hnds := hN.below hc.below (Nat.le_refl _)
        obtain ⟨bn, on, rfl, hbn, hcn⟩ := hnds (by omega)
        obtain ⟨K, kc, hnd⟩ := hcn s.i hlt
        obtain ⟨kl, hkl⟩ : ∃ l, (nd G.nodes s.i).kids = l := ⟨_, rfl⟩
        have HKN : Hid (kidN G s.i = kl.map Int.toNat) := by rw [← hkl]; rfl
        have HKr : Hid (∀ z ∈ kl, 0 ≤ z ∧ z < G.nodes.length) := by rw [← hkl]; exact hRG.kids s.i hlt
        have c3 := hnd.c3
        have hk5 := hnd.kids
        rw [hkl] at c3 hk5
        have HKl : Hid (kl.length ≤ 20000) := by
          have h1 := restK_all (kids := kidN G) [s.i] [] (by simp) (by simpa using hlt)
          rw [restK_sum G _ (Nat.le_refl _), List.take_length] at h1
          have := hRG.sum
          simp [kidN, hkl] at h1
          show _ ≤ _; omega
        have hWs : w.heap.size < W.heap.size ∧ ga + 1 < W.heap.size ∧ bn < W.heap.size := ⟨by omega, by omega, by omega⟩
        obtain ⟨WB, hWB, hbB, hrB, hsB⟩ := box2 W (.int .i64 1) (.int .i64 1) 77
        have hcB : MeC w N V.heap.size (ga + 1) ga (ga + 2) (ga + 2 + 1) (some ⟨bn, on, none⟩) RA nc rc r G s.R WB := hCal.frm _ _ _ hc (.of_below hbB)
        have e0 := Lib.cell_of_heap hcB.b0 0
        have ea := Lib.cell_of_heap hcB.all 0
        have c3B := (hbB.cell (p := ⟨bn, on + s.i * 5 + 3, none⟩) hWs.2.2).trans c3
        have hkB : IntsAt WB w.heap.size K kl := hk5.below hbB (by omega)
        have hiI : (s.i : Int) < (G.nodes.length : Int) := by omega
        have hi0 : (0 : Int) ≤ (s.i : Int) := Int.natCast_nonneg _
        have HSM : Hid (∀ k (h : k < kl.length), sizeA (kidN G) (kl[k].toNat) ≤ great ∧ deepA (kidN G) kl[k].toNat ≤ 20000 ∧ kl[k].toNat < G.nodes.length ∧ kl[k].toNat ∈ s.R) := fun k h => by
          have hy : kl[k].toNat ∈ kidN G s.i := by rw [HKN.out]; exact List.mem_map.2 ⟨_, List.getElem_mem h, rfl⟩
          have h1 := hc.deep _ (hkids _ hy)
          have h2 := hRG.lt hlt _ hy
          exact ⟨sizeA_le (hacc.inv hy), by omega, h2, hkids _ hy⟩
        have HB0 : Hid (Kp WB WB W.heap.size ∧ WB.heap[W.heap.size]? = some (.cells #[.int .i64 (sF (kidN G) (kidN G s.i) 0 : Nat), .int .i64 (dF (kidN G) (kidN G s.i) 0 : Nat)] 77 (0, 0))) := ⟨Kp.refl _ _, by rw [sF_zero, dF_zero]; exact hrB⟩
        have Hk5 := Lib.hid hkB
        have HsB : Hid (WB.heap.size = W.heap.size + 1 ∧ w.heap.size < W.heap.size ∧ ga + 1 < W.heap.size ∧ bn < W.heap.size ∧ w.heap.size ≤ N ∧ N ≤ W.heap.size) := ⟨hsB, hWs.1, hWs.2.1, hWs.2.2, by omega, hNW⟩
        have HcB := Lib.hid hcB
        have Hkids := Lib.hid hkids
        have Hst := Lib.hid hst
        have HbB := Lib.hid hbB
        have Hnew := Lib.hid hnew
        have Hlt := Lib.hid hlt
        have Hlen := Lib.hid hlen
        have Hacc2 := Lib.hid hacc
        clear hc hst hkids hnew hlt hlen hacc hnds hcn hnd hkl hk5 l1 l2 l3 l4 l5 hNW hbn hWs hbB hrB hsB hcB c3 hkB
        gi_wp2
        clear e0 c3B hWB
        gi_loopw [46] (fun j w2 => ∃ q : Nat, q ≤ kl.length ∧ j = .int .i64 (q : Int) ∧ Hid (Kp WB w2 W.heap.size ∧ w2.heap[W.heap.size]? = some (.cells #[.int .i64 (sF (kidN G) (kidN G s.i) q : Nat), .int .i64 (dF (kidN G) (kidN G s.i) q : Nat)] 77 (0, 0)))) (fun j _ => kl.length - (intOf j).toNat)
        case atStart => exact ⟨0, Nat.zero_le _, rfl, HB0⟩
        case round =>
          obtain ⟨q, hq, rfl, hst2⟩ := hrel
          by_cases hlq : q < kl.length
          · obtain ⟨hkp, hbx⟩ := hst2.out
            obtain ⟨j1, j2, j3, j4, j5, j6⟩ := HsB.out
            have hcw := hCal.frm _ _ _ HcB.out (hkp.frm j6 hCal.lt.1)
            obtain ⟨bK, oK, rfl, hbK, hcK⟩ := Hk5.out (by omega)
            obtain ⟨z, hz⟩ : ∃ z : Nat, kl[q] = (z : Int) := ⟨kl[q].toNat, by have := (HKr.out _ (List.getElem_mem hlq)).1; omega⟩
            have hcq : wr.cell? ⟨bK, oK + q, none⟩ = some (.int .i64 (z : Int)) := by
              have h1 := hcK q hlq
              rw [nth_eq hlq, hz] at h1
              exact (World.cell?_of_block (hkp.block bK (by omega) (by omega))).trans h1
            obtain ⟨s1, s2, s3, s4⟩ := HSM.out q hlq
            rw [hz, Int.toNat_natCast] at s1 s2 s3 s4
            obtain ⟨r0, r1, _, _⟩ := hcw.row.cells s3
            rw [szF_mem s4] at r0
            rw [dpF_mem s4] at r1
            have ea2 := Lib.cell_of_heap hcw.all 0
            have b0 := Lib.cell_of_heap hbx 0
            have b1 := Lib.cell_of_heap hbx 1
            have f0 := Go.Joins.unfrozen_of_block hbx 0
            have f1 := Go.Joins.unfrozen_of_block hbx 1
            have hks : q < (kidN G s.i).length := by rw [HKN.out, List.length_map]; exact hlq
            have hkq : (kidN G s.i)[q] = z := by
              have : (kidN G s.i)[q]? = some z := by rw [HKN.out, List.getElem?_map, List.getElem?_eq_getElem hlq, hz]; simp
              exact (List.getElem?_eq_some_iff.1 this).2
            have hsu := sF_succ (kidN G) hks
            have hdu := dF_succ (kidN G) hks
            rw [hkq] at hsu hdu
            have hsq := sF_le (kidN G) (kidN G s.i) q
            have hdq : dF (kidN G) (kidN G s.i) q ≤ 20001 := dF_le (fun y hy => by
              obtain ⟨k, hk, e⟩ := List.mem_iff_getElem.1 hy
              have hk2 : k < kl.length := by rw [HKN.out, List.length_map] at hk; exact hk
              have h1 := (HSM.out k hk2).2.1
              have h2 : kl[k].toNat = y := by
                rw [← e]
                have : (kidN G s.i)[k]? = some kl[k].toNat := by rw [HKN.out, List.getElem?_map, List.getElem?_eq_getElem hk2]; rfl
                exact ((List.getElem?_eq_some_iff.1 this).2).symm
              rw [h2] at h1; omega) (by omega) q
            obtain ⟨a0, ha0⟩ : ∃ x, sF (kidN G) (kidN G s.i) q = x := ⟨_, rfl⟩
            obtain ⟨d0, hd0⟩ : ∃ x, dF (kidN G) (kidN G s.i) q = x := ⟨_, rfl⟩
            obtain ⟨sz, hsz⟩ : ∃ x, sizeA (kidN G) z = x := ⟨_, rfl⟩
            obtain ⟨dz, hdz⟩ : ∃ x, deepA (kidN G) z = x := ⟨_, rfl⟩
            rw [ha0, hsz] at hsu
            rw [hd0, hdz] at hdu
            rw [ha0] at b0 hsq
            rw [hd0] at b1 hdq
            rw [hsz] at r0 s1
            rw [hdz] at r1 s2
            rw [ha0, hd0] at hbx
            have hbx1 := Go.Joins.block_setCell (i := 0) (show wr.drew.heap[W.heap.size]? = _ from hbx) (.int .i64 (sumN a0 sz : Nat))
            obtain ⟨W1, hW1⟩ : ∃ W1, wr.drew.setCell ⟨W.heap.size, 0, none⟩ (.int .i64 (sumN a0 sz : Nat)) = W1 := ⟨_, rfl⟩
            have hkp1 := hkp.drew.set 0 (.int .i64 (sumN a0 sz : Nat))
            rw [hW1] at hbx1 hkp1
            have hbx2 := Go.Joins.block_setCell (i := 1) (show W1.drew.heap[W.heap.size]? = _ from hbx1) (.int .i64 (max d0 (dz + 1) : Nat))
            have hmx : ((max d0 (dz + 1) : Nat) : Int) = max (d0 : Int) ((dz : Int) + 1) := by omega
            have hkp2 := hkp1.drew.set 1 (.int .i64 (max d0 (dz + 1) : Nat))
            rw [hmx] at hkp2
            obtain ⟨W2, hW2⟩ : ∃ W2, W1.drew.setCell ⟨W.heap.size, 1, none⟩ (.int .i64 (max (d0 : Int) ((dz : Int) + 1))) = W2 := ⟨_, rfl⟩
            rw [hmx] at hbx2
            rw [hW2] at hbx2 hkp2
            have HE : Hid (Kp WB W2 W.heap.size ∧ W2.heap[W.heap.size]? = some (.cells #[.int .i64 (sF (kidN G) (kidN G s.i) (q + 1) : Nat), .int .i64 (dF (kidN G) (kidN G s.i) (q + 1) : Nat)] 77 (0, 0))) := ⟨hkp2, by rw [hsu, hdu, hmx]; exact hbx2⟩
            have hcw1 := hCal.frm _ _ _ HcB.out (hkp1.frm j6 hCal.lt.1)
            have ea3 := Lib.cell_of_heap hcw1.all 0
            obtain ⟨_, r3, _, _⟩ := hcw1.row.cells s3
            rw [dpF_mem s4, hdz] at r3
            have b3 := Lib.cell_of_heap hbx1 1
            have f3 := Go.Joins.unfrozen_of_block hbx1 1
            have hlqI : (q : Int) < (kl.length : Int) := by omega
            have hzI : (z : Int) < (G.nodes.length : Int) := by omega
            have hzI0 : (0 : Int) ≤ (z : Int) := Int.natCast_nonneg z
            have Hlq := Lib.hid hlq
            have hmz : ∀ y : Int, y = q + 1 → kl.length - (intOf (.int .i64 y)).toNat < kl.length - (intOf (.int .i64 (q : Int))).toNat := by intro y hy; subst hy; have := Hlq.out; simp only [intOf]; omega
            have HWq : Hid (wrap64 ((q : Int) + 1) = q + 1) := wrap_nat1 q (by have := Hlq.out; have := HKl.out; omega)
            have HSum : Hid (∀ w, Calls Tryd.prog 75 #[.int .i64 (a0 : Int), .int .i64 (sz : Int)] w fun e w' => e = .returned (.int .i64 (sumN a0 sz : Nat)) ∧ w' = w) := fun w => sum_any a0 sz w hsq s1
            have hwd : Hid (wrap64 ((dz : Int) + 1) = dz + 1) := wrap_nat1 dz (by omega)
            have hwk : Hid (IntKind.i64.wrap ((dz : Int) + 1) = dz + 1) := ikwrap_nat1 dz (by omega)
            clear hkp hbx j1 j2 j3 j4 j5 j6 hcw hbK hcK hz s1 s2 s3 s4 hks hkq hsu hdu hsq hdq hmx ha0 hd0 hsz hdz hkp1 hbx2 hkp2 hcw1 hbx1 hlq hq hst2
            gi_wp2
            apply wpIn_still (w2 := W1)
            · have hmo : Tryd.prog.follows .mixedOrders = true := by kernel_rfl
              gi_region_with_o (refine ⟨trivial, ?_⟩; gi_at_call 75; refine (CallsIn.inRound lp (callsIn_wide.2 (HSum.out _))).mono ?_; rintro e w1 ⟨rfl, rfl⟩)
              all_goals exact ⟨rfl, rfl, rfl⟩
            clear ea ea2 b0 b1 f0 f1 r0 r1 hW1 HSum hcq
            have hwd2 := hwd.out
            have hwd3 := hwk.out
            gi_wp2
            apply wpIn_still (w2 := W2)
            · gi_region
              all_goals first | exact ⟨rfl, hW2, rfl⟩ | exact ⟨rfl, rfl, rfl⟩
            clear ea3 b3 f3 r3 hW2 hwd2 hwd3
            gi_wp2
            first
              | exact ⟨⟨q + 1, Hlq.out, by simp, HE⟩, hmz _ rfl⟩
              | exact ⟨⟨q + 1, Hlq.out, congrArg (Value.int .i64) (HWq.out.trans (by simp)), HE⟩, hmz _ HWq.out⟩
          · obtain rfl : q = kl.length := by omega
            have hd3 : ¬ (kl.length : Int) < (kl.length : Int) := by omega
            obtain ⟨hkp, hbx⟩ := hst2.out
            obtain ⟨j1, j2, j3, j4, j5, j6⟩ := HsB.out
            have hkl : (kidN G s.i).length = kl.length := by rw [HKN.out, List.length_map]
            have hse := sF_end Hacc2.out
            have hde := dF_end Hacc2.out
            rw [hkl] at hse hde
            rw [hse, hde] at hbx
            have hcw := hCal.frm _ _ _ HcB.out (hkp.frm j6 hCal.lt.1)
            have ea2 := Lib.cell_of_heap hcw.all 0
            have b0 := Lib.cell_of_heap hbx 0
            have b1 := Lib.cell_of_heap hbx 1
            obtain ⟨c0, c1, c2, c4⟩ := hcw.row.cells Hlt.out
            have hset := hcw.row.set Hlt.out (sizeA (kidN G) s.i) (deepA (kidN G) s.i)
            obtain ⟨W7, hW7⟩ : ∃ W7, (wr.setCell ⟨ga, s.i * 2, none⟩ (.int .i64 (sizeA (kidN G) s.i : Nat))).setCell ⟨ga, s.i * 2 + 1, none⟩ (.int .i64 (deepA (kidN G) s.i : Nat)) = W7 := ⟨_, rfl⟩
            have hb7 : ∀ b, b ≠ ga → W7.heap[b]? = wr.heap[b]? := fun b hb => by
              rw [← hW7]
              exact (Below.heap_setCell _ ⟨ga, s.i * 2 + 1, none⟩ _ b hb).trans (Below.heap_setCell wr ⟨ga, s.i * 2, none⟩ _ b hb)
            have hs7 : W7.heap.size = wr.heap.size := by rw [← hW7]; simp
            have ho7 : W7.os = wr.os ∧ W7.tape = wr.tape ∧ W7.output = wr.output := by rw [← hW7]; exact ⟨rfl, rfl, rfl⟩
            rw [hW7] at hset
            obtain ⟨l1, l2, l3, l4, l5⟩ := HLT.out
            have hcN : MeC w N V.heap.size (ga + 1) ga (ga + 2) (ga + 2 + 1) (some ⟨bn, on, none⟩) RA nc rc r G (s.R ++ [s.i]) W7 := by
              refine ⟨⟨ho7.1.trans hcw.below.os, ho7.2.1.trans hcw.below.tape, ho7.2.2.trans hcw.below.output, by rw [hs7]; exact hcw.below.size, fun b hb => (hb7 b (by omega)).trans (hcw.below.block b hb)⟩, by rw [hs7]; exact hcw.size,
                (hb7 _ (by omega)).trans hcw.b0, (hb7 _ (by omega)).trans hcw.b1, (hb7 _ (by omega)).trans hcw.b2, (hb7 _ (by omega)).trans hcw.all, hset.congr (fun k _ => (szF_snoc _ _ _ _).symm) (fun k _ => (dpF_snoc _ _ _ _).symm), (hb7 _ (by omega)).trans hcw.v, fun y hy => ?_⟩
              rw [List.length_append, List.length_singleton]
              rcases List.mem_append.1 hy with h | h
              · have := HcB.out.deep y h; omega
              · simp at h; subst h
                rw [← hde, ← hkl]
                refine dF_le (fun z hz => ?_) (by omega) _
                have := HcB.out.deep z (Hkids.out z hz)
                omega
            have hst7 : KqSt N s.gl s.gf s.M G.nodes.length s.lf s.vs (upsN (kidN G) (metL G r)) s.q s.u W7 := by
              refine Hst.out.kept (by rw [hs7]; have := hkp.size; omega) fun b hN hb => ?_
              exact (hb7 b (by omega)).trans ((hkp.block b (by omega) (by omega)).trans (HbB.out.block b hb))
            have hKO : KeepsOthers W W7 := by
              refine ⟨by rw [hs7]; have := hkp.size; omega, fun b o hb ho => ?_⟩
              have h1 := (Array.getElem?_eq_some_iff.1 hb).1
              have h2 : b ≠ ga := fun e => by
                obtain ⟨cur, h3, _⟩ := HcB.out.row
                rw [← e] at h3
                have h4 := (HbB.out.block b h1).symm.trans h3
                rw [hb] at h4
                cases h4
                cases ho
              exact (hb7 b h2).trans ((hkp.block b (by omega) (by omega)).trans ((HbB.out.block b h1).trans hb))
            have HFin : Hid (KeepsOthers W W7 ∧ QAf (MeC w N V.heap.size (ga + 1) ga (ga + 2) (ga + 2 + 1) (some ⟨bn, on, none⟩) RA nc rc r G) N G (metL G r) s W7) := ⟨hKO, hcN, hst7⟩
            have hiI2 : (s.i : Int) < (G.nodes.length : Int) := by have := Hlt.out; omega
            clear hst2 hkp hbx j1 j2 j3 j4 j5 j6 hkl hse hde hcw hset hb7 hs7 ho7 l1 l2 l3 l4 l5 hcN hst7 hKO hq hlq
            gi_wp2
            exact HFin.out
end Go.Proofs.YtdcbngimgpdjoaaDoor
