/- graph.Uses. Conditions: as Reach's. -/
import Derived.Test.YtdcbngimgpdjoaaDoorGe
namespace Go.Proofs.YtdcbngimgpdjoaaDoor
open Go.RowKit Go.Shelf Go.Deep
attribute [local go_sem] Oper.semAt_some
/-- How often k is used by these. -/
def usedBy (kids : Nat → List Nat) (l : List Nat) (k : Nat) : Nat := (l.map fun i => (kids i).count k).sum
def usesF (G : Gr) (root : Nat) (l : List Nat) (k : Nat) : Nat := (if k = root then 1 else 0) + usedBy (kidN G) l k
def usesL (G : Gr) (root : Int) : List Nat := if isB G root then (List.range G.nodes.length).map (usesF G root.toNat (metL G root.toNat)) else []
theorem usedBy_snoc (kids : Nat → List Nat) (l : List Nat) (i k : Nat) : usedBy kids (l ++ [i]) k = usedBy kids l k + (kids i).count k := by simp [usedBy]
theorem restK_all {kids : Nat → List Nat} {n : Nat} : ∀ (l pre : List Nat), (pre ++ l).Nodup → (∀ x ∈ l, x < n) → restK kids n pre = restK kids n (pre ++ l) + (l.map fun i => (kids i).length).sum := by
  intro l
  induction l with
  | nil => intro pre _ _; simp
  | cons i l ih =>
    intro pre h hl
    have h' : (pre ++ [i] ++ l).Nodup := by simpa using h
    have hi : i ∉ pre := by
      intro hi
      rw [List.nodup_append] at h
      exact h.2.2 i hi i List.mem_cons_self rfl
    have h1 := ih (pre ++ [i]) h' fun x hx => hl x (List.mem_cons_of_mem _ hx)
    rw [restK_step hi n, if_pos (hl i List.mem_cons_self), h1]
    simp; omega
theorem usedBy_le (kids : Nat → List Nat) (l : List Nat) (k : Nat) : usedBy kids l k ≤ (l.map fun i => (kids i).length).sum := by
  induction l with
  | nil => simp [usedBy]
  | cons i l ih =>
    have := List.count_le_length (a := k) (l := kids i)
    simp only [usedBy, List.map_cons, List.sum_cons] at ih ⊢
    omega
theorem RightG.uses {G : Gr} (h : RightG G) {l : List Nat} (hn : l.Nodup) (hl : ∀ x ∈ l, x < G.nodes.length) (root k : Nat) : usesF G root l k ≤ 20001 := by
  have h1 := restK_all (kids := kidN G) l [] (by simpa using hn) hl
  rw [restK_sum G _ (Nat.le_refl _), List.take_length] at h1
  have h2 := usedBy_le (kidN G) l k
  have h3 := h.sum
  unfold usesF
  split <;> omega
/-- Uses' boxes, and its row. -/
structure UsC (w : World) (N P B B1 B2 OB : Nat) (NA RA : Option Addr) (n nc m rc root : Nat) (f : List Nat → Nat → Nat) (vis : List Nat) (kO : Nat) (W : World) : Prop where
  below : Below w.heap.size w W
  size : N ≤ W.heap.size
  b1 : W.heap[B1]? = some (.cells #[.slice NA n nc, .slice RA m rc] 25 (0, 0))
  b2 : W.heap[B2]? = some (.cells #[.int .i64 root] 3 (0, 0))
  p : W.heap[P]? = some (.cells #[.slice NA n nc, .slice RA m rc] 25 (0, 0))
  box : W.heap[B]? = some (.cells #[.slice (some ⟨OB, 0, none⟩) n n] 23 (0, 0))
  row : W.rowIs OB 3 n fun k => .int .i64 (f vis k : Nat)
  own : kO = OB
theorem rowIs_heap {W : World} {b n : Nat} {t : TypeId} {f : Nat → Value} (h : W.rowIs b t n f) : ∃ cs, W.heap[b]? = some (Obj.cells cs t (0, 0)) := by
  obtain ⟨c, h1, _⟩ := h
  exact ⟨c, h1⟩
theorem Calm.rowIs {M b n : Nat} {t : TypeId} {f : Nat → Value} : Calm M (fun W => W.rowIs b t n f) := fun W l o o' _ h hc hs => by
  obtain ⟨cs, h1⟩ := rowIs_heap hs
  exact hs.of_block (World.putObj_heap_other (by rintro rfl; rw [h] at h1; cases h1; cases hc))
theorem UsC.calm {M : Nat} {w : World} {N P B B1 B2 OB : Nat} {NA RA : Option Addr} {n nc m rc root : Nat} {f : List Nat → Nat → Nat} (hM : w.heap.size ≤ M) (vis : List Nat) (kO : Nat) : Calm M (UsC w N P B B1 B2 OB NA RA n nc m rc root f vis kO) := fun W l o o' hl h hc hs =>
  ⟨Calm.below hM W l o o' hl h hc hs.below, by simpa using hs.size, Calm.row (B := M) W l o o' hl h hc hs.b1, Calm.row (B := M) W l o o' hl h hc hs.b2, Calm.row (B := M) W l o o' hl h hc hs.p, Calm.row (B := M) W l o o' hl h hc hs.box,
    Calm.rowIs (M := M) W l o o' hl h hc hs.row, hs.own⟩
theorem UsC.frm {w : World} {N P B B1 B2 OB : Nat} {NA RA : Option Addr} {n nc m rc root : Nat} {f : List Nat → Nat → Nat} (hw : w.heap.size ≤ N) (hP : P < N) (hB : B < N) (hB1 : B1 < N) (hB2 : B2 < N) (hOB : OB < N) {vis : List Nat} {kO : Nat} {W W' : World}
    (h : UsC w N P B B1 B2 OB NA RA n nc m rc root f vis kO W) (hf : Frm N kO W W') : UsC w N P B B1 B2 OB NA RA n nc m rc root f vis kO W' := by
  have hs := h.size
  have hk : ∀ g, g < N → W'.heap[g]? = W.heap[g]? := fun g hg => hf.block g (by omega) (.inl hg)
  exact ⟨⟨hf.os.trans h.below.os, hf.tape.trans h.below.tape, hf.output.trans h.below.output, Nat.le_trans h.below.size hf.size, fun g hg => (hk g (by omega)).trans (h.below.block g hg)⟩, Nat.le_trans hs hf.size, (hk _ hB1).trans h.b1, (hk _ hB2).trans h.b2,
    (hk _ hP).trans h.p, (hk _ hB).trans h.box, h.row.of_block (hk _ hOB), h.own⟩
theorem UsC.cal {w : World} {N P B B1 B2 OB : Nat} {NA RA : Option Addr} {G : Gr} {nc m rc root : Nat} {f : List Nat → Nat → Nat} (hw : w.heap.size ≤ N) (hP : P < N) (hB : B < N) (hB1 : B1 < N) (hB2 : B2 < N) (hOB : OB < N) (hN : NdsAt w w.heap.size NA G.nodes) :
    Cal (UsC w N P B B1 B2 OB NA RA G.nodes.length nc m rc root f) N G NA RA nc m rc root B1 B2 :=
  ⟨fun _ _ _ _ h hf => h.frm hw hP hB hB1 hB2 hOB hf, fun _ _ _ h => ⟨by rw [h.own]; exact Nat.lt_of_lt_of_le hOB h.size, h.size⟩, fun _ _ _ h => ⟨Lib.cell_of_heap h.b1 0, Lib.cell_of_heap h.b1 1, Lib.cell_of_heap h.b2 0⟩,
    fun _ _ _ h => (hN.below h.below (Nat.le_refl _)).more hw⟩
theorem rowM (w : World) (z : Value) (n : Nat) (t : TypeId) : ∃ V, w.alloc (.cells (madeCells #[z] n) t) = V ∧ Below w.heap.size w V ∧ V.rowIs w.heap.size t n (fun _ => z) ∧ V.heap.size = w.heap.size + 1 :=
  ⟨_, rfl, (Below.refl _ w).alloc (Nat.le_refl _) _, World.rowIs_made w z n t, by simp⟩
theorem UsC.store {w : World} {N P B B1 B2 OB : Nat} {NA RA : Option Addr} {n nc m rc root : Nat} {f : List Nat → Nat → Nat} {vis : List Nat} {kO : Nat} {W : World} (h : UsC w N P B B1 B2 OB NA RA n nc m rc root f vis kO W)
    (hw : w.heap.size ≤ OB) (hP : P ≠ OB) (hB : B ≠ OB) (hB1 : B1 ≠ OB) (hB2 : B2 ≠ OB) (z : Nat) (f2 : List Nat → Nat → Nat) (vis' : List Nat) (hf : ∀ k, f2 vis' k = f vis k + if k = z then 1 else 0) (F : Nat) (hF : f vis z = F) :
    UsC w N P B B1 B2 OB NA RA n nc m rc root f2 vis' kO (W.setCell ⟨OB, z, none⟩ (.int .i64 ((F : Int) + 1))) := by
  have hk : ∀ g, g ≠ OB → (W.setCell ⟨OB, z, none⟩ (.int .i64 ((F : Int) + 1))).heap[g]? = W.heap[g]? := fun g hg => Below.heap_setCell W ⟨OB, z, none⟩ _ g hg
  refine ⟨h.below.setCell (p := ⟨OB, z, none⟩) hw _, by simpa using h.size, (hk _ hB1).trans h.b1, (hk _ hB2).trans h.b2, (hk _ hP).trans h.p, (hk _ hB).trans h.box, (h.row.set z _).congr fun k _ => ?_, h.own⟩
  by_cases e : k = z
  · subst e; rw [if_pos rfl, hf k, if_pos rfl, hF]; simp
  · rw [if_neg e, hf k, if_neg e]; simp
theorem ItSt.elsewhere {N gs n gw cw : Nat} {vis stk : List Nat} {W : World} {a : Addr} {v : Value} (h : ItSt N a.block gs n vis gw cw stk W) : ItSt N a.block gs n vis gw cw stk (W.setCell a v) :=
  h.kept (fun g _ _ hne => Below.heap_setCell W a v g hne) (.inl rfl)
set_option maxRecDepth 100000 in
set_option maxHeartbeats 2000000 in
theorem Uses_any (G : Gr) (v : Value) (root : Int) (w : World) (hG : GrAt w w.heap.size G v) (hok : G.ok) (hT : Tabs w) :
    Calls Tryd.prog 25 #[v, .int .i64 root] w fun e w' => ∃ u, e = .returned u ∧ (∃ A c, u = .slice A (usesL G root).length c ∧ IntsAt w' w'.heap.size A ((usesL G root).map Int.ofNat) ∧ (usesL G root).length ≤ c ∧ (A = none → c = 0)) ∧ Below w.heap.size w w' := by
  have hIs : Hid (∀ W, Below w.heap.size w W → Calls Tryd.prog 48 #[v, .int .i64 root] W fun r w' => r = .returned (.bool (isB G root)) ∧ Below W.heap.size W w') := fun W hW => is_any G v root W ((hG.below hW (Nat.le_refl _)).more hW.size) hok (hT.below hW)
  obtain ⟨NA, nc, RA, rc, rfl, hN, hR⟩ := hG.ex
  have hr : isB G root = false ∨ (isB G root = true ∧ ∃ r : Nat, root = r ∧ r < G.nodes.length ∧ RightG G) := by
    cases h : isB G root
    · exact .inl rfl
    · simp only [isB, Bool.and_eq_true, decide_eq_true_eq] at h
      exact .inr ⟨rfl, root.toNat, by omega, by omega, .of h.2⟩
  obtain ⟨V, hV, hbV, hrow, hsz⟩ := box2 w (.slice NA G.nodes.length nc) (.slice RA G.roots.length rc) 25
  have v0 : V.cell? ⟨w.heap.size, 0, none⟩ = some (.slice NA G.nodes.length nc) := Lib.cell_of_heap hrow 0
  have v1 : V.cell? ⟨w.heap.size, 1, none⟩ = some (.slice RA G.roots.length rc) := Lib.cell_of_heap hrow 1
  have HIs := Lib.hid (hIs.out V hbV)
  clear hIs
  rcases hr with hr | ⟨hr, r, rfl, hlt, hRG⟩
  · rw [hr] at HIs
    have HE : Hid (usesL G root = []) := by show _ = _; rw [usesL, hr]; rfl
    rw [HE.out]
    have HbV := Lib.hid hbV
    clear hsz hrow hG hN hR hok hT hr hbV
    go_enter Tryd.func25, Tryd.ntmps25
    go_wp2_with (go_at_call 48; refine HIs.out.mono ?_; rintro e w' ⟨rfl, hb⟩)
    go_ret
    exact ⟨_, rfl, ⟨none, 0, rfl, fun h => by simp at h, Nat.le_refl _, fun _ => rfl⟩, below_then HbV.out hb⟩
  · rw [hr] at HIs
    have HL : Hid (usesL G r = (List.range G.nodes.length).map (usesF G r (metL G r))) := by show _ = _; rw [usesL, hr]; simp
    rw [HL.out]
    have Hsz := Lib.hid hsz
    have Hrow := Lib.hid hrow
    have HbV := Lib.hid hbV
    have hnn := hRG.nodes
    clear hsz hrow hG hR hok hT hr hbV
    refine (callsIn_wide (n := 3)).1 ?_
    refine callsIn_of_wp_marks Tryd.func25 rfl trivial ?_ rfl
    simp only [Tryd.ntmps25, List.size_toArray, List.length_cons, List.length_nil, Nat.reduceAdd, Nat.reduceSub, Array.replicate_succ, Array.replicate_zero, List.push_toArray, List.append_toArray, List.nil_append, List.cons_append]
    have HG1 : Hid (∀ W, Below V.heap.size V W → W.cell? ⟨w.heap.size, 0, none⟩ = some (.slice NA G.nodes.length nc) ∧ W.cell? ⟨w.heap.size, 1, none⟩ = some (.slice RA G.roots.length rc)) := fun W h => by
      have hr := (h.block w.heap.size (by have := Hsz.out; omega)).trans Hrow.out
      exact ⟨Lib.cell_of_heap hr 0, Lib.cell_of_heap hr 1⟩
    gi_wp2_with (first
      | (refine ⟨trivial, ?_⟩; gi_at_call 48; refine (callsIn_wide.2 HIs.out).mono ?_; rintro e w1 ⟨rfl, hb⟩
         have hmake := run_make_row' (P := Tryd.prog) 23 3 (.int .i64 0) 8 rfl Tryd.infoIntZ rfl .i64 .i64 G.nodes.length (by omega) (by omega) w1
         obtain ⟨g0, g1⟩ := HG1.out w1 hb
         obtain ⟨M, hM, hbM, hrM, hsM⟩ := rowM w1 (.int .i64 0) G.nodes.length 3
         rw [hM] at hmake
         obtain ⟨X, hX, hbX, hrX, hsX⟩ := box1 M (.slice (some ⟨w1.heap.size, 0, none⟩) G.nodes.length G.nodes.length) 23
         have hrX1 : X.rowIs w1.heap.size 3 G.nodes.length (fun _ => .int .i64 0) := hrM.of_block (hbX.block _ (by omega))
         have x0 := hrX1.cell hlt
         have x1 := hrX1.frozen r
         have hsM' := hsM
         have xb := Lib.cell_of_heap hrX 0
         obtain ⟨g2, g3⟩ := HG1.out X (below_then hb (below_then hbM hbX))
         have y0 : (X.setCell ⟨w1.heap.size, r, none⟩ (.int .i64 1)).cell? ⟨w.heap.size, 0, none⟩ = some (.slice NA G.nodes.length nc) := (World.cell?_of_block (Below.heap_setCell X ⟨w1.heap.size, r, none⟩ _ _ (by have := hb.size; have := Hsz.out; show w.heap.size ≠ w1.heap.size; omega))).trans g2
         have y1 : (X.setCell ⟨w1.heap.size, r, none⟩ (.int .i64 1)).cell? ⟨w.heap.size, 1, none⟩ = some (.slice RA G.roots.length rc) := (World.cell?_of_block (Below.heap_setCell X ⟨w1.heap.size, r, none⟩ _ _ (by have := hb.size; have := Hsz.out; show w.heap.size ≠ w1.heap.size; omega))).trans g3
         have Hb := Lib.hid hb
         have HbM := Lib.hid hbM
         have HbX := Lib.hid hbX
         have HrX := Lib.hid hrX
         have HsM := Lib.hid hsM
         have HsX := Lib.hid hsX
         have HrX1 := Lib.hid hrX1
         clear hb hbM hrM hsM hbX hrX hsX hrX1 hsM')
      | (refine ⟨trivial, ?_⟩; gi_at_call 49; refine (callsIn_wide.2 (met_any _ _ _ _ _ _ _ _)).mono ?_; rintro e w'' ⟨rfl, rfl⟩))
    obtain ⟨D0, hD0⟩ : ∃ D0, X.setCell ⟨w1.heap.size, r, none⟩ (.int .i64 1) = D0 := ⟨_, rfl⟩
    rw [hD0]
    obtain ⟨Y, hY, hbY, hrY, hsY⟩ := box2 D0 (.slice NA G.nodes.length nc) (.slice RA G.roots.length rc) 25
    have hD0s : D0.heap.size = X.heap.size := by rw [← hD0]; simp
    rw [hY]
    obtain ⟨Z, hZ, hbZ, hrZ, hsZ⟩ := box1 Y (.int .i64 (r : Int)) 3
    rw [hZ]
    clear hY hZ hX hM hV v0 v1 hmake g0 g1 x0 x1 xb g2 g3 y0 y1
    have hsX := HsX.out
    have hsM := HsM.out
    have hb := Hb.out
    have hVs := hb.size
    have hsV := Hsz.out
    have hwV := HbV.out
    have hwX : Below w.heap.size w X := below_then hwV (below_then hb (below_then HbM.out HbX.out))
    have hwD : Below w.heap.size w D0 := by rw [← hD0]; exact hwX.setCell (p := ⟨w1.heap.size, r, none⟩) (by show w.heap.size ≤ w1.heap.size; omega) _
    have hwZ : Below w.heap.size w Z := below_then hwD (below_then hbY hbZ)
    have hDo : ∀ g, g ≠ w1.heap.size → D0.heap[g]? = X.heap[g]? := fun g hg => by rw [← hD0]; exact Below.heap_setCell X ⟨w1.heap.size, r, none⟩ _ g hg
    have hXP : X.heap[w.heap.size]? = some (.cells #[.slice NA G.nodes.length nc, .slice RA G.roots.length rc] 25 (0, 0)) := ((below_then hb (below_then HbM.out HbX.out)).block _ (by omega)).trans Hrow.out
    have hZP : Z.heap[w.heap.size]? = some (.cells #[.slice NA G.nodes.length nc, .slice RA G.roots.length rc] 25 (0, 0)) := (hbZ.block _ (by omega)).trans ((hbY.block _ (by omega)).trans ((hDo _ (by omega)).trans hXP))
    have hZB : Z.heap[M.heap.size]? = some (.cells #[.slice (some ⟨w1.heap.size, 0, none⟩) G.nodes.length G.nodes.length] 23 (0, 0)) := (hbZ.block _ (by omega)).trans ((hbY.block _ (by omega)).trans ((hDo _ (by omega)).trans HrX.out))
    have hZ1 : Z.heap[X.heap.size]? = some (.cells #[.slice NA G.nodes.length nc, .slice RA G.roots.length rc] 25 (0, 0)) := (hbZ.block _ (by omega)).trans (hD0s ▸ hrY)
    have hZ2 : Z.heap[X.heap.size + 1]? = some (.cells #[.int .i64 (r : Int)] 3 (0, 0)) := by rw [show X.heap.size + 1 = Y.heap.size by omega]; exact hrZ
    have hDr : D0.rowIs w1.heap.size 3 G.nodes.length fun k => .int .i64 (usesF G r [] k : Nat) := by
      rw [← hD0]
      refine (HrX1.out.set r (.int .i64 1)).congr fun k _ => ?_
      by_cases e : k = r <;> simp [usesF, usedBy, e]
    have hZr : Z.rowIs w1.heap.size 3 G.nodes.length fun k => .int .i64 (usesF G r [] k : Nat) := hDr.of_block ((hbZ.block _ (by omega)).trans (hbY.block _ (by omega)))
    have hwB : w.heap.size < w1.heap.size := by omega
    obtain ⟨N, hNd⟩ : ∃ N, N = Z.heap.size + 2 := ⟨_, rfl⟩
    have HLT : Hid (w.heap.size < w1.heap.size ∧ M.heap.size = w1.heap.size + 1 ∧ X.heap.size = w1.heap.size + 2 ∧ Z.heap.size = w1.heap.size + 4 ∧ N = w1.heap.size + 6) := ⟨by omega, by omega, by omega, by omega, by omega⟩
    clear hNd hwB hsX hsY hsZ hVs hsV hD0s hsM HrX1 HrX HbX HbM Hb HsX HsM hDr hrY hrZ hbY hbZ hb hXP hDo hD0 hwX hwD HG1 HIs Hrow Hsz HbV hwV
    generalize hPe : w.heap.size = P at *
    generalize hOe : w1.heap.size = OB at *
    generalize hBe : M.heap.size = B at *
    generalize hB1e : X.heap.size = B1 at *
    clear hOe hBe hB1e M X Y D0
    have HPe := Lib.hid hPe
    clear hPe
    have hCal : ∀ f, Cal (UsC w N P B B1 (B1 + 1) OB NA RA G.nodes.length nc G.roots.length rc r f) N G NA RA nc G.roots.length rc r B1 (B1 + 1) := fun f => by
      obtain ⟨_, _, _, _, _⟩ := HLT.out
      have h := HPe.out
      refine UsC.cal (by omega) (by omega) (by omega) (by omega) (by omega) (by omega) (by rw [h]; exact hN)
    have hCalm : ∀ f vis kO, Calm Z.heap.size (UsC w N P B B1 (B1 + 1) OB NA RA G.nodes.length nc G.roots.length rc r f vis kO) := fun f vis kO => UsC.calm (by obtain ⟨_, _, _, _, _⟩ := HLT.out; have h := HPe.out; omega) vis kO
    refine range_law (β := Told) rfl (by decide) (gf := 69) (lb := #[.pointer (some ⟨B1, 0, none⟩), .pointer (some ⟨B1 + 1, 0, none⟩)]) rfl trivial (enters_of Tryd.func69 (by kernel_rfl) rfl)
      (fun s => #[.int .i64 (s.i : Int)]) (fun _ => rfl)
      (MetRd (UsC w N P B B1 (B1 + 1) OB NA RA G.nodes.length nc G.roots.length rc r (usesF G r)) N G)
      (MetAf (UsC w N P B B1 (B1 + 1) OB NA RA G.nodes.length nc G.roots.length rc r (usesF G r)) N G)
      (fun _ _ _ => False)
      (fun W => ∃ kO, UsC w N P B B1 (B1 + 1) OB NA RA G.nodes.length nc G.roots.length rc r (usesF G r) (metL G r) kO W)
      (fun _ _ => False)
      (MetRd.calm (hCalm _)) (MetAf.calm (hCalm _)) (fun cd i => Calm.pure) (Calm.ex fun kO => hCalm _ _ kO) (fun cd => Calm.pure)
      (fun s => { tmps := #[.agg #[.slice NA G.nodes.length nc, .slice RA G.roots.length rc], .int .i64 (r : Int), .pointer (some ⟨P, 0, none⟩), undef, .slice none 0 0, .pointer (some ⟨B, 0, none⟩), .int .i64 (s.i : Int), undef, undef,
        .agg #[.slice NA G.nodes.length nc, .slice RA G.roots.length rc], .int .i64 (r : Int), .bool true, .bool false, .pointer (some ⟨P, 0, none⟩), .slice NA G.nodes.length nc, .int .i64 (G.nodes.length : Int), .slice (some ⟨OB, 0, none⟩) G.nodes.length G.nodes.length,
        .slice (some ⟨OB, 0, none⟩) G.nodes.length G.nodes.length, .int .i64 (r : Int), .pointer (some ⟨OB, r, none⟩), .int .i64 0, .int .i64 1, .pointer (some ⟨OB, r, none⟩),
        .agg #[.slice NA G.nodes.length nc, .slice RA G.roots.length rc], .int .i64 (r : Int),
        .func (.func 69) #[] #[.pointer (some ⟨B1, 0, none⟩), .pointer (some ⟨B1 + 1, 0, none⟩)], .int .i64 (s.i : Int), undef, undef, undef, undef, undef, undef, undef, undef, undef, undef, undef, undef, undef, undef, undef, undef, undef, undef, undef], defers := [] }) ?assign ?body ?iter ?done ?stop
    case assign =>
      intro lp s W K hK
      gi_wp2
      exact hK
    case iter =>
      intro lp Bk Bx o kBk kBx hY hk
      obtain ⟨l1, l2, l3, l4, l5⟩ := HLT.out
      have hP := HPe.out
      have hbW : Below Z.heap.size Z ((Z.alloc (.deferred (some []))).alloc o) := ((Below.refl _ Z).alloc (Nat.le_refl _) _).alloc (by simp) _
      refine metIter G NA RA nc G.roots.length rc r lp _ _ N _ _ hRG hlt (hCal _) OB ⟨?_, by simp; omega, (hbW.block _ (by omega)).trans hZ1, (hbW.block _ (by omega)).trans hZ2, (hbW.block _ (by omega)).trans hZP, (hbW.block _ (by omega)).trans hZB, hZr.of_block (hbW.block _ (by omega)), rfl⟩ (by simp; omega) Bk Bx kBk hY hk
      have h1 : Below w.heap.size w Z := hP ▸ hwZ
      exact below_then h1 hbW
    case done =>
      rintro D W hD ⟨kO, hc⟩ hK
      have hcb := Lib.cell_of_heap hc.box 0
      have Hc := Lib.hid hc
      clear hc
      gi_wp2
      refine ⟨by simp, .inl ⟨_, _, rfl, run_takeDeferred hK, ?_⟩⟩
      have hD2 : w.heap.size ≤ D := by obtain ⟨_, _, _, _, _⟩ := HLT.out; have h := HPe.out; omega
      obtain ⟨cs, hcs⟩ := rowIs_heap Hc.out.row
      have hneD : OB ≠ D := by
        rintro rfl
        rw [hK] at hcs; cases hcs
      refine ⟨.slice (some ⟨OB, 0, none⟩) G.nodes.length G.nodes.length, ?_, _, rfl, ?_, ?_⟩
      · simp [results, Tryd.f25, go_sem]
      · refine ⟨some ⟨OB, 0, none⟩, G.nodes.length, by simp, fun _ => ⟨OB, 0, rfl, by have := Hc.out.row.lt; simpa using this, fun k hk => ?_⟩, by simp, fun e => by cases e⟩
        simp only [List.length_map, List.length_range] at hk
        have h1 := Hc.out.row.cell hk
        rw [show nth (((List.range G.nodes.length).map (usesF G r (metL G r))).map Int.ofNat) k = ((usesF G r (metL G r) k : Nat) : Int) by simp [nth, hk], Nat.zero_add]
        exact (World.cell?_of_block (World.putObj_heap_other hneD)).trans h1
      · have h1 : Below w.heap.size w W := Hc.out.below
        have h2 := h1.trans (belowK_b (w := w) (Nat.le_refl _) W D (.deferred (some [])) (.deferred none) hD2 hK rfl rfl)
        first
          | exact h2
          | (rw [HPe.out] at h2; exact h2)
    case stop => exact fun D cd W hD hF => hF.elim
    case body =>
      rintro lp s W ⟨⟨kO, hc, hi⟩, hnd, hvl⟩
      obtain ⟨l1, l2, l3, l4, l5⟩ := HLT.out
      have hP := HPe.out
      have hvi : s.i < G.nodes.length := hvl s.i (by simp)
      have hbw := hc.below
      rw [hP] at hbw
      obtain ⟨bn, off, rfl, hbl, hnds⟩ := (hN.below hbw (by omega)) (by omega)
      obtain ⟨K, kc, hnd1⟩ := hnds s.i hvi
      have c3 := hnd1.c3
      have hkids := hnd1.kids
      have p0 := Lib.cell_of_heap hc.p 0
      obtain ⟨kl, hkl⟩ : ∃ l, (nd G.nodes s.i).kids = l := ⟨_, rfl⟩
      have HKN : Hid (kidN G s.i = kl.map Int.toNat) := by rw [← hkl]; rfl
      have HKr : Hid (∀ z ∈ kl, 0 ≤ z ∧ z < G.nodes.length) := by rw [← hkl]; exact hRG.kids s.i hvi
      rw [hkl] at c3 hkids
      have HKd := Lib.hid hkids
      have hkO := hc.own
      subst hkO
      have HBd : Hid (∀ k, usesF G r (s.vis ++ [s.i]) k ≤ 20001) := fun k => hRG.uses hnd hvl r k
      have Hc := Lib.hid hc
      have Hi := Lib.hid hi
      have hkm : kl.length ≤ 20001 := by
        have h1 := restK_all (kids := kidN G) [s.i] [] (by simp) (by simpa using hvi)
        rw [restK_sum G _ (Nat.le_refl _), List.take_length] at h1
        have := hRG.sum
        simp [HKN.out] at h1
        omega
      clear hnds hnd1 hkids hbw hc hi hkl hnd hvl hP hbl l1 l2 l3 l4 l5
      gi_wp2
      clear p0 c3
      gi_loopw [34] (fun idx w2 => ∃ j : Nat, j ≤ kl.length ∧ idx = .int .i64 (j : Int) ∧ Hid (UsC w N P B B1 (B1 + 1) kO (some ⟨bn, off, none⟩) RA G.nodes.length nc G.roots.length rc r (fun _ k => usesF G r s.vis k + ((kl.take j).map Int.toNat).count k) s.vis kO w2) ∧ Hid (ItSt N kO s.gs G.nodes.length (s.vis ++ [s.i]) s.gw s.cw s.stk w2) ∧ Hid (KeepsOthers W w2)) (fun idx _ => kl.length - (intOf idx).toNat)
      case atStart =>
        refine ⟨0, Nat.zero_le _, rfl, ?_, Hi, KeepsOthers.refl _⟩
        have h := Hc.out
        exact ⟨h.below, h.size, h.b1, h.b2, h.p, h.box, h.row.congr fun k _ => by simp, h.own⟩
      case round =>
        obtain ⟨j, hj, rfl, hu, hit, hkp⟩ := hrel
        by_cases hlt2 : j < kl.length
        · obtain ⟨bK, oK, rfl, hbK, hcK⟩ := HKd.out (by omega)
          have hbw2 : Below w.heap.size w wr := by have h := hu.out.below; first | exact h | (rw [HPe.out]; exact h)
          have hcj0 := hcK j hlt2
          have hwP := HPe.out
          have hsz := HLT.out
          have hwW := Hc.out.below
          have hcj : wr.cell? ⟨bK, oK + j, none⟩ = some (.int .i64 (nth kl j)) := by
            have hbP : bK < w.heap.size := by omega
            have hwW' : Below w.heap.size w W := by first | exact hwW | (rw [hwP]; exact hwW)
            exact (hbw2.cell (p := ⟨bK, oK + j, none⟩) hbP).trans ((hwW'.cell (p := ⟨bK, oK + j, none⟩) hbP).symm.trans hcj0)
          obtain ⟨z, hz⟩ : ∃ z : Nat, nth kl j = (z : Int) := ⟨(nth kl j).toNat, by have := (HKr.out _ (nth_mem hlt2)).1; omega⟩
          have hzn : z < G.nodes.length := by have := (HKr.out _ (nth_mem hlt2)).2; omega
          have hb0 := Lib.cell_of_heap hu.out.box 0
          have hrz := hu.out.row.cell hzn
          have hfz := hu.out.row.frozen z
          have hlt3 : (j : Int) < (kl.length : Int) := by omega
          have htk : (kl.take (j + 1)).map Int.toNat = (kl.take j).map Int.toNat ++ [z] := by rw [take_nth hlt2, hz]; simp
          obtain ⟨F, hF⟩ : ∃ F, usesF G r s.vis z + ((kl.take j).map Int.toNat).count z = F := ⟨_, rfl⟩
          have hFl : F ≤ 20001 := by
            have h1 := HBd.out z
            have h2 : ((kl.take j).map Int.toNat).count z ≤ (kidN G s.i).count z := by
              rw [HKN.out]
              exact List.Sublist.count_le _ ((List.take_sublist j kl).map _)
            unfold usesF at h1 hF
            rw [usedBy_snoc] at h1
            omega
          rw [hF] at hrz
          have hw1 : wrap64 ((F : Int) + 1) = F + 1 := IntWalk.wrap64_in _ (by omega)
          have HU : Hid (UsC w N P B B1 (B1 + 1) kO (some ⟨bn, off, none⟩) RA G.nodes.length nc G.roots.length rc r (fun _ k => usesF G r s.vis k + ((kl.take (j + 1)).map Int.toNat).count k) s.vis kO (wr.setCell ⟨kO, z, none⟩ (.int .i64 ((F : Int) + 1)))) := by
            obtain ⟨_, _, _, _, _⟩ := hsz
            refine UsC.store hu.out (by omega) (by omega) (by omega) (by omega) (by omega) z _ _ (fun k => ?_) F hF
            rw [htk, List.count_append]
            by_cases e : k = z
            · subst e; simp; omega
            · rw [if_neg e, List.count_eq_zero_of_not_mem (a := k) (l := [z]) (by simpa using e)]; omega
          have HI2 : Hid (ItSt N kO s.gs G.nodes.length (s.vis ++ [s.i]) s.gw s.cw s.stk (wr.setCell ⟨kO, z, none⟩ (.int .i64 ((F : Int) + 1)))) := ItSt.elsewhere (a := ⟨kO, z, none⟩) hit.out
          have HKp : Hid (KeepsOthers W (wr.setCell ⟨kO, z, none⟩ (.int .i64 ((F : Int) + 1)))) := hkp.out.trans (KeepsOthers.setCell _ _ _)
          rw [hz] at hcj
          clear hu hit hkp hbw2 hcj0 hcK hwP hsz hwW hz htk hF hbK
          gi_wp2
          go_roundw
          case rel => exact ⟨j + 1, by omega, by go_num, HU, HI2, HKp⟩
          case measure => simp [intOf]; omega
        · obtain rfl : j = kl.length := by omega
          have hd2 : ¬ (kl.length : Int) < (kl.length : Int) := by omega
          have HE : Hid (MetAf (UsC w N P B B1 (B1 + 1) kO (some ⟨bn, off, none⟩) RA G.nodes.length nc G.roots.length rc r (usesF G r)) N G s wr) := by
            have h := hu.out
            refine ⟨kO, ⟨h.below, h.size, h.b1, h.b2, h.p, h.box, h.row.congr fun k _ => ?_, rfl⟩, hit.out⟩
            rw [List.take_of_length_le (Nat.le_refl _), ← HKN.out]
            simp only [usesF, usedBy_snoc, Nat.add_assoc]
          gi_wp2
          exact ⟨hkp.out, HE.out⟩
end Go.Proofs.YtdcbngimgpdjoaaDoor
