/- graph.Reach. Conditions: the graph's numbers and texts are as the language lets them be; utf8's tables lie in the world. -/
import Derived.Test.YtdcbngimgpdjoaaDoorGm
namespace Go.Proofs.YtdcbngimgpdjoaaDoor
open Go.RowKit Go.Shelf Go.Deep
attribute [local go_sem] Oper.semAt_some
/-- Is a node one of a graph's that is right? -/
def isB (G : Gr) (root : Int) : Bool := decide (0 ≤ root) && decide (root < G.nodes.length) && rightB G
def reachL (G : Gr) (root : Int) : List Nat := if isB G root then metL G root.toNat else []
theorem ItSt.calm {M N kO gs n gw cw : Nat} {vis stk : List Nat} : Calm M (ItSt N kO gs n vis gw cw stk) := fun W l o o' hl h hc hs => by
  obtain ⟨_, _, _, cur, hcur⟩ := ownsRow_block hs.way
  have hne : ∀ g cs t fr, W.heap[g]? = some (Obj.cells cs t fr) → (W.putObj l o').heap[g]? = W.heap[g]? := fun g cs t fr hg =>
    World.putObj_heap_other (by rintro rfl; rw [h] at hg; cases hg; cases hc)
  have hsb : ∃ cs t fr, W.heap[gs]? = some (Obj.cells cs t fr) := by
    obtain ⟨c, h1, _⟩ := hs.seen
    exact ⟨_, _, _, h1⟩
  obtain ⟨_, _, _, hs1⟩ := hsb
  exact ⟨hs.seen.of_block (hne _ _ _ _ hs1), hs.lo, hs.ne, Calm.owns (B := M) W l o o' hl h hc hs.way, hs.wne, hs.wgs⟩
theorem MetRd.calm {M N : Nat} {C : List Nat → Nat → World → Prop} {G : Gr} (hC : ∀ vis kO, Calm M (C vis kO)) (s : Told) : Calm M (MetRd C N G s) := fun W l o o' hl h hc hs => by
  obtain ⟨kO, h1, h2⟩ := hs.st
  exact ⟨⟨kO, hC _ _ W l o o' hl h hc h1, ItSt.calm W l o o' hl h hc h2⟩, hs.nd, hs.lt⟩
theorem MetAf.calm {M N : Nat} {C : List Nat → Nat → World → Prop} {G : Gr} (hC : ∀ vis kO, Calm M (C vis kO)) (s : Told) : Calm M (MetAf C N G s) := fun W l o o' hl h hc hs => by
  obtain ⟨kO, h1, h2⟩ := hs
  exact ⟨kO, hC _ _ W l o o' hl h hc h1, ItSt.calm W l o o' hl h hc h2⟩
theorem box1 (w : World) (v : Value) (t : TypeId) : ∃ V, w.alloc (.cells #[v] t) = V ∧ Below w.heap.size w V ∧ V.heap[w.heap.size]? = some (.cells #[v] t (0, 0)) ∧ V.heap.size = w.heap.size + 1 :=
  ⟨_, rfl, (Below.refl _ w).alloc (Nat.le_refl _) _, World.alloc_heap_new w _, by simp⟩
/-- Reach's boxes, and its row. -/
structure ReC (w : World) (N B B1 B2 : Nat) (NA RA : Option Addr) (n nc m rc root : Nat) (vis : List Nat) (kO : Nat) (W : World) : Prop where
  below : Below w.heap.size w W
  size : N ≤ W.heap.size
  b1 : W.heap[B1]? = some (.cells #[.slice NA n nc, .slice RA m rc] 25 (0, 0))
  b2 : W.heap[B2]? = some (.cells #[.int .i64 root] 3 (0, 0))
  box : ∃ u, W.heap[B]? = some (.cells #[u] 23 (0, 0)) ∧ W.ownsRow N 3 1 u vis.length (ncells vis) ∧ (u.ownBlock = some kO ∨ (u.ownBlock = none ∧ kO = B))
theorem ReC.calm {M : Nat} {w : World} {N B B1 B2 : Nat} {NA RA : Option Addr} {n nc m rc root : Nat} (hM : w.heap.size ≤ M) (vis : List Nat) (kO : Nat) : Calm M (ReC w N B B1 B2 NA RA n nc m rc root vis kO) := fun W l o o' hl h hc hs => by
  obtain ⟨u, h1, h2, h3⟩ := hs.box
  exact ⟨Calm.below hM W l o o' hl h hc hs.below, by simpa using hs.size, Calm.row (B := M) W l o o' hl h hc hs.b1, Calm.row (B := M) W l o o' hl h hc hs.b2,
    u, Calm.row (B := M) W l o o' hl h hc h1, Calm.owns (B := M) W l o o' hl h hc h2, h3⟩
theorem ownsRow_same {W W' : World} {N : Nat} {e : TypeId} {s n : Nat} {v : Value} {xs : List Value} (h : W.ownsRow N e s v n xs) (hb : ∀ g, v.ownBlock = some g → g < W.heap.size → W'.heap[g]? = W.heap[g]?) : W'.ownsRow N e s v n xs := by
  refine ⟨h.1, ?_⟩
  rcases h.2 with h0 | ⟨g, cap, cur, rfl, hB, hg, r⟩
  · exact .inl h0
  · exact .inr ⟨g, cap, cur, rfl, hB, (hb g rfl (Array.getElem?_eq_some_iff.1 hg).1).trans hg, r⟩
theorem ReC.frm {w : World} {N B B1 B2 : Nat} {NA RA : Option Addr} {n nc m rc root : Nat} (hw : w.heap.size ≤ N) (hB : B < N) (hB1 : B1 < N) (hB2 : B2 < N) {vis : List Nat} {kO : Nat} {W W' : World} (h : ReC w N B B1 B2 NA RA n nc m rc root vis kO W)
    (hf : Frm N kO W W') : ReC w N B B1 B2 NA RA n nc m rc root vis kO W' := by
  have hs := h.size
  have hk : ∀ g, g < N → W'.heap[g]? = W.heap[g]? := fun g hg => hf.block g (by omega) (.inl hg)
  obtain ⟨u, h1, h2, h3⟩ := h.box
  refine ⟨⟨hf.os.trans h.below.os, hf.tape.trans h.below.tape, hf.output.trans h.below.output, Nat.le_trans h.below.size hf.size, fun g hg => (hk g (by omega)).trans (h.below.block g hg)⟩, Nat.le_trans hs hf.size, (hk _ hB1).trans h.b1, (hk _ hB2).trans h.b2,
    u, (hk _ hB).trans h1, ownsRow_same h2 fun g hg hl => hf.block g hl (.inr ?_), h3⟩
  rcases h3 with h3 | ⟨h3, _⟩
  · rw [h3] at hg; cases hg; rfl
  · rw [h3] at hg; cases hg
theorem ReC.cal {w : World} {N B B1 B2 : Nat} {NA RA : Option Addr} {G : Gr} {nc m rc root : Nat} (hw : w.heap.size ≤ N) (hB : B < N) (hB1 : B1 < N) (hB2 : B2 < N) (hN : NdsAt w w.heap.size NA G.nodes) :
    Cal (ReC w N B B1 B2 NA RA G.nodes.length nc m rc root) N G NA RA nc m rc root B1 B2 := by
  refine ⟨fun vis kO W W' h hf => h.frm hw hB hB1 hB2 hf, fun vis kO W h => ⟨?_, h.size⟩, fun vis kO W h => ⟨Lib.cell_of_heap h.b1 0, Lib.cell_of_heap h.b1 1, Lib.cell_of_heap h.b2 0⟩, fun vis kO W h => (hN.below h.below (Nat.le_refl _)).more hw⟩
  obtain ⟨u, h1, h2, h3⟩ := h.box
  rcases h3 with h3 | ⟨h3, rfl⟩
  · rcases h2.2 with ⟨rfl, _⟩ | ⟨g, cap, cur, rfl, _, hg, _⟩
    · cases h3
    · cases h3; exact (Array.getElem?_eq_some_iff.1 hg).1
  · exact Nat.lt_of_lt_of_le hB h.size
/-- 'append' of one node to a row of the caller's. -/
theorem wpListIn_appO {F : Fence} {rm : Nat} {W : World} {ops : Array Oper} {rest : List Oper} {o : Oper} {a : Act} {Q : Exit → Act → World → Prop} (hgd : o.guard = none) (s x : Operand) (t : TypeId)
    (ho : o.op = .call { callee := .builtin .append, args := #[s, x], argTypes := #[t, t] }) (ht : Tryd.prog.underlying t = some (.slice 3)) {N : Nat} (v : Value) (l : List Nat) (z : Nat)
    (hs : a.eval s = v) (h : W.ownsRow N 3 1 v l.length (ncells l)) (n0 : Nat) (hn0 : n0 = W.heap.size) (hx : a.eval x = .slice (some ⟨n0, 0, none⟩) 1 1) (hl : l.length ≤ 1000000000) (hB : N ≤ W.heap.size)
    (k : ∀ v' w', w'.ownsRow N 3 1 v' (l ++ [z]).length (ncells (l ++ [z])) → (W.alloc (.cells #[.int .i64 (z : Int)] 3)).grownBy w' v.ownBlock → (∃ g cap, v' = .slice (some ⟨g, 0, none⟩) (l ++ [z]).length cap ∧ (v.ownBlock = some g ∨ g = W.heap.size + 1)) → wpListIn F rm Tryd.prog ops Q rest (a.put o.dst v') w') :
    wpListIn F rm Tryd.prog ops Q (o :: rest) a (W.alloc (.cells #[.int .i64 (z : Int)] 3)) := by
  obtain ⟨i0, hi, hz0, hz1, hz2⟩ := info_parts Tryd.infoIntZ
  refine wpListIn_append_own_at _ hgd s x t ho N _ i0 _ 1 8 ht hi hz0 hz1 hz2 rfl (by decide) _ _ _ hs (h.alloc _) ⟨n0, 0, none⟩ 1 1 [.int .i64 (z : Int)] hx rfl ?_ (fun u hu => by simp at hu; subst hu; rfl) (by unfold maxLen; omega) (by omega) (by simp; omega) ?_
  · intro j u hj
    match j, hj with
    | 0, hj => simp at hj; subst hj; subst hn0; simp [Addr.add]
    | j + 1, hj => simp at hj
  · intro v' w' h1 h2 h3 h4
    refine k v' w' (by simpa [ncells] using h1) h2 ?_
    rcases h1.2 with ⟨_, h0⟩ | ⟨g', cap', cur', rfl, _⟩
    · omega
    · refine ⟨g', cap', by simp, ?_⟩
      rcases h4 with h4 | h4
      · exact .inl h4.symm
      · right; simpa [Value.ownBlock] using h4
theorem ReC.step {w : World} {N B B1 B2 : Nat} {NA RA : Option Addr} {n nc m rc root : Nat} (hw : w.heap.size ≤ B) (hB : B < N) (hB1 : B1 < N) (hB2 : B2 < N) (h1 : B1 ≠ B) (h2 : B2 ≠ B) {vis : List Nat} {kO i : Nat} {W w' : World} {o : Obj} {u v' : Value}
    (h : ReC w N B B1 B2 NA RA n nc m rc root vis kO W) (hu : W.heap[B]? = some (.cells #[u] 23 (0, 0))) (ho : W.ownsRow N 3 1 u vis.length (ncells vis)) (hg : (W.alloc o).grownBy w' u.ownBlock)
    (hv : w'.ownsRow N 3 1 v' (vis ++ [i]).length (ncells (vis ++ [i]))) {g : Nat} (hg1 : v'.ownBlock = some g) (hg2 : u.ownBlock = some g ∨ g = W.heap.size + 1) :
    (w'.cell? ⟨B, 0, none⟩ = some u ∧ w'.frozen? ⟨B, 0, none⟩ = false) ∧ KeepsOthers W (w'.setCell ⟨B, 0, none⟩ v') ∧ ReC w N B B1 B2 NA RA n nc m rc root (vis ++ [i]) g (w'.setCell ⟨B, 0, none⟩ v') ∧
      ∀ gs gw cw n' vs stk, ItSt N kO gs n' vs gw cw stk W → ItSt N g gs n' vs gw cw stk (w'.setCell ⟨B, 0, none⟩ v') := by
  have hs := h.size
  have hoN : ∀ b, u.ownBlock = some b → N ≤ b ∧ b = kO ∧ b < W.heap.size ∧ ∃ cur, W.heap[b]? = some (.cells cur 3 (0, 0)) := by
    intro b hb
    obtain ⟨u0, q1, q2, q3⟩ := h.box
    rw [hu] at q1
    cases q1
    rcases ho.2 with ⟨rfl, _⟩ | ⟨g', cap, cur, rfl, hb', hg', _⟩
    · cases hb
    · cases hb
      refine ⟨hb', ?_, (Array.getElem?_eq_some_iff.1 hg').1, cur, hg'⟩
      rcases q3 with q3 | ⟨q3, _⟩
      · cases q3; rfl
      · cases q3
  have hk : ∀ b, b < W.heap.size → u.ownBlock ≠ some b → w'.heap[b]? = W.heap[b]? := fun b hb hne =>
    (hg.block b (by simp; omega) (fun e => hne e.symm)).trans (Below.heap_alloc W o b hb)
  have hlow : ∀ b, b < N → w'.heap[b]? = W.heap[b]? := fun b hb => hk b (by omega) fun e => by have := (hoN b e).1; omega
  have hst : ∀ b, b ≠ B → (w'.setCell ⟨B, 0, none⟩ v').heap[b]? = w'.heap[b]? := fun b hb => Below.heap_setCell w' ⟨B, 0, none⟩ v' b hb
  have hwB : w'.heap[B]? = some (.cells #[u] 23 (0, 0)) := (hlow B hB).trans hu
  have hgN : N ≤ g := by
    rcases hg2 with e | rfl
    · exact (hoN g e).1
    · omega
  have hsz : W.heap.size ≤ w'.heap.size := Nat.le_trans (by simp) hg.size
  refine ⟨⟨Lib.cell_of_heap hwB 0, Go.Joins.unfrozen_of_block hwB 0⟩, ?_, ⟨?_, ?_, ?_, ?_, v', Go.Joins.block_setCell hwB v', ?_, .inl hg1⟩, ?_⟩
  · refine ((KeepsOthers.alloc W o).trans (KeepsOthers.of_grownBy hg fun j o' ej hj => ?_)).trans (KeepsOthers.setCell _ _ _)
    obtain ⟨_, _, hlt, cur, hc⟩ := hoN j ej
    rw [Below.heap_alloc W o j hlt, hc] at hj
    cases hj; rfl
  · exact ⟨hg.os.trans h.below.os, hg.tape.trans h.below.tape, hg.output.trans h.below.output, by have := h.below.size; simp; omega, fun b hb => (hst b (by omega)).trans ((hlow b (by omega)).trans (h.below.block b hb))⟩
  · simp; omega
  · exact (hst _ h1).trans ((hlow _ hB1).trans h.b1)
  · exact (hst _ h2).trans ((hlow _ hB2).trans h.b2)
  · exact ownsRow_same hv fun b hb _ => hst b (by rw [hg1] at hb; cases hb; omega)
  · intro gs gw cw n' vs stk hi
    refine hi.kept (fun b hb hlt hne => (hst b (by omega)).trans (hk b hlt fun e => hne (hoN b e).2.1)) ?_
    rcases hg2 with e | rfl
    · exact .inl (hoN g e).2.1
    · exact .inr (by omega)
set_option maxRecDepth 100000 in
set_option maxHeartbeats 2000000 in
theorem Reach_any (G : Gr) (v : Value) (root : Int) (w : World) (hG : GrAt w w.heap.size G v) (hok : G.ok) (hT : Tabs w) :
    Calls Tryd.prog 21 #[v, .int .i64 root] w fun e w' => ∃ u, e = .returned u ∧ (∃ A c, u = .slice A (reachL G root).length c ∧ IntsAt w' w'.heap.size A ((reachL G root).map Int.ofNat) ∧ (reachL G root).length ≤ c ∧ (A = none → c = 0)) ∧ Below w.heap.size w w' := by
  have hIs : Hid (∀ W, Below w.heap.size w W → Calls Tryd.prog 48 #[v, .int .i64 root] W fun r w' => r = .returned (.bool (isB G root)) ∧ Below W.heap.size W w') := fun W hW => is_any G v root W ((hG.below hW (Nat.le_refl _)).more hW.size) hok (hT.below hW)
  obtain ⟨NA, nc, RA, rc, rfl, hN, hR⟩ := hG.ex
  have hr : isB G root = false ∨ (isB G root = true ∧ ∃ r : Nat, root = r ∧ r < G.nodes.length ∧ RightG G) := by
    cases h : isB G root
    · exact .inl rfl
    · simp only [isB, Bool.and_eq_true, decide_eq_true_eq] at h
      exact .inr ⟨rfl, root.toNat, by omega, by omega, .of h.2⟩
  obtain ⟨V, hV, hbV, hrow, hsz⟩ := box2 w (.slice NA G.nodes.length nc) (.slice RA G.roots.length rc) 25
  have v0 : V.cell? ⟨w.heap.size, 0, none⟩ = some (.slice NA G.nodes.length nc) := Lib.cell_of_heap hrow 0
  have v1 : V.cell? ⟨w.heap.size, 1, none⟩ = some (.slice RA G.roots.length rc) := Lib.cell_of_heap hrow 1
  have HIs := Lib.hid (hIs.out V hbV)
  clear hIs
  rcases hr with hr | ⟨hr, r, rfl, hlt, hRG⟩
  · rw [hr] at HIs
    have HE : Hid (reachL G root = []) := by show _ = _; rw [reachL, hr]; rfl
    rw [HE.out]
    have HbV := Lib.hid hbV
    clear hsz hrow hG hN hR hok hT hr hbV
    go_enter Tryd.func21, Tryd.ntmps21
    go_wp2_with (go_at_call 48; refine HIs.out.mono ?_; rintro e w' ⟨rfl, hb⟩)
    go_ret
    exact ⟨_, rfl, ⟨none, 0, rfl, fun h => by simp at h, Nat.le_refl _, fun _ => rfl⟩, below_then HbV.out hb⟩
  · rw [hr] at HIs
    have HL : Hid (reachL G r = metL G r) := by show _ = _; rw [reachL, hr]; simp
    rw [HL.out]
    have Hsz := Lib.hid hsz
    have Hrow := Lib.hid hrow
    have HbV := Lib.hid hbV
    clear hsz hrow hG hR hok hT hr hbV
    refine (callsIn_wide (n := 3)).1 ?_
    refine callsIn_of_wp_marks Tryd.func21 rfl trivial ?_ rfl
    simp only [Tryd.ntmps21, List.size_toArray, List.length_cons, List.length_nil, Nat.reduceAdd, Nat.reduceSub, Array.replicate_succ, Array.replicate_zero, List.push_toArray, List.append_toArray, List.nil_append, List.cons_append]
    have HG1 : Hid (∀ W, Below V.heap.size V W → W.cell? ⟨w.heap.size, 0, none⟩ = some (.slice NA G.nodes.length nc) ∧ W.cell? ⟨w.heap.size, 1, none⟩ = some (.slice RA G.roots.length rc)) := fun W h => by
      have hr := (h.block w.heap.size (by have := Hsz.out; omega)).trans Hrow.out
      exact ⟨Lib.cell_of_heap hr 0, Lib.cell_of_heap hr 1⟩
    gi_wp2_with (first
      | (refine ⟨trivial, ?_⟩; gi_at_call 48; refine (callsIn_wide.2 HIs.out).mono ?_; rintro e w1 ⟨rfl, hb⟩
         obtain ⟨X, hX, hbX, hrX, hsX⟩ := box1 w1 (.slice none 0 0) 23
         obtain ⟨g0, g1⟩ := HG1.out X (below_then hb hbX)
         have Hb := Lib.hid hb
         have HbX := Lib.hid hbX
         have HrX := Lib.hid hrX
         have HsX := Lib.hid hsX
         clear hb hbX hrX hsX)
      | (refine ⟨trivial, ?_⟩; gi_at_call 49; refine (callsIn_wide.2 (met_any _ _ _ _ _ _ _ _)).mono ?_; rintro e w'' ⟨rfl, rfl⟩))
    obtain ⟨Y, hY, hbY, hrY, hsY⟩ := box2 X (.slice NA G.nodes.length nc) (.slice RA G.roots.length rc) 25
    rw [hY]
    obtain ⟨Z, hZ, hbZ, hrZ, hsZ⟩ := box1 Y (.int .i64 (r : Int)) 3
    rw [hZ]
    clear hY hZ hX hV v0 v1
    have hsX := HsX.out
    have hb := Hb.out
    have hVs := hb.size
    have hsV := Hsz.out
    have hwV := HbV.out
    have hbX := HbX.out
    have hZs : Z.heap.size = w1.heap.size + 3 := by omega
    have hwZ : Below w.heap.size w Z := below_then hwV (below_then hb (below_then hbX (below_then hbY hbZ)))
    have h0 : ReC w (Z.heap.size + 2) w1.heap.size X.heap.size (X.heap.size + 1) NA RA G.nodes.length nc G.roots.length rc r [] w1.heap.size Z → True := fun _ => trivial
    have hZB : Z.heap[w1.heap.size]? = some (.cells #[.slice none 0 0] 23 (0, 0)) := (hbZ.block _ (by omega)).trans ((hbY.block _ (by omega)).trans HrX.out)
    have hZ1 : Z.heap[X.heap.size]? = some (.cells #[.slice NA G.nodes.length nc, .slice RA G.roots.length rc] 25 (0, 0)) := (hbZ.block _ (by omega)).trans hrY
    have hZ2 : Z.heap[X.heap.size + 1]? = some (.cells #[.int .i64 (r : Int)] 3 (0, 0)) := by rw [← hsY]; exact hrZ
    clear h0 hrY hrZ hbY hbZ hb hbX Hb HbX HrX HsX HIs HG1 g0 g1 Hrow
    have hwB : w.heap.size ≤ w1.heap.size := by omega
    obtain ⟨N, hNd⟩ : ∃ N, N = Z.heap.size + 2 := ⟨_, rfl⟩
    have HLT : Hid (w.heap.size ≤ w1.heap.size ∧ w1.heap.size < N ∧ X.heap.size < N ∧ X.heap.size + 1 < N ∧ X.heap.size = w1.heap.size + 1 ∧ Z.heap.size = w1.heap.size + 3 ∧ N = Z.heap.size + 2) := ⟨by omega, by omega, by omega, by omega, by omega, by omega, hNd⟩
    clear hNd hwB hZs hsX hsY hsZ hVs hsV
    generalize hBe : w1.heap.size = B at *
    generalize hB1e : X.heap.size = B1 at *
    clear hBe hB1e
    have hCal : Cal (ReC w N B B1 (B1 + 1) NA RA G.nodes.length nc G.roots.length rc r) N G NA RA nc G.roots.length rc r B1 (B1 + 1) :=
      by obtain ⟨_, _, _, _, _, _, _⟩ := HLT.out; exact ReC.cal (by omega) (by omega) (by omega) (by omega) hN
    have hCalm : ∀ vis kO, Calm Z.heap.size (ReC w N B B1 (B1 + 1) NA RA G.nodes.length nc G.roots.length rc r vis kO) := fun vis kO => ReC.calm (by obtain ⟨_, _, _, _, _, _, _⟩ := HLT.out; omega) vis kO
    refine range_law (β := Told) rfl (by decide) (gf := 69) (lb := #[.pointer (some ⟨B1, 0, none⟩), .pointer (some ⟨B1 + 1, 0, none⟩)]) rfl trivial (enters_of Tryd.func69 (by kernel_rfl) rfl)
      (fun s => #[.int .i64 (s.i : Int)]) (fun _ => rfl)
      (MetRd (ReC w N B B1 (B1 + 1) NA RA G.nodes.length nc G.roots.length rc r) N G)
      (MetAf (ReC w N B B1 (B1 + 1) NA RA G.nodes.length nc G.roots.length rc r) N G)
      (fun _ _ _ => False)
      (fun W => ∃ kO, ReC w N B B1 (B1 + 1) NA RA G.nodes.length nc G.roots.length rc r (metL G r) kO W)
      (fun _ _ => False)
      (MetRd.calm hCalm) (MetAf.calm hCalm) (fun cd i => Calm.pure) (Calm.ex fun kO => hCalm _ kO) (fun cd => Calm.pure)
      (fun s => { tmps := #[.agg #[.slice NA G.nodes.length nc, .slice RA G.roots.length rc], .int .i64 (r : Int), .pointer (some ⟨w.heap.size, 0, none⟩), undef, .slice none 0 0, .pointer (some ⟨B, 0, none⟩), .int .i64 (s.i : Int),
        .agg #[.slice NA G.nodes.length nc, .slice RA G.roots.length rc], .int .i64 (r : Int), .bool true, .bool false, .agg #[.slice NA G.nodes.length nc, .slice RA G.roots.length rc], .int .i64 (r : Int),
        .func (.func 69) #[] #[.pointer (some ⟨B1, 0, none⟩), .pointer (some ⟨B1 + 1, 0, none⟩)], .int .i64 (s.i : Int), undef, undef, undef, undef, undef], defers := [] }) ?assign ?body ?iter ?done ?stop
    case assign =>
      intro lp s W K hK
      gi_wp2
      exact hK
    case iter =>
      intro lp Bk Bx o kBk kBx hY hk
      obtain ⟨l1, l2, l3, l4, l5, l6, l7⟩ := HLT.out
      have hbW : Below Z.heap.size Z ((Z.alloc (.deferred (some []))).alloc o) := ((Below.refl _ Z).alloc (Nat.le_refl _) _).alloc (by simp) _
      refine metIter G NA RA nc G.roots.length rc r lp _ _ N _ _ hRG hlt hCal B ⟨below_then hwZ hbW, by simp; omega, (hbW.block _ (by omega)).trans hZ1, (hbW.block _ (by omega)).trans hZ2, _, (hbW.block _ (by omega)).trans hZB, ⟨rfl, .inl ⟨rfl, rfl⟩⟩, .inr ⟨rfl, rfl⟩⟩ (by simp; omega) Bk Bx kBk hY hk
    case done =>
      rintro D W hD ⟨kO, hc⟩ hK
      obtain ⟨u, q1, q2, q3⟩ := hc.box
      have hcb := Lib.cell_of_heap q1 0
      have Hc := Lib.hid hc
      have Hq2 := Lib.hid q2
      clear hc q2 q3 q1
      gi_wp2
      refine ⟨by simp, .inl ⟨_, _, rfl, run_takeDeferred hK, ?_⟩⟩
      have hD2 : w.heap.size ≤ D := by obtain ⟨_, _, _, _, _, _, _⟩ := HLT.out; omega
      have hneD : ∀ g, (∃ cs t fr, W.heap[g]? = some (Obj.cells cs t fr)) → g ≠ D := by
        rintro g ⟨cs, t, fr, hg⟩ rfl
        rw [hK] at hg; cases hg
      refine ⟨u, ?_, u, rfl, ?_, Hc.out.below.trans (belowK_b (w := w) (Nat.le_refl _) W D _ _ hD2 hK rfl rfl)⟩
      · simp [results, Tryd.f21, go_sem]
      · rcases Hq2.out.2 with ⟨rfl, h0⟩ | ⟨g, cap, cur, rfl, _, hg, hcp, _, _, _⟩
        · exact ⟨none, 0, by rw [h0], fun h => by simp [h0] at h, by omega, fun _ => rfl⟩
        · refine ⟨_, cap, rfl, fun _ => ⟨g, 0, rfl, by have := (Array.getElem?_eq_some_iff.1 hg).1; simpa using this, fun k hk => ?_⟩, hcp, fun e => by cases e⟩
          have h1 := Hq2.out.cells (g := g) rfl k (.int .i64 (nth ((metL G r).map Int.ofNat) k)) (by
            simp only [List.length_map] at hk
            simp [ncells, nth, hk])
          have h2 : W.cell? ⟨g, 0 + k, none⟩ = some (.int .i64 (nth ((metL G r).map Int.ofNat) k)) := by simpa [Addr.add_lit] using h1
          exact (World.cell?_of_block (World.putObj_heap_other (hneD g ⟨_, _, _, hg⟩))).trans h2
    case stop => exact fun D cd W hD hF => hF.elim
    case body =>
      rintro lp s W ⟨⟨kO, hc, hi⟩, hnd, hvl⟩
      obtain ⟨u, q1, q2, q3⟩ := hc.box
      have hcb := Lib.cell_of_heap q1 0
      have hlen : s.vis.length ≤ 1000000000 := by
        have := nodup_short _ _ hnd hvl
        have h2 := hRG.nodes
        simp at this; omega
      have hsN := hc.size
      have HS : Hid (∀ (w' : World) (v' : Value) (o : Obj) g, (W.alloc o).grownBy w' u.ownBlock → w'.ownsRow N 3 1 v' (s.vis ++ [s.i]).length (ncells (s.vis ++ [s.i])) → v'.ownBlock = some g → (u.ownBlock = some g ∨ g = W.heap.size + 1) →
          (w'.cell? ⟨B, 0, none⟩ = some u ∧ w'.frozen? ⟨B, 0, none⟩ = false) ∧ KeepsOthers W (w'.setCell ⟨B, 0, none⟩ v') ∧ MetAf (ReC w N B B1 (B1 + 1) NA RA G.nodes.length nc G.roots.length rc r) N G s (w'.setCell ⟨B, 0, none⟩ v')) := fun w' v' o g a1 a2 a3 a4 => by
        obtain ⟨l1, l2, l3, l4, l5, l6, l7⟩ := HLT.out
        obtain ⟨r1, r2, r3, r4⟩ := ReC.step l1 l2 l3 l4 (by omega) (by omega) hc q1 q2 a1 a2 a3 a4
        exact ⟨r1, r2, g, r3, r4 _ _ _ _ _ _ hi⟩
      have Hq2 := Lib.hid q2
      clear hc hi hnd hvl q1 q2 q3
      gi_wp2_with (gi_at_builtin; refine wpListIn_appO rfl _ _ _ rfl rfl u s.vis s.i rfl Hq2.out _ rfl rfl hlen hsN ?_; rintro v' w' r1 r2 ⟨g, cap, rfl, r4⟩; obtain ⟨⟨z1, z2⟩, HE⟩ := HS.out w' _ _ g r2 r1 rfl r4; simp only [List.length_append, List.length_cons, List.length_nil, Nat.zero_add] at HE)
      exact HE
end Go.Proofs.YtdcbngimgpdjoaaDoor
