/- iso.Form: a graph with its nodes numbered as they are met. Conditions: the graph's numbers and texts are as the language lets them be; utf8's tables lie in the world. -/
import Derived.Test.YtdcbngimgpdjoaaDoorIi
import Derived.Test.YtdcbngimgpdjoaaDoorIn
import Derived.Test.YtdcbngimgpdjoaaDoorIb
namespace Go.Proofs.YtdcbngimgpdjoaaDoor
open Go.RowKit Go.Shelf Go.Deep
attribute [local go_sem] Oper.semAt_some
/-- What Form's row of new numbers holds. -/
def posF (vis : List Nat) (k : Nat) : Nat := if k ∈ vis then posIn vis k else 0
theorem posF_snoc {vis : List Nat} {i : Nat} (h : (vis ++ [i]).Nodup) (k : Nat) : posF (vis ++ [i]) k = if k = i then vis.length else posF vis k := by
  have hi : i ∉ vis := by
    rw [List.nodup_append] at h
    exact fun hp => h.2.2 i hp i List.mem_cons_self rfl
  unfold posF posIn
  by_cases e : k = i
  · subst e
    rw [if_pos (by simp), if_pos rfl, List.idxOf_append, if_neg hi]
    simp
  · rw [if_neg e]
    by_cases hk : k ∈ vis
    · rw [if_pos (by simp [hk]), if_pos hk, List.idxOf_append, if_pos hk]
    · rw [if_neg (by simp [hk, e]), if_neg hk]
theorem rowMk (w : World) (v : Value) (n : Nat) (t : TypeId) : ∃ M, w.alloc (.cells (madeCells #[v] n) t) = M ∧ Below w.heap.size w M ∧ M.rowIs w.heap.size t n (fun _ => v) ∧ M.heap.size = w.heap.size + 1 :=
  ⟨_, rfl, (Below.refl _ w).alloc (Nat.le_refl _) _, World.rowIs_made _ _ _ _, by simp⟩
/-- Form's boxes and rows. -/
structure FoC (w : World) (N BR BO B1 BT T : Nat) (NA RA : Option Addr) (n nc m rc : Nat) (f : Nat → Nat) (vis : List Nat) (kO : Nat) (W : World) : Prop where
  below : Below w.heap.size w W
  size : N ≤ W.heap.size
  b1 : W.heap[B1]? = some (.cells #[.slice NA n nc, .slice RA m rc] 25 (0, 0))
  bt : W.heap[BT]? = some (.cells #[.slice (some ⟨T, 0, none⟩) n n] 23 (0, 0))
  row : W.rowIs T 3 n fun k => .int .i64 (f k : Nat)
  g0 : W.heap[w.heap.size]? = some (.cells #[.slice NA n nc, .slice RA m rc] 25 (0, 0))
  res : W.heap[BR]? = some (.cells #[.slice none 0 0, .slice none 0 0] 25 (0, 0))
  box : ∃ u, W.heap[BO]? = some (.cells #[u] 23 (0, 0)) ∧ W.ownsRow N 3 1 u vis.length (ncells vis) ∧ (u.ownBlock = some kO ∨ (u.ownBlock = none ∧ kO = BO))
theorem FoC.calm {M : Nat} {w : World} {N BR BO B1 BT T : Nat} {NA RA : Option Addr} {n nc m rc : Nat} {f : Nat → Nat} (hM : w.heap.size ≤ M) (vis : List Nat) (kO : Nat) : Calm M (FoC w N BR BO B1 BT T NA RA n nc m rc f vis kO) := fun W l o o' hl h hc hs => by
  obtain ⟨u, h1, h2, h3⟩ := hs.box
  have hr : ∃ cs t fr, W.heap[T]? = some (Obj.cells cs t fr) := by
    obtain ⟨c, h1, _⟩ := hs.row
    exact ⟨_, _, _, h1⟩
  obtain ⟨_, _, _, hr⟩ := hr
  exact ⟨Calm.below hM W l o o' hl h hc hs.below, by simpa using hs.size, Calm.row (B := M) W l o o' hl h hc hs.b1, Calm.row (B := M) W l o o' hl h hc hs.bt,
    hs.row.of_block (World.putObj_heap_other (by rintro rfl; rw [h] at hr; cases hr; cases hc)), Calm.row (B := M) W l o o' hl h hc hs.g0, Calm.row (B := M) W l o o' hl h hc hs.res,
    u, Calm.row (B := M) W l o o' hl h hc h1, Calm.owns (B := M) W l o o' hl h hc h2, h3⟩
theorem FoC.frm {w : World} {N BR BO B1 BT T : Nat} {NA RA : Option Addr} {n nc m rc : Nat} {f : Nat → Nat} (hw : w.heap.size < N) (hBR : BR < N) (hBO : BO < N) (hB1 : B1 < N) (hBT : BT < N) (hTN : T < N) {vis : List Nat} {kO : Nat} {W W' : World} (h : FoC w N BR BO B1 BT T NA RA n nc m rc f vis kO W)
    (hf : Frm N kO W W') : FoC w N BR BO B1 BT T NA RA n nc m rc f vis kO W' := by
  have hs := h.size
  have hk : ∀ g, g < N → W'.heap[g]? = W.heap[g]? := fun g hg => hf.block g (by omega) (.inl hg)
  obtain ⟨u, h1, h2, h3⟩ := h.box
  refine ⟨⟨hf.os.trans h.below.os, hf.tape.trans h.below.tape, hf.output.trans h.below.output, Nat.le_trans h.below.size hf.size, fun g hg => (hk g (by omega)).trans (h.below.block g hg)⟩, Nat.le_trans hs hf.size, (hk _ hB1).trans h.b1, (hk _ hBT).trans h.bt, h.row.of_block (hk _ hTN), (hk _ hw).trans h.g0, (hk _ hBR).trans h.res,
    u, (hk _ hBO).trans h1, ownsRow_same h2 fun g hg hl => hf.block g hl (.inr ?_), h3⟩
  rcases h3 with h3 | ⟨h3, _⟩
  · rw [h3] at hg; cases hg; rfl
  · rw [h3] at hg; cases hg
theorem FoC.lt {w : World} {N BR BO B1 BT T : Nat} {NA RA : Option Addr} {n nc m rc : Nat} {f : Nat → Nat} (hBO : BO < N) {vis : List Nat} {kO : Nat} {W : World} (h : FoC w N BR BO B1 BT T NA RA n nc m rc f vis kO W) : kO < W.heap.size ∧ N ≤ W.heap.size := by
  refine ⟨?_, h.size⟩
  obtain ⟨u, h1, h2, h3⟩ := h.box
  rcases h3 with h3 | ⟨h3, rfl⟩
  · rcases h2.2 with ⟨rfl, _⟩ | ⟨g, cap, cur, rfl, _, hg, _⟩
    · cases h3
    · cases h3; exact (Array.getElem?_eq_some_iff.1 hg).1
  · exact Nat.lt_of_lt_of_le hBO h.size
theorem FoC.cal {w : World} {N BR BO B1 BT T : Nat} {NA RA : Option Addr} {G : Gr} {nc rc : Nat} (hw : w.heap.size < N) (hBR : BR < N) (hBO : BO < N) (hB1 : B1 < N) (hBT : BT < N) (hTN : T < N) (hN : NdsAt w w.heap.size NA G.nodes) (hR : IntsAt w w.heap.size RA G.roots) :
    CalI (fun vis kO W => FoC w N BR BO B1 BT T NA RA G.nodes.length nc G.roots.length rc (posF vis) vis kO W) N G NA RA nc rc B1 :=
  ⟨fun _ _ _ _ h hf => h.frm hw hBR hBO hB1 hBT hTN hf, fun _ _ _ h => h.lt hBO, fun _ _ _ h => ⟨Lib.cell_of_heap h.b1 0, Lib.cell_of_heap h.b1 1⟩, fun _ _ _ h => (hN.below h.below (Nat.le_refl _)).more (Nat.le_of_lt hw), fun _ _ _ h => (hR.below h.below (Nat.le_refl _)).more (Nat.le_of_lt hw)⟩
/-- A new number is laid. -/
theorem FoC.put {w : World} {N BR BO B1 BT T : Nat} {NA RA : Option Addr} {n nc m rc : Nat} {f : Nat → Nat} (hw : w.heap.size < T) (hTN : T < N) (h0 : BR ≠ T) (h1 : BO ≠ T) (h2 : B1 ≠ T) (h3 : BT ≠ T) {vis : List Nat} {kO : Nat} {W : World} (h : FoC w N BR BO B1 BT T NA RA n nc m rc f vis kO W) (i z : Nat) :
    FoC w N BR BO B1 BT T NA RA n nc m rc (fun k => if k = i then z else f k) vis kO (W.setCell ⟨T, i, none⟩ (.int .i64 z)) := by
  have hk : ∀ g, g ≠ T → (W.setCell ⟨T, i, none⟩ (.int .i64 z)).heap[g]? = W.heap[g]? := fun g hg => Below.heap_setCell W ⟨T, i, none⟩ _ g hg
  obtain ⟨u, q1, q2, q3⟩ := h.box
  refine ⟨h.below.setCell (p := ⟨T, i, none⟩) (Nat.le_of_lt hw) _, by simpa using h.size, (hk _ h2).trans h.b1, (hk _ h3).trans h.bt, (h.row.set i (.int .i64 z)).congr fun j _ => ?_, (hk _ (by omega)).trans h.g0, (hk _ h0).trans h.res, u, (hk _ h1).trans q1, ownsRow_same q2 fun g hg _ => hk g ?_, q3⟩
  · by_cases e : j = i <;> simp [e]
  · have := (own_place q2 hg).1; omega
theorem FoC.step {w : World} {N BR BO B1 BT T : Nat} {NA RA : Option Addr} {n nc m rc : Nat} {f : Nat → Nat} (hw : w.heap.size < BO) (hBR : BR < N) (hBO : BO < N) (hB1 : B1 < N) (hBT : BT < N) (hTN : T < N) (h0 : BR ≠ BO) (h1 : B1 ≠ BO) (h2 : BT ≠ BO) (h3 : T ≠ BO) {vis : List Nat} {kO i : Nat} {W w' : World} {o : Obj} {u v' : Value}
    (h : FoC w N BR BO B1 BT T NA RA n nc m rc f vis kO W) (hu : W.heap[BO]? = some (.cells #[u] 23 (0, 0))) (ho : W.ownsRow N 3 1 u vis.length (ncells vis)) (hg : (W.alloc o).grownBy w' u.ownBlock)
    (hv : w'.ownsRow N 3 1 v' (vis ++ [i]).length (ncells (vis ++ [i]))) {g : Nat} (hg1 : v'.ownBlock = some g) (hg2 : u.ownBlock = some g ∨ g = W.heap.size + 1) :
    (w'.cell? ⟨BO, 0, none⟩ = some u ∧ w'.frozen? ⟨BO, 0, none⟩ = false) ∧ KeepsOthers W (w'.setCell ⟨BO, 0, none⟩ v') ∧ FoC w N BR BO B1 BT T NA RA n nc m rc f (vis ++ [i]) g (w'.setCell ⟨BO, 0, none⟩ v') ∧
      ∀ gs wv n' vs stk, IsSt N kO gs n' vs stk wv W → IsSt N g gs n' vs stk wv (w'.setCell ⟨BO, 0, none⟩ v') := by
  have hs := h.size
  have hoN : ∀ b, u.ownBlock = some b → N ≤ b ∧ b = kO ∧ b < W.heap.size ∧ ∃ cur, W.heap[b]? = some (.cells cur 3 (0, 0)) := by
    intro b hb
    obtain ⟨u0, q1, q2, q3⟩ := h.box
    rw [hu] at q1
    cases q1
    rcases ho.2 with ⟨rfl, _⟩ | ⟨g', cap, cur, rfl, hb', hg', _⟩
    · cases hb
    · cases hb
      refine ⟨hb', ?_, (Array.getElem?_eq_some_iff.1 hg').1, cur, hg'⟩
      rcases q3 with q3 | ⟨q3, _⟩
      · cases q3; rfl
      · cases q3
  have hk : ∀ b, b < W.heap.size → u.ownBlock ≠ some b → w'.heap[b]? = W.heap[b]? := fun b hb hne =>
    (hg.block b (by simp; omega) (fun e => hne e.symm)).trans (Below.heap_alloc W o b hb)
  have hlow : ∀ b, b < N → w'.heap[b]? = W.heap[b]? := fun b hb => hk b (by omega) fun e => by have := (hoN b e).1; omega
  have hst : ∀ b, b ≠ BO → (w'.setCell ⟨BO, 0, none⟩ v').heap[b]? = w'.heap[b]? := fun b hb => Below.heap_setCell w' ⟨BO, 0, none⟩ v' b hb
  have hwB : w'.heap[BO]? = some (.cells #[u] 23 (0, 0)) := (hlow BO hBO).trans hu
  have hgN : N ≤ g := by
    rcases hg2 with e | rfl
    · exact (hoN g e).1
    · omega
  have hsz : W.heap.size ≤ w'.heap.size := Nat.le_trans (by simp) hg.size
  refine ⟨⟨Lib.cell_of_heap hwB 0, Go.Joins.unfrozen_of_block hwB 0⟩, ?_, ⟨?_, ?_, ?_, ?_, ?_, (hst _ (by omega)).trans ((hlow _ (by omega)).trans h.g0), (hst _ h0).trans ((hlow _ hBR).trans h.res), v', Go.Joins.block_setCell hwB v', ?_, .inl hg1⟩, ?_⟩
  · refine ((KeepsOthers.alloc W o).trans (KeepsOthers.of_grownBy hg fun j o' ej hj => ?_)).trans (KeepsOthers.setCell _ _ _)
    obtain ⟨_, _, hlt, cur, hc⟩ := hoN j ej
    rw [Below.heap_alloc W o j hlt, hc] at hj
    cases hj; rfl
  · exact ⟨hg.os.trans h.below.os, hg.tape.trans h.below.tape, hg.output.trans h.below.output, by have := h.below.size; simp; omega, fun b hb => (hst b (by omega)).trans ((hlow b (by omega)).trans (h.below.block b hb))⟩
  · simp; omega
  · exact (hst _ h1).trans ((hlow _ hB1).trans h.b1)
  · exact (hst _ h2).trans ((hlow _ hBT).trans h.bt)
  · exact h.row.of_block ((hst _ h3).trans (hlow _ hTN))
  · exact ownsRow_same hv fun b hb _ => hst b (by rw [hg1] at hb; cases hb; omega)
  · intro gs wv n' vs stk hi
    refine hi.kept (fun b hb hlt hne => (hst b (by omega)).trans (hk b hlt fun e => hne (hoN b e).2.1)) ?_
    rcases hg2 with e | rfl
    · exact .inl (hoN g e).2.1
    · exact .inr (by omega)
theorem IsSt.calm {M N kO gs n : Nat} {vis stk : List Nat} {wv : Value} : Calm M (IsSt N kO gs n vis stk wv) := fun W l o o' hl h hc hs => by
  have hsb : ∃ cs t fr, W.heap[gs]? = some (Obj.cells cs t fr) := by
    obtain ⟨c, h1, _⟩ := hs.seen
    exact ⟨_, _, _, h1⟩
  obtain ⟨_, _, _, hs1⟩ := hsb
  exact ⟨hs.seen.of_block (World.putObj_heap_other (by rintro rfl; rw [h] at hs1; cases hs1; cases hc)), hs.lo, hs.ne, Calm.owns (B := M) W l o o' hl h hc hs.way, hs.wne, hs.wgs⟩
theorem IsRd.calm {M N : Nat} {C : List Nat → Nat → World → Prop} {G : Gr} (hC : ∀ vis kO, Calm M (C vis kO)) (s : IsTold) : Calm M (IsRd C N G s) := fun W l o o' hl h hc hs => by
  obtain ⟨kO, h1, h2⟩ := hs.st
  exact ⟨⟨kO, hC _ _ W l o o' hl h hc h1, IsSt.calm W l o o' hl h hc h2⟩, hs.nd, hs.lt⟩
theorem IsAf.calm {M N : Nat} {C : List Nat → Nat → World → Prop} {G : Gr} (hC : ∀ vis kO, Calm M (C vis kO)) (s : IsTold) : Calm M (IsAf C N G s) := fun W l o o' hl h hc hs => by
  obtain ⟨kO, h1, h2⟩ := hs
  exact ⟨kO, hC _ _ W l o o' hl h hc h1, IsSt.calm W l o o' hl h hc h2⟩
theorem boxCs (w : World) (cs : Array Value) (t : TypeId) : ∃ V, w.alloc (.cells cs t) = V ∧ Below w.heap.size w V ∧ V.heap[w.heap.size]? = some (.cells cs t (0, 0)) ∧ V.heap.size = w.heap.size + 1 :=
  ⟨_, rfl, (Below.refl _ w).alloc (Nat.le_refl _) _, World.alloc_heap_new w _, by simp⟩
/-- The box of the graph that is made, with its nodes' row. -/
structure OutSt (W : World) (v : Value) (L : List NdK) (wr : World) : Prop where
  keep : Below W.heap.size W wr
  out : wr.heap[W.heap.size]? = some (.cells #[v, .slice none 0 0] 25 (0, 0))
  nds : NdsOwn wr (W.heap.size + 1) v L
theorem OutSt.lt {W wr : World} {v : Value} {L : List NdK} (h : OutSt W v L wr) : W.heap.size < wr.heap.size := (Array.getElem?_eq_some_iff.1 h.out).1
theorem OutSt.own {W wr : World} {v : Value} {L : List NdK} (h : OutSt W v L wr) {b : Nat} (hb : v.ownBlock = some b) : W.heap.size + 1 ≤ b ∧ b < wr.heap.size := by
  have := own_place h.nds.own hb
  exact ⟨this.1, this.2.1⟩
theorem OutSt.kid {W wr w' : World} {v : Value} {L : List NdK} {cs : Array Value} {e : Nd} {A' : Option Addr} {c' : Nat} (h : OutSt W v L wr)
    (hb : Below (wr.heap.size + 1) (wr.alloc (.cells cs 33)) w') (hz : ZOwn w' (wr.heap.size + 1) (.slice A' e.kids.length c') e.kids) :
    w'.heap[wr.heap.size]? = some (.cells cs 33 (0, 0)) ∧ (w'.setCell ⟨wr.heap.size, 3, none⟩ (.slice A' e.kids.length c')).heap[wr.heap.size]? = some (.cells (cs.setIfInBounds 3 (.slice A' e.kids.length c')) 33 (0, 0)) ∧
      OutSt W v L (w'.setCell ⟨wr.heap.size, 3, none⟩ (.slice A' e.kids.length c')) ∧ KidOk (w'.setCell ⟨wr.heap.size, 3, none⟩ (.slice A' e.kids.length c')) (W.heap.size + 1) v (e, A', c') := by
  have hlt := h.lt
  have hsz : wr.heap.size + 1 ≤ w'.heap.size := Nat.le_trans (by simp) hb.size
  have hk : ∀ b, b < wr.heap.size → w'.heap[b]? = wr.heap[b]? := fun b hl => (hb.block b (by omega)).trans (Below.heap_alloc wr _ b hl)
  have hx : w'.heap[wr.heap.size]? = some (.cells cs 33 (0, 0)) := (hb.block _ (by omega)).trans (World.alloc_heap_new wr _)
  have hst : ∀ b, b ≠ wr.heap.size → (w'.setCell ⟨wr.heap.size, 3, none⟩ (.slice A' e.kids.length c')).heap[b]? = w'.heap[b]? := fun b hl => Below.heap_setCell w' ⟨wr.heap.size, 3, none⟩ _ b hl
  have hkk : ∀ b, b < wr.heap.size → (w'.setCell ⟨wr.heap.size, 3, none⟩ (.slice A' e.kids.length c')).heap[b]? = wr.heap[b]? := fun b hl => (hst b (by omega)).trans (hk b hl)
  have hown : ∀ p, A' = some p → wr.heap.size + 1 ≤ p.block ∧ p.block < w'.heap.size := fun p ep => by
    subst ep
    have := own_place hz.own (b := p.block) rfl
    exact ⟨this.1, this.2.1⟩
  obtain ⟨A2, c2, e2, h1, h2, h3⟩ := hz.form
  cases e2
  refine ⟨hx, Go.Joins.block_setCell hx _, ⟨⟨hb.os.trans h.keep.os, hb.tape.trans h.keep.tape, hb.output.trans h.keep.output, by have := h.keep.size; simp; omega, fun b hl => (hkk b (by omega)).trans (h.keep.block b hl)⟩, (hkk _ hlt).trans h.out, h.nds.keep (by simp; omega) fun g _ hg => hkk g hg⟩, ?_, h1, h3, fun p ep => ?_⟩
  · exact ints_keep h2 (by simp) fun p ep => hst _ (by have := (hown p ep).1; omega)
  · have hp := hown p ep
    refine ⟨by omega, by simp; omega, fun e => ?_⟩
    have := (h.own e).2
    omega
theorem OutSt.store {W S w' : World} {v v' : Value} {L L' : List NdK} {o : Obj} (h : OutSt W v L S) (hn : NdsOwn w' (W.heap.size + 1) v' L') (hg : (S.alloc o).grownBy w' v.ownBlock) :
    (w'.cell? ⟨W.heap.size, 0, none⟩ = some v ∧ w'.frozen? ⟨W.heap.size, 0, none⟩ = false) ∧ OutSt W v' L' (w'.setCell ⟨W.heap.size, 0, none⟩ v') := by
  have hlt := h.lt
  have hsz : S.heap.size ≤ w'.heap.size := Nat.le_trans (by simp) hg.size
  have hk : ∀ b, b ≤ W.heap.size → w'.heap[b]? = S.heap[b]? := fun b hl => (hg.block b (by simp; omega) fun e => by have := (h.own e.symm).1; omega).trans (Below.heap_alloc S o b (by omega))
  have hst : ∀ b, b ≠ W.heap.size → (w'.setCell ⟨W.heap.size, 0, none⟩ v').heap[b]? = w'.heap[b]? := fun b hl => Below.heap_setCell w' ⟨W.heap.size, 0, none⟩ _ b hl
  have hx := (hk _ (Nat.le_refl _)).trans h.out
  exact ⟨⟨Lib.cell_of_heap hx 0, Go.Joins.unfrozen_of_block hx 0⟩, ⟨hg.os.trans h.keep.os, hg.tape.trans h.keep.tape, hg.output.trans h.keep.output, by have := h.keep.size; simp; omega, fun b hl => (hst b (by omega)).trans ((hk b (by omega)).trans (h.keep.block b hl))⟩,
    Go.Joins.block_setCell hx v', hn.keep (by simp) fun g hg1 _ => hst g (by omega)⟩
set_option maxRecDepth 100000 in
set_option maxHeartbeats 4000000 in
theorem Form_any (G : Gr) (v : Value) (w : World) (hG : GrAt w w.heap.size G v) (hok : G.ok) (hT : Tabs w) :
    Calls Tryd.prog 33 #[v] w fun e w' => ∃ u, e = .returned u ∧ GrAt w' w'.heap.size (formB G) u ∧ Below w.heap.size w w' := by
  have hRt : ∀ W, Below w.heap.size w W → Calls Tryd.prog 18 #[v] W fun e w' => e = .returned (.bool (rightB G)) ∧ Below W.heap.size W w' := fun W hW => Right_any G v W ((hG.below hW (Nat.le_refl _)).more hW.size) hok (hT.below hW)
  obtain ⟨NA, nc, RA, rc, rfl, hN, hR⟩ := hG.ex
  obtain ⟨V, hV, hbV, hrow, hsz⟩ := box2 w (.slice NA G.nodes.length nc) (.slice RA G.roots.length rc) 25
  obtain ⟨U, hU, hbU, hrowU, hszU⟩ := box2 V (.slice none 0 0) (.slice none 0 0) 25
  have HRt := Lib.hid (hRt U (below_then hbV hbU))
  have HbU := Lib.hid (below_then hbV hbU)
  have hr1 : U.heap[w.heap.size]? = some (.cells #[.slice NA G.nodes.length nc, .slice RA G.roots.length rc] 25 (0, 0)) := (hbU.block _ (by omega)).trans hrow
  have hr2 : U.heap[V.heap.size]? = some (.cells #[.slice none 0 0, .slice none 0 0] 25 (0, 0)) := hrowU
  have HC : Hid (∀ W, Below U.heap.size U W → W.heap[w.heap.size]? = some (.cells #[.slice NA G.nodes.length nc, .slice RA G.roots.length rc] 25 (0, 0)) ∧ W.heap[V.heap.size]? = some (.cells #[.slice none 0 0, .slice none 0 0] 25 (0, 0))) := fun W h => ⟨(h.block _ (by omega)).trans hr1, (h.block _ (by omega)).trans hr2⟩
  have u0 : U.cell? ⟨w.heap.size, 0, none⟩ = some (.slice NA G.nodes.length nc) := Lib.cell_of_heap hr1 0
  have u1 : U.cell? ⟨w.heap.size, 1, none⟩ = some (.slice RA G.roots.length rc) := Lib.cell_of_heap hr1 1
  have HsU : Hid (U.heap.size = w.heap.size + 2 ∧ V.heap.size = w.heap.size + 1) := ⟨by omega, hsz⟩
  obtain ⟨rt, hrt⟩ : ∃ x, rightB G = x := ⟨_, rfl⟩
  rw [hrt] at HRt
  cases rt with
  | false =>
    have HF : Hid (formB G = ⟨[], []⟩) := by show _ = _; rw [formB, hrt]; rfl
    clear hrt hG hok hT hN hR hRt hbV hrow hsz hbU hrowU hszU hr1 hr2
    go_enter Tryd.func33, Tryd.ntmps33
    go_wp2_with (go_at_call 18; refine HRt.out.mono ?_; rintro e w1 ⟨rfl, hb1⟩; have Hb1 := Lib.hid hb1; obtain ⟨k1, k2⟩ := HC.out w1 hb1; have k20 := Lib.cell_of_heap k2 0; have k21 := Lib.cell_of_heap k2 1; have k2f0 := Go.Joins.unfrozen_of_block k2 0; have k2f1 := Go.Joins.unfrozen_of_block k2 1; clear hb1)
    have HW : Hid (Below w.heap.size w w1) := below_then HbU.out Hb1.out
    have hw2 := Go.Joins.block_setCell (i := 1) (Go.Joins.block_setCell (i := 0) k2 (.slice none 0 0)) (.slice none 0 0)
    refine bodyPost_ret (results_cell_row rfl _ _ V.heap.size _ #[.slice none 0 0, .slice none 0 0] (0, 0) _ rfl hw2 Tryd.underlying25 rfl (by kernel_rfl)) rfl ?_
    rw [HF.out]
    exact ⟨_, rfl, ⟨none, 0, none, 0, rfl, NdsAt.nil, fun h => by simp at h⟩, (HW.out.setCell (p := ⟨V.heap.size, 0, none⟩) (by have := HsU.out; show w.heap.size ≤ V.heap.size; omega) _).setCell (p := ⟨V.heap.size, 1, none⟩) (by have := HsU.out; show w.heap.size ≤ V.heap.size; omega) _⟩
  | true =>
    have HF : Hid (formB G = formG G) := by show _ = _; rw [formB, hrt]; rfl
    have hRR := RightR.of hrt
    have hnn := hRR.nodes
    have hmm := hRR.many
    have HN := Lib.hid hN
    have HRo := Lib.hid hR
    clear hrt hG hok hT hN hR hRt hbV hrow hsz hbU hrowU hszU hr1 hr2
    rw [HF.out]
    refine (callsIn_wide (n := 3)).1 ?_
    refine callsIn_of_wp_marks Tryd.func33 rfl trivial ?_ rfl
    simp only [Tryd.ntmps33, List.size_toArray, List.length_cons, List.length_nil, Nat.reduceAdd, Nat.reduceSub, Array.replicate_succ, Array.replicate_zero, List.push_toArray, List.append_toArray, List.nil_append, List.cons_append]
    have hmk := fun W => run_make_row' (P := Tryd.prog) 23 3 (.int .i64 0) 8 rfl Tryd.infoIntZ rfl .i64 .i64 G.nodes.length (by omega) (by omega) W
    gi_wp2_with (first
      | (refine ⟨trivial, ?_⟩; gi_at_call 18; refine (callsIn_wide.2 HRt.out).mono ?_; rintro e w1 ⟨rfl, hb1⟩
         have hmake := hmk w1
         obtain ⟨M, hM, hbM, hrM, hsM⟩ := rowMk w1 (.int .i64 0) G.nodes.length 3
         rw [hM] at hmake
         obtain ⟨X, hX, hbX, hrX, hsX⟩ := box1 M (.slice (some ⟨w1.heap.size, 0, none⟩) G.nodes.length G.nodes.length) 23
         obtain ⟨Y, hY, hbY, hrY, hsY⟩ := box1 X (.slice none 0 0) 23
         have HbY := Lib.hid (below_then hb1 (below_then hbM (below_then hbX hbY)))
         have HrT : Hid (Y.rowIs w1.heap.size 3 G.nodes.length fun _ => .int .i64 0) := hrM.of_block ((hbY.block _ (by omega)).trans (hbX.block _ (by omega)))
         have HrX : Hid (Y.heap[M.heap.size]? = some (.cells #[.slice (some ⟨w1.heap.size, 0, none⟩) G.nodes.length G.nodes.length] 23 (0, 0))) := (hbY.block _ (by omega)).trans hrX
         have HrY := Lib.hid hrY
         have HsY : Hid (M.heap.size = w1.heap.size + 1 ∧ X.heap.size = w1.heap.size + 2 ∧ Y.heap.size = w1.heap.size + 3 ∧ U.heap.size ≤ w1.heap.size) := ⟨hsM, by omega, by omega, hb1.size⟩
         obtain ⟨k1, k2⟩ := HC.out w1 hb1
         obtain ⟨k3, k4⟩ := HC.out Y HbY.out
         have k10 := Lib.cell_of_heap k1 0
         have k11 := Lib.cell_of_heap k1 1
         have k30 := Lib.cell_of_heap k3 0
         have k31 := Lib.cell_of_heap k3 1
         clear hb1 hbM hrM hsM k1 k2 k3 k4 hbX hrX hsX hbY hrY hsY)
      | (refine ⟨trivial, ?_⟩; gi_at_call 56; refine (callsIn_wide.2 (imet_any _ _ _ _ _ _ _)).mono ?_; rintro e w'' ⟨rfl, rfl⟩))
    obtain ⟨Z, hZ, hbZ, hrZ, hsZ⟩ := box2 Y (.slice NA G.nodes.length nc) (.slice RA G.roots.length rc) 25
    rw [hZ]
    obtain ⟨N, hNd⟩ : ∃ N, N = Z.heap.size + 2 := ⟨_, rfl⟩
    have hsY := HsY.out
    have hsU := HsU.out
    have hbY := HbY.out
    have HLT : Hid (w.heap.size < V.heap.size ∧ V.heap.size < w1.heap.size ∧ M.heap.size = w1.heap.size + 1 ∧ X.heap.size = w1.heap.size + 2 ∧ Y.heap.size = w1.heap.size + 3 ∧ Z.heap.size = w1.heap.size + 4 ∧ N = w1.heap.size + 6) := ⟨by omega, by omega, by omega, by omega, by omega, by omega, by omega⟩
    have h0 : FoC w N V.heap.size X.heap.size Y.heap.size M.heap.size w1.heap.size NA RA G.nodes.length nc G.roots.length rc (fun _ => 0) [] X.heap.size Z → True := fun _ => trivial
    have hZw : Below w.heap.size w Z := below_then HbU.out (below_then hbY hbZ)
    have hZ1 : Z.heap[M.heap.size]? = some (.cells #[.slice (some ⟨w1.heap.size, 0, none⟩) G.nodes.length G.nodes.length] 23 (0, 0)) := (hbZ.block _ (by omega)).trans HrX.out
    have hZ2 : Z.heap[X.heap.size]? = some (.cells #[.slice none 0 0] 23 (0, 0)) := (hbZ.block _ (by omega)).trans HrY.out
    have hZ3 : Z.rowIs w1.heap.size 3 G.nodes.length fun _ => .int .i64 0 := HrT.out.of_block (hbZ.block _ (by omega))
    have hZ5 : Z.heap[w.heap.size]? = some (.cells #[.slice NA G.nodes.length nc, .slice RA G.roots.length rc] 25 (0, 0)) := (hbZ.block _ (by omega)).trans (HC.out Y hbY).1
    have hZ4 : Z.heap[V.heap.size]? = some (.cells #[.slice none 0 0, .slice none 0 0] 25 (0, 0)) := (hbZ.block _ (by omega)).trans (HC.out Y hbY).2
    have HZ : Hid (∀ o, FoC w N V.heap.size X.heap.size Y.heap.size M.heap.size w1.heap.size NA RA G.nodes.length nc G.roots.length rc (posF []) [] X.heap.size ((Z.alloc (.deferred (some []))).alloc o)) := fun o => by
      have hbW : Below Z.heap.size Z ((Z.alloc (.deferred (some []))).alloc o) := ((Below.refl _ Z).alloc (Nat.le_refl _) _).alloc (by simp) _
      exact ⟨below_then hZw hbW, by simp; omega, (hbW.block _ (by omega)).trans hrZ, (hbW.block _ (by omega)).trans hZ1, hZ3.of_block (hbW.block _ (by omega)), (hbW.block _ (by omega)).trans hZ5, (hbW.block _ (by omega)).trans hZ4, _, (hbW.block _ (by omega)).trans hZ2, ⟨rfl, .inl ⟨rfl, rfl⟩⟩, .inr ⟨rfl, rfl⟩⟩
    clear h0 hZw hZ1 hZ2 hZ3 hZ4 hZ5 hsY hsU hbY hrZ hsZ hbZ hNd hZ hY hX hM hV hU hmake hmk u0 u1 k10 k11 k30 k31 HRt HrX HrY HrT HsY HbY HsU
    generalize hBe : X.heap.size = BO at *
    generalize hB1e : Y.heap.size = B1 at *
    generalize hBTe : M.heap.size = BT at *
    generalize hBRe : V.heap.size = BR at *
    generalize hTe : w1.heap.size = T at *
    clear hBe hB1e hBTe hBRe hTe
    have hCal : CalI (fun vis kO W => FoC w N BR BO B1 BT T NA RA G.nodes.length nc G.roots.length rc (posF vis) vis kO W) N G NA RA nc rc B1 := by
      obtain ⟨_, _, _, _, _, _, _⟩ := HLT.out
      exact FoC.cal (by omega) (by omega) (by omega) (by omega) (by omega) (by omega) HN.out HRo.out
    have hCalm : ∀ vis kO, Calm Z.heap.size (FoC w N BR BO B1 BT T NA RA G.nodes.length nc G.roots.length rc (posF vis) vis kO) := fun vis kO => FoC.calm (by obtain ⟨_, _, _, _, _, _, _⟩ := HLT.out; omega) vis kO
    refine range_law (β := IsTold) rfl (by decide) (gf := 71) (lb := #[.pointer (some ⟨B1, 0, none⟩)]) rfl trivial (enters_of Tryd.func71 (by kernel_rfl) rfl)
      (fun s => #[.int .i64 (s.i : Int)]) (fun _ => rfl)
      (IsRd (fun vis kO W => FoC w N BR BO B1 BT T NA RA G.nodes.length nc G.roots.length rc (posF vis) vis kO W) N G)
      (IsAf (fun vis kO W => FoC w N BR BO B1 BT T NA RA G.nodes.length nc G.roots.length rc (posF vis) vis kO W) N G)
      (fun _ _ _ => False)
      (fun W => ∃ kO, FoC w N BR BO B1 BT T NA RA G.nodes.length nc G.roots.length rc (posF (orderL G)) (orderL G) kO W)
      (fun _ _ => False)
      (IsRd.calm hCalm) (IsAf.calm hCalm) (fun cd i => Calm.pure) (Calm.ex fun kO => hCalm _ kO) (fun cd => Calm.pure)
      (fun s => { tmps := #[.agg #[.slice NA G.nodes.length nc, .slice RA G.roots.length rc], .pointer (some ⟨w.heap.size, 0, none⟩), .pointer (some ⟨BR, 0, none⟩), .pointer (some ⟨BT, 0, none⟩), .pointer (some ⟨BO, 0, none⟩), .int .i64 (s.i : Int), undef, undef, undef, undef,
        .agg #[.slice NA G.nodes.length nc, .slice RA G.roots.length rc], .bool true, .bool false, undef, .pointer (some ⟨w.heap.size, 0, none⟩), .slice NA G.nodes.length nc, .int .i64 (G.nodes.length : Int), .slice (some ⟨T, 0, none⟩) G.nodes.length G.nodes.length,
        .agg #[.slice NA G.nodes.length nc, .slice RA G.roots.length rc], .func (.func 71) #[] #[.pointer (some ⟨B1, 0, none⟩)], .int .i64 (s.i : Int), undef, undef, undef, undef, undef, undef, undef, undef, undef, undef, undef, undef, undef, undef, undef, undef, undef, undef, undef, undef, undef, undef, undef, undef, undef, undef, undef, undef, undef, undef, undef, undef, undef, undef, undef, undef, undef, undef], defers := [] }) ?assign ?body ?iter ?done ?stop
    case assign =>
      intro lp s W K hK
      gi_wp2
      exact hK
    case iter =>
      intro lp Bk Bx o kBk kBx hY hk
      obtain ⟨l1, l2, l3, l4, l5, l6, l7⟩ := HLT.out
      exact isoIter G NA RA nc rc lp B1 N _ _ hRR hCal BO (HZ.out o) (by simp; omega) Bk Bx kBk hY hk
    case stop => exact fun D cd W hD hF => hF.elim
    case body =>
      rintro lp s W ⟨⟨kO, hc, hi⟩, hnd, hvl⟩
      obtain ⟨u, q1, q2, q3⟩ := hc.box
      obtain ⟨A, c, hu⟩ : ∃ A c, u = .slice A s.vis.length c := by obtain ⟨A, c, h, _⟩ := ints_row q2; exact ⟨A, c, h⟩
      subst hu
      have hcb := Lib.cell_of_heap q1 0
      have hcT := Lib.cell_of_heap hc.bt 0
      have hil := hvl s.i (by simp)
      have hfz := hc.row.frozen s.i
      have hrx := hc.row.cell hil
      have hlen : s.vis.length ≤ 1000000000 := by
        have := nodup_short _ _ hnd hvl
        have h2 := hRR.nodes
        simp at this; omega
      have hi0 : (0 : Int) ≤ (s.i : Int) := by omega
      have hi1 : (s.i : Int) < (G.nodes.length : Int) := by omega
      obtain ⟨l1, l2, l3, l4, l5, l6, l7⟩ := HLT.out
      obtain ⟨W1, hW1⟩ : ∃ W1, W.setCell ⟨T, s.i, none⟩ (.int .i64 (s.vis.length : Int)) = W1 := ⟨_, rfl⟩
      have hc1 : FoC w N BR BO B1 BT T NA RA G.nodes.length nc G.roots.length rc (posF (s.vis ++ [s.i])) s.vis kO W1 := by
        rw [← hW1]
        have := hc.put (by omega) (by omega) (by omega) (by omega) (by omega) (by omega) s.i s.vis.length
        have e : (fun k => if k = s.i then s.vis.length else posF s.vis k) = posF (s.vis ++ [s.i]) := funext fun k => (posF_snoc hnd k).symm
        rwa [e] at this
      have hi2 : IsSt N kO s.gs G.nodes.length (s.vis ++ [s.i]) s.stk s.wv W1 := by
        rw [← hW1]
        exact hi.kept (fun g hg _ _ => Below.heap_setCell W ⟨T, s.i, none⟩ _ g (by show g ≠ T; omega)) (.inl rfl)
      have q1' : W1.heap[BO]? = some (.cells #[.slice A s.vis.length c] 23 (0, 0)) := by
        rw [← hW1]; exact (Below.heap_setCell W ⟨T, s.i, none⟩ _ BO (by show BO ≠ T; omega)).trans q1
      have q2' : W1.ownsRow N 3 1 (.slice A s.vis.length c) s.vis.length (ncells s.vis) := by
        rw [← hW1]
        exact ownsRow_same q2 fun g hg _ => Below.heap_setCell W ⟨T, s.i, none⟩ _ g (by have := (own_place q2 hg).1; show g ≠ T; omega)
      have hcb1 := Lib.cell_of_heap q1' 0
      have hsN := hc1.size
      have hK1 : KeepsOthers W W1 := by rw [← hW1]; exact KeepsOthers.setCell _ _ _
      have HS : Hid (∀ (w' : World) (v' : Value) (o : Obj) g, (W1.alloc o).grownBy w' (Value.slice A s.vis.length c).ownBlock → w'.ownsRow N 3 1 v' (s.vis ++ [s.i]).length (ncells (s.vis ++ [s.i])) → v'.ownBlock = some g → ((Value.slice A s.vis.length c).ownBlock = some g ∨ g = W1.heap.size + 1) →
          (w'.cell? ⟨BO, 0, none⟩ = some (.slice A s.vis.length c) ∧ w'.frozen? ⟨BO, 0, none⟩ = false) ∧ KeepsOthers W (w'.setCell ⟨BO, 0, none⟩ v') ∧ IsAf (fun vis kO W => FoC w N BR BO B1 BT T NA RA G.nodes.length nc G.roots.length rc (posF vis) vis kO W) N G s (w'.setCell ⟨BO, 0, none⟩ v')) := fun w' v' o g a1 a2 a3 a4 => by
        obtain ⟨r1, r2, r3, r4⟩ := FoC.step (by omega) (by omega) (by omega) (by omega) (by omega) (by omega) (by omega) (by omega) (by omega) (by omega) hc1 q1' q2' a1 a2 a3 a4
        exact ⟨r1, hK1.trans r2, g, r3, r4 _ _ _ _ _ hi2⟩
      have Hq2 := Lib.hid q2'
      clear hc hi hnd hvl q1 q2 q3 hc1 hi2 q1' q2' hK1 l1 l2 l3 l4 l5 l6 l7 hCal hCalm
      gi_wp2_with (gi_at_builtin; refine wpListIn_appO rfl _ _ _ rfl rfl (.slice A s.vis.length c) s.vis s.i rfl Hq2.out _ rfl rfl hlen hsN ?_; rintro v' w' r1 r2 ⟨g, cap, rfl, r4⟩; obtain ⟨⟨z1, z2⟩, HE⟩ := HS.out w' _ _ g r2 r1 rfl r4; simp only [List.length_append, List.length_cons, List.length_nil, Nat.zero_add] at HE)
      exact HE
    case done =>
      rintro D W hD ⟨kO, hc⟩ hK
      obtain ⟨u, q1, q2, q3⟩ := hc.box
      obtain ⟨A, c, hu, hAI, _⟩ := ints_row q2
      subst hu
      obtain ⟨l1, l2, l3, l4, l5, l6, l7⟩ := HLT.out
      obtain ⟨W0, hW0, hbW0, hrW0, hsW0⟩ := box2 W (.slice none 0 0) (.slice none 0 0) 25
      have hO := hRR.ord
      have hol : (orderL G).length ≤ 20000 := by have := nodup_short _ _ hO.nodup hO.lt; omega
      have HO := Lib.hid hO
      have Hol := Lib.hid hol
      have HcW : Hid (∀ X, Below W.heap.size W X → Below w.heap.size w X ∧ X.heap[B1]? = some (.cells #[.slice NA G.nodes.length nc, .slice RA G.roots.length rc] 25 (0, 0)) ∧ X.cell? ⟨w.heap.size, 0, none⟩ = some (.slice NA G.nodes.length nc) ∧ X.cell? ⟨w.heap.size, 1, none⟩ = some (.slice RA G.roots.length rc) ∧
          X.cell? ⟨BT, 0, none⟩ = some (.slice (some ⟨T, 0, none⟩) G.nodes.length G.nodes.length) ∧ X.rowIs T 3 G.nodes.length (fun k => .int .i64 (posF (orderL G) k : Nat)) ∧ X.heap[BR]? = some (.cells #[.slice none 0 0, .slice none 0 0] 25 (0, 0)) ∧
          X.cell? ⟨BO, 0, none⟩ = some (.slice A (orderL G).length c) ∧ IntsAt X W.heap.size A ((orderL G).map Int.ofNat) ∧ X.heap[D]? = some (.deferred (some [])) ∧ NdsAt X w.heap.size NA G.nodes ∧ IntsAt X w.heap.size RA G.roots) := fun X hX => by
        have hs := hc.size
        have hDW := (Array.getElem?_eq_some_iff.1 hK).1
        have hwX := below_then hc.below hX
        have hg := (hX.block w.heap.size (by omega)).trans hc.g0
        exact ⟨hwX, (hX.block _ (by omega)).trans hc.b1, Lib.cell_of_heap hg 0, Lib.cell_of_heap hg 1, Lib.cell_of_heap ((hX.block _ (by omega)).trans hc.bt) 0, hc.row.of_block (hX.block _ (by omega)), (hX.block _ (by omega)).trans hc.res, Lib.cell_of_heap ((hX.block _ (by omega)).trans q1) 0, hAI.below hX (Nat.le_refl _), (hX.block _ hDW).trans hK, HN.out.below hwX (Nat.le_refl _), HRo.out.below hwX (Nat.le_refl _)⟩
      have HWl : Hid (N ≤ W.heap.size ∧ D < W.heap.size ∧ w.heap.size ≤ W.heap.size) := ⟨hc.size, (Array.getElem?_eq_some_iff.1 hK).1, hc.below.size⟩
      have HW0 : Hid (OutSt W (.slice none 0 0) [] W0) := ⟨hbW0, hrW0, .empty _ _⟩
      obtain ⟨_, _, g0, g1, g2, _, _, g3, _⟩ := HcW.out W0 hbW0
      clear hc q1 q2 q3 hAI hO hol hsW0 hrW0 hbW0 hK hCal hCalm HZ l1 l2 l3 l4 l5 l6 l7
      gi_wp2
      clear g0 g1 g2 g3 hW0
      gi_loopw [32] (fun j wr => ∃ (k : Nat) (v : Value) (L : List NdK), k ≤ (orderL G).length ∧ j = .int .i64 (k : Int) ∧ Hid (OutSt W v L wr) ∧ Hid (L.map (·.1) = ((orderL G).take k).map fun i => formN G (nd G.nodes i))) (fun j _ => (orderL G).length - (intOf j).toNat)
      case atStart => exact ⟨0, _, [], Nat.zero_le _, rfl, HW0, rfl⟩
      case round =>
        obtain ⟨k, v, L, hk, rfl, hst, hL⟩ := hrel
        obtain ⟨p0, p1, p2, p3, p4, p5, p6, p7, p8, p9, p10, p11⟩ := HcW.out wr hst.out.keep
        by_cases hlt : k < (orderL G).length
        · obtain ⟨b, off, rfl, hbw, hcc⟩ := p8 (by rw [List.length_map]; omega)
          have hck : wr.cell? ⟨b, off + k, none⟩ = some (.int .i64 ((orderL G)[k] : Nat)) := by
            rw [hcc k (by rw [List.length_map]; exact hlt)]
            simp [nth, hlt]
          have hxO := HO.out
          obtain ⟨x, hx⟩ : ∃ x, (orderL G)[k] = x := ⟨_, rfl⟩
          have hxm : x ∈ orderL G := hx ▸ List.getElem_mem hlt
          have hxn : x < G.nodes.length := hxO.lt x hxm
          have htk : (orderL G).take (k + 1) = (orderL G).take k ++ [x] := by rw [List.take_succ_eq_append_getElem hlt, hx]
          rw [hx] at hck
          obtain ⟨bn, on, rfl, hbn, hnds⟩ := p10 (by omega)
          obtain ⟨K, kc, hnd⟩ := hnds x hxn
          obtain ⟨e, he⟩ : ∃ e, nd G.nodes x = e := ⟨_, rfl⟩
          rw [he] at hnd
          have d0 := hnd.c0
          have d1 := hnd.c1
          have d2 := hnd.c2
          have d3 := hnd.c3
          have d4 := hnd.c4
          have hlt' : (k : Int) < ((orderL G).length : Int) := by omega
          have hxi : (x : Int) < (G.nodes.length : Int) := by omega
          have hkN := kidsNat hRR.toRightG hxn
          rw [he] at hkN
          obtain ⟨ks, hks⟩ : ∃ ks, kidN G x = ks := ⟨_, rfl⟩
          rw [hks] at hkN
          have hkl : e.kids.length = ks.length := by rw [← hkN]; simp
          rw [hkl] at d3
          have hkm : ∀ y ∈ ks, y ∈ orderL G := fun y hy => hxO.kids x hxm y (by rw [hks]; exact hy)
          have hk20 : ks.length ≤ 1000000 := by
            have h1 := sum_order (G := G) (l := [x]) (by simp) (by simpa using hxn)
            have := hRR.sum
            simp [he] at h1
            omega
          have hke : (formN G e).kids = (ks.map (posF (orderL G))).map Int.ofNat := by
            simp only [formN]
            rw [← hkN, List.map_map, List.map_map]
            refine List.map_congr_left fun y hy => ?_
            simp only [Function.comp, toI, posF]
            rw [if_pos (hkm y hy)]
            simp
          obtain ⟨V1, hV1, hbV1, hrV1, hsV1⟩ := boxCs wr #[.int .i64 e.kind, .string e.tag, .string e.text, .slice K ks.length kc, .bool e.plain] 33
          obtain ⟨_, _, _, _, s4, s5, _, _, _, _, _, _⟩ := HcW.out V1 (below_then hst.out.keep hbV1)
          have s6 := Lib.cell_of_heap hrV1 3
          have hkI : IntsAt V1 V1.heap.size K (ks.map Int.ofNat) := by
            rw [hkN]; exact (hnd.kids.below hbV1 (Nat.le_of_lt (Nat.lt_of_le_of_lt HWl.out.2.2 hst.out.lt))).more (by have := HWl.out.2.2; have := hst.out.lt; omega)
          have HNu := Lib.hid (numbered_any K kc T G.nodes.length G.nodes.length ks (posF (orderL G)) V1 hk20 hkI s5 (fun y hy => hxO.lt y (hkm y hy)))
          obtain ⟨Av, cv, hv⟩ := hst.out.nds.shape
          subst hv
          have hLl : L.length ≤ 1000000 := by
            have h1 := congrArg List.length hL.out
            have := Hol.out
            simp at h1; omega
          have HL2 : Hid (∀ A' c', (L ++ [((formN G e, A', c') : NdK)]).map (·.1) = ((orderL G).take (k + 1)).map fun i => formN G (nd G.nodes i)) := fun A' c' => by
            rw [htk, List.map_append, List.map_append, hL.out]; simp [he]
          have HQ : Hid (∀ w' v', ZOwn w' V1.heap.size v' ((ks.map (posF (orderL G))).map Int.ofNat) → Below V1.heap.size V1 w' → ∃ A' c', v' = .slice A' (formN G e).kids.length c' ∧ w'.cell? ⟨wr.heap.size, 3, none⟩ = some (.slice K ks.length kc) ∧ w'.frozen? ⟨wr.heap.size, 3, none⟩ = false ∧
              ∃ S, w'.setCell ⟨wr.heap.size, 3, none⟩ (.slice A' (formN G e).kids.length c') = S ∧ S.cell? ⟨wr.heap.size, 0, none⟩ = some (.int .i64 e.kind) ∧ S.cell? ⟨wr.heap.size, 1, none⟩ = some (.string e.tag) ∧ S.cell? ⟨wr.heap.size, 2, none⟩ = some (.string e.text) ∧
                S.cell? ⟨wr.heap.size, 3, none⟩ = some (.slice A' (formN G e).kids.length c') ∧ S.cell? ⟨wr.heap.size, 4, none⟩ = some (.bool e.plain) ∧ S.cell? ⟨W.heap.size, 0, none⟩ = some (.slice Av L.length cv) ∧ OutSt W (.slice Av L.length cv) L S ∧ KidOk S (W.heap.size + 1) (.slice Av L.length cv) (formN G e, A', c')) := fun w' v' hz hb => by
            rw [← hke] at hz
            obtain ⟨A', c', rfl, _⟩ := hz.form
            rw [hsV1] at hz hb
            rw [← hV1] at hb
            obtain ⟨r1, r2, r3, r4⟩ := hst.out.kid hb hz
            exact ⟨A', c', rfl, Lib.cell_of_heap r1 3, Go.Joins.unfrozen_of_block r1 3, _, rfl, Lib.cell_of_heap r2 0, Lib.cell_of_heap r2 1, Lib.cell_of_heap r2 2, Lib.cell_of_heap r2 3, Lib.cell_of_heap r2 4, Lib.cell_of_heap r3.out 0, r3, r4⟩
          have Hlt := Lib.hid hlt
          have hmz : ∀ z : Int, z = k + 1 → (orderL G).length - (intOf (.int .i64 z)).toNat < (orderL G).length - (intOf (.int .i64 (k : Int))).toNat := by intro z hz; subst hz; have := Hlt.out; simp only [intOf]; omega
          have HWr : Hid (wrap64 ((k : Int) + 1) = k + 1) := IntWalk.wrap64_in _ (by have := Hol.out; omega)
          clear hcc hnds hxO hnd hkN hks hkl hkm hk20 hke hbV1 hrV1 hsV1 hkI s5 htk hx hxm hbn hk hlt hbw p0 p1 p4 p5 p6 p7 p8 p9 p10 p11 hst hL
          gi_wp2_with (first
            | (gi_at_builtin; refine wpListIn_appN rfl _ _ _ rfl rfl _ L (formN G e, A', c') rfl HR.out.1 HR.out.2.1 _ rfl rfl hLl HR.out.2.2.1 ?_; intro v2 w2 n1 _ _ n4; obtain ⟨A2, c2, hv2⟩ := n1.shape; subst hv2; obtain ⟨⟨z1, z2⟩, hE⟩ := HR.out.2.2.2 _ _ n1 n4; have HE := Lib.hid hE; clear n1 n4 hE)
            | (refine ⟨trivial, ?_⟩; gi_at_call 57; refine (callsIn_wide.2 HNu.out).mono ?_; rintro e3 w' ⟨v', rfl, hz, hb⟩
               obtain ⟨A', c', rfl, t3, t3f, S, hS, y0, y1, y2, y3, y4, y5, hO2, hK2⟩ := HQ.out w' v' hz hb
               have HR : Hid (NdsOwn S (W.heap.size + 1) (.slice Av L.length cv) L ∧ KidOk S (W.heap.size + 1) (.slice Av L.length cv) (formN G e, A', c') ∧ W.heap.size + 1 ≤ S.heap.size ∧ ∀ v2 w2, NdsOwn w2 (W.heap.size + 1) v2 (L ++ [(formN G e, A', c')]) → ∀ {o}, (S.alloc o).grownBy w2 (Value.slice Av L.length cv).ownBlock →
                 (w2.cell? ⟨W.heap.size, 0, none⟩ = some (.slice Av L.length cv) ∧ w2.frozen? ⟨W.heap.size, 0, none⟩ = false) ∧ OutSt W v2 (L ++ [(formN G e, A', c')]) (w2.setCell ⟨W.heap.size, 0, none⟩ v2)) := ⟨hO2.nds, hK2, hO2.lt, fun v2 w2 n1 _ n4 => hO2.store n1 n4⟩
               clear hz hb hO2 hK2))
          have HE2 : Hid (OutSt W (.slice A2 (L.length + 1) c2) (L ++ [(formN G e, A', c')]) (w2.setCell ⟨W.heap.size, 0, none⟩ (.slice A2 (L.length + 1) c2))) := by
            have h := HE.out
            rw [List.length_append] at h
            exact h
          first
            | exact ⟨⟨k + 1, _, _, Hlt.out, by simp, HE2, Lib.hid (HL2.out A' c')⟩, hmz _ rfl⟩
            | exact ⟨⟨k + 1, _, _, Hlt.out, congrArg (Value.int .i64) (HWr.out.trans (by simp)), HE2, Lib.hid (HL2.out A' c')⟩, hmz _ HWr.out⟩
        · obtain rfl : k = (orderL G).length := by omega
          have hkN := rootsNat hRR
          have hkl : G.roots.length = (rootN G).length := by rw [← hkN]; simp
          rw [hkl] at p3
          have hke : (formG G).roots = ((rootN G).map (posF (orderL G))).map Int.ofNat := by
            show G.roots.map (toI G) = _
            rw [← hkN, List.map_map, List.map_map]
            refine List.map_congr_left fun y hy => ?_
            simp only [Function.comp, toI, posF]
            rw [if_pos (HO.out.base y hy)]
            simp
          have hlw := hst.out.lt
          have hLn : L.map (·.1) = (formG G).nodes := by
            have := hL.out
            rw [List.take_of_length_le (Nat.le_refl _)] at this
            exact this
          have hkI : IntsAt wr wr.heap.size RA ((rootN G).map Int.ofNat) := by
            rw [hkN]; exact p11.more (by have := HWl.out.2.2; omega)
          have HNu := Lib.hid (numbered_any RA rc T G.nodes.length G.nodes.length (rootN G) (posF (orderL G)) wr (by omega) hkI p5 hRR.rlt)
          obtain ⟨Av, cv, hv⟩ := hst.out.nds.shape
          subst hv
          have HQ : Hid (∀ w' v', ZOwn w' wr.heap.size v' (((rootN G).map (posF (orderL G))).map Int.ofNat) → Below wr.heap.size wr w' → ∃ A' c', v' = .slice A' (formG G).roots.length c' ∧ w'.cell? ⟨W.heap.size, 1, none⟩ = some (.slice none 0 0) ∧ w'.frozen? ⟨W.heap.size, 1, none⟩ = false ∧
              ∃ S, w'.setCell ⟨W.heap.size, 1, none⟩ (.slice A' (formG G).roots.length c') = S ∧ S.cell? ⟨W.heap.size, 0, none⟩ = some (.slice Av L.length cv) ∧ S.cell? ⟨W.heap.size, 1, none⟩ = some (.slice A' (formG G).roots.length c') ∧ S.cell? ⟨BR, 0, none⟩ = some (.slice none 0 0) ∧ S.cell? ⟨BR, 1, none⟩ = some (.slice none 0 0) ∧ S.frozen? ⟨BR, 0, none⟩ = false ∧ S.frozen? ⟨BR, 1, none⟩ = false ∧
                ∃ F, (S.setCell ⟨BR, 0, none⟩ (.slice Av L.length cv)).setCell ⟨BR, 1, none⟩ (.slice A' (formG G).roots.length c') = F ∧ F.heap[D]? = some (.deferred (some [])) ∧ ∀ o, (F.putObj D o).heap[BR]? = some (.cells #[.slice Av L.length cv, .slice A' (formG G).roots.length c'] 25 (0, 0)) ∧
                  NdsAt (F.putObj D o) (F.putObj D o).heap.size Av (formG G).nodes ∧ IntsAt (F.putObj D o) (F.putObj D o).heap.size A' (formG G).roots ∧ Below w.heap.size w (F.putObj D o)) := fun w' v' hz hb => by
            rw [← hke] at hz
            obtain ⟨l1, l2, l3, l4, l5, l6, l7⟩ := HLT.out
            obtain ⟨m1, m2, m3⟩ := HWl.out
            obtain ⟨A', c', rfl, f1, f2, f3⟩ := hz.form
            have hoA : ∀ p, A' = some p → wr.heap.size ≤ p.block ∧ p.block < w'.heap.size := fun p ep => by
              subst ep
              have := own_place hz.own (b := p.block) rfl
              exact ⟨this.1, this.2.1⟩
            have hk : ∀ b, b < wr.heap.size → w'.heap[b]? = wr.heap[b]? := fun b hl => hb.block b hl
            have ho := (hk _ hlw).trans hst.out.out
            have hDN : D ≠ BR := fun e => by rw [e, p6] at p9; cases p9
            have hs1 : ∀ b, b ≠ W.heap.size → (w'.setCell ⟨W.heap.size, 1, none⟩ (.slice A' (formG G).roots.length c')).heap[b]? = w'.heap[b]? := fun b hl => Below.heap_setCell w' ⟨W.heap.size, 1, none⟩ _ b hl
            have ho2 := Go.Joins.block_setCell (i := 1) ho (.slice A' (formG G).roots.length c')
            have hBR := ((hs1 BR (by omega)).trans (hk BR (by omega))).trans p6
            have hBR2 := Go.Joins.block_setCell (i := 1) (Go.Joins.block_setCell (i := 0) hBR (.slice Av L.length cv)) (.slice A' (formG G).roots.length c')
            obtain ⟨S, hS⟩ : ∃ S, w'.setCell ⟨W.heap.size, 1, none⟩ (.slice A' (formG G).roots.length c') = S := ⟨_, rfl⟩
            rw [hS] at ho2 hBR hBR2 hs1
            obtain ⟨F, hF⟩ : ∃ F, (S.setCell ⟨BR, 0, none⟩ (.slice Av L.length cv)).setCell ⟨BR, 1, none⟩ (.slice A' (formG G).roots.length c') = F := ⟨_, rfl⟩
            have hs2 : ∀ b, b ≠ BR → F.heap[b]? = S.heap[b]? := fun b hl => by rw [← hF]; exact (Below.heap_setCell _ ⟨BR, 1, none⟩ _ b hl).trans (Below.heap_setCell S ⟨BR, 0, none⟩ _ b hl)
            rw [hF] at hBR2
            have hsz : F.heap.size = w'.heap.size := by rw [← hF, ← hS]; simp
            have hfb : ∀ b, b ≠ BR → b ≠ W.heap.size → F.heap[b]? = w'.heap[b]? := fun b h1 h2 => (hs2 b h1).trans (hs1 b h2)
            have hFD : F.heap[D]? = some (.deferred (some [])) := (hfb D hDN (by omega)).trans ((hk D (by omega)).trans p9)
            refine ⟨A', c', rfl, Lib.cell_of_heap ho 1, Go.Joins.unfrozen_of_block ho 1, S, hS, Lib.cell_of_heap ho2 0, Lib.cell_of_heap ho2 1, Lib.cell_of_heap hBR 0, Lib.cell_of_heap hBR 1, Go.Joins.unfrozen_of_block hBR 0, Go.Joins.unfrozen_of_block hBR 1, F, hF, hFD, fun o => ?_⟩
            have hpo : ∀ b, b ≠ D → (F.putObj D o).heap[b]? = F.heap[b]? := fun b hl => World.putObj_heap_other hl
            refine ⟨(hpo BR (fun e => hDN e.symm)).trans hBR2, ?_, ?_, ?_⟩
            · have hn := (hst.out.nds.keep (W' := F.putObj D o) (by simp [hsz]; exact hb.size) fun g hg1 hg2 => (hpo g (by omega)).trans ((hfb g (by omega) (by omega)).trans (hk g hg2)))
              have := hn.at
              rw [hLn] at this
              exact this
            · exact ints_keep f2 (by simp [hsz]) fun p ep => (hpo p.block (by have := (hoA p ep).1; omega)).trans (hfb p.block (by have := (hoA p ep).1; omega) (by have := (hoA p ep).1; omega))
            · have h1 : Below w.heap.size w w' := p0.trans (hb.mono (by omega))
              have h2 : Below w.heap.size w F := by
                rw [← hF, ← hS]
                exact ((h1.setCell (p := ⟨W.heap.size, 1, none⟩) (by show w.heap.size ≤ W.heap.size; omega) _).setCell (p := ⟨BR, 0, none⟩) (by show w.heap.size ≤ BR; omega) _).setCell (p := ⟨BR, 1, none⟩) (by show w.heap.size ≤ BR; omega) _
              exact h2.trans (belowK_b (w := w) (Nat.le_refl _) F D _ o (by omega) hFD rfl (by rfl))
          have HLn : Hid (L.length = (formG G).nodes.length) := by show _ = _; rw [← hLn]; simp
          clear hkN hkl hke hlw hLn hkI p0 p1 p5 p6 p7 p8 p9 p10 p11 hst hL hlt
          gi_wp2_with (refine ⟨trivial, ?_⟩; gi_at_call 57; refine (callsIn_wide.2 HNu.out).mono ?_; rintro e3 w' ⟨v', rfl, hz, hb⟩; obtain ⟨A', c', rfl, t1, t1f, S, hS, y0, y1, y2, y3, y4, y5, F, hF, hFD, hFo⟩ := HQ.out w' v' hz hb; have HFo := Lib.hid hFo; clear hz hb hFo)
          refine ⟨by simp, .inl ⟨_, _, rfl, run_takeDeferred hFD, ?_⟩⟩
          obtain ⟨z1, z2, z3, z4⟩ := HFo.out (.deferred none)
          refine ⟨.agg #[.slice Av L.length cv, .slice A' (formG G).roots.length c'], results_cell_row rfl _ _ BR _ _ (0, 0) _ rfl z1 Tryd.underlying25 rfl (by kernel_rfl), _, rfl, ⟨Av, cv, A', c', by rw [HLn.out], z2, z3⟩, z4⟩
end Go.Proofs.YtdcbngimgpdjoaaDoor
