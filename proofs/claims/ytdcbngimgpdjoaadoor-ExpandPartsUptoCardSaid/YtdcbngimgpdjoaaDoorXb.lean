/- Taking away with a queue, in memory: how many Kids are left of each, who has each, and who is next. No condition. -/
import Derived.Test.YtdcbngimgpdjoaaDoorXq
import Derived.Test.YtdcbngimgpdjoaaDoorXp
import Derived.Test.YtdcbngimgpdjoaaDoorKw
import Derived.Maps.OwnIn
namespace Go.Proofs.YtdcbngimgpdjoaaDoor
open Go.RowKit Go.Shelf Go.Deep
structure KqSt (N gl gf M n : Nat) (lf : Nat → Nat) (vs : Nat → Value) (ups : Nat → List Nat) (q : List Nat) (u : Value) (W : World) : Prop where
  lo : N ≤ gl
  lo2 : N ≤ gf
  ne : gl ≠ gf
  lM : gl < M
  fM : gf < M
  size : M ≤ W.heap.size
  left : W.rowIs gl 3 n fun k => .int .i64 (lf k : Nat)
  vrow : W.rowIs gf 23 n vs
  rows : ∀ k, k < n → W.ownsRow M 3 1 (vs k) (ups k).length (ncells (ups k))
  que : ownsQ W M u q
  disF : ∀ k g, k < n → (vs k).ownBlock = some g → u.ownBlock ≠ some g
theorem ownsQ.of {W : World} {N : Nat} {v : Value} {l : List Nat} (h : W.ownsRow N 3 1 v l.length (ncells l)) : ownsQ W N v l := by
  rcases h.2 with ⟨rfl, h0⟩ | ⟨g, cap, cur, rfl, h1, h2, h3, h4, h5, h6⟩
  · exact .inl ⟨rfl, List.eq_nil_of_length_eq_zero h0⟩
  · refine .inr ⟨g, 0, cap, cur, rfl, h1, h2, h3, h4, by omega, fun k x hk => ?_⟩
    have h7 : (ncells l)[k]? = some (.int .i64 (x : Int)) := by simp [ncells, hk]
    have hk1 : k < l.length := (List.getElem?_eq_some_iff.1 hk).1
    rw [← h6, List.getElem?_take_of_lt (by omega), Array.getElem?_toList] at h7
    rw [Nat.zero_add]; exact h7
theorem KqSt.of {w W : World} {N n : Nat} {lf : Nat → Nat} {vs : Nat → Value} {ups : Nat → List Nat} {fr : List Nat} {u : Value} (h : KaSt w n lf vs ups fr u W) (hN : N ≤ w.heap.size) : KqSt N w.heap.size (w.heap.size + 1) (w.heap.size + 2) n lf vs ups fr.reverse u W :=
  ⟨hN, by omega, by omega, by omega, by omega, h.size, h.left, h.vrow, h.rows, .of (by have := h.free; rwa [← List.length_reverse] at this), h.disF⟩
theorem KqSt.kept {N gl gf M n : Nat} {lf : Nat → Nat} {vs : Nat → Value} {ups : Nat → List Nat} {q : List Nat} {u : Value} {W W' : World} (h : KqSt N gl gf M n lf vs ups q u W) (hs : W.heap.size ≤ W'.heap.size) (hb : ∀ g, N ≤ g → g < W.heap.size → W'.heap[g]? = W.heap[g]?) : KqSt N gl gf M n lf vs ups q u W' := by
  have h1 := h.lo
  have h2 := h.lo2
  have h3 := h.lM
  have h4 := h.fM
  have h5 := h.size
  exact ⟨h1, h2, h.ne, h3, h4, by omega, h.left.of_block (hb _ h1 (by omega)), h.vrow.of_block (hb _ h2 (by omega)), fun k hk => ownsRow_same (h.rows k hk) fun g hg hl => hb g (by have := (own_place (h.rows k hk) hg).1; omega) hl, h.que.same fun g hg hl => hb g (by have := (h.que.place hg).1; omega) hl, h.disF⟩
theorem KqSt.below {N gl gf M n : Nat} {lf : Nat → Nat} {vs : Nat → Value} {ups : Nat → List Nat} {q : List Nat} {u : Value} {W W' : World} (h : KqSt N gl gf M n lf vs ups q u W) (hb : Below W.heap.size W W') : KqSt N gl gf M n lf vs ups q u W' := h.kept hb.size fun g _ hl => hb.block g hl
theorem KqSt.drew {N gl gf M n : Nat} {lf : Nat → Nat} {vs : Nat → Value} {ups : Nat → List Nat} {q : List Nat} {u : Value} {W : World} (h : KqSt N gl gf M n lf vs ups q u W) : KqSt N gl gf M n lf vs ups q u W.drew := h.below (Below.refl _ W).drew
theorem KqSt.setLeft {N gl gf M n : Nat} {lf : Nat → Nat} {vs : Nat → Value} {ups : Nat → List Nat} {q : List Nat} {u : Value} {W : World} (h : KqSt N gl gf M n lf vs ups q u W) (k x : Nat) :
    KqSt N gl gf M n (fun j => if j = k then x else lf j) vs ups q u (W.setCell ⟨gl, k, none⟩ (.int .i64 (x : Int))) := by
  have h1 := h.lM
  have hb : ∀ g, g ≠ gl → (W.setCell ⟨gl, k, none⟩ (.int .i64 (x : Int))).heap[g]? = W.heap[g]? := fun g hg => Below.heap_setCell W ⟨gl, k, none⟩ _ g hg
  exact ⟨h.lo, h.lo2, h.ne, h1, h.fM, by simpa using h.size, (h.left.set k (.int .i64 (x : Int))).congr fun j _ => by by_cases e : j = k <;> simp [e], h.vrow.of_block (hb _ fun e => h.ne e.symm),
    fun j hj => ownsRow_same (h.rows j hj) fun g hg _ => hb g (by have := (own_place (h.rows j hj) hg).1; omega), h.que.same fun g hg _ => hb g (by have := (h.que.place hg).1; omega), h.disF⟩
theorem KqSt.push {N gl gf M n : Nat} {lf : Nat → Nat} {vs : Nat → Value} {ups : Nat → List Nat} {q : List Nat} {u v' : Value} {W w' : World} {z g : Nat} {o : Obj} (h : KqSt N gl gf M n lf vs ups q u W)
    (hg : (W.alloc o).grownBy w' u.ownBlock) (hv : ownsQ w' M v' (q ++ [z])) (hg1 : v'.ownBlock = some g) (hg2 : u.ownBlock = some g ∨ g = W.heap.size + 1) :
    KqSt N gl gf M n lf vs ups (q ++ [z]) v' w' := by
  have h1 := h.lM
  have h2 := h.fM
  have h3 := h.size
  have hb : ∀ b, b < W.heap.size → u.ownBlock ≠ some b → w'.heap[b]? = W.heap[b]? := fun b hb hne =>
    (hg.block b (by simp; omega) (fun e => hne e.symm)).trans (Below.heap_alloc W o b hb)
  have hlow : ∀ b, b < M → w'.heap[b]? = W.heap[b]? := fun b hlt => hb b (by omega) fun e => by have := (h.que.place e).1; omega
  have hs2 : W.heap.size ≤ w'.heap.size := Nat.le_trans (by simp) hg.size
  refine ⟨h.lo, h.lo2, h.ne, h1, h2, by omega, h.left.of_block (hlow _ h1), h.vrow.of_block (hlow _ h2), fun j hj => ownsRow_same (h.rows j hj) fun b hb' hlt => hb b hlt (h.disF j b hj hb'), hv, fun j b hj e1 e2 => ?_⟩
  rw [hg1] at e2
  cases e2
  rcases hg2 with e | e
  · exact h.disF j _ hj e1 e
  · have := (own_place (h.rows j hj) e1).2.1; omega
theorem KqSt.pop {N gl gf M n : Nat} {lf : Nat → Nat} {vs : Nat → Value} {ups : Nat → List Nat} {q : List Nat} {i c : Nat} {A : Option Addr} {W : World} (h : KqSt N gl gf M n lf vs ups (i :: q) (.slice A (i :: q).length c) W) :
    ∃ g o, A = some ⟨g, o, none⟩ ∧ W.cell? ⟨g, o, none⟩ = some (.int .i64 (i : Int)) ∧ 1 ≤ c ∧ c ≤ maxLen ∧ q.length + 1 ≤ c ∧ KqSt N gl gf M n lf vs ups q (.slice (if c = 1 then some ⟨g, o, none⟩ else some ⟨g, o + 1, none⟩) q.length (c - 1)) W := by
  obtain ⟨g, o, rfl, h1, h2, h3, h4, h5⟩ := h.que.pop
  refine ⟨g, o, rfl, h1, h2, h3, h4, h.lo, h.lo2, h.ne, h.lM, h.fM, h.size, h.left, h.vrow, h.rows, h5, fun k b hk e1 e2 => h.disF k b hk e1 ?_⟩
  rw [← e2]
  by_cases hc : c = 1
  · rw [if_pos hc]; rfl
  · rw [if_neg hc]; rfl
theorem KqSt.congr {N gl gf M n : Nat} {lf lf' : Nat → Nat} {vs : Nat → Value} {ups : Nat → List Nat} {q : List Nat} {u : Value} {W : World} (h : KqSt N gl gf M n lf vs ups q u W) (hl : ∀ k, k < n → lf k = lf' k) : KqSt N gl gf M n lf' vs ups q u W :=
  ⟨h.lo, h.lo2, h.ne, h.lM, h.fM, h.size, h.left.congr fun k hk => by rw [hl k hk], h.vrow, h.rows, h.que, h.disF⟩
theorem KqSt.shape {N gl gf M n : Nat} {lf : Nat → Nat} {vs : Nat → Value} {ups : Nat → List Nat} {q : List Nat} {u : Value} {W : World} (h : KqSt N gl gf M n lf vs ups q u W) : ∃ A c, u = .slice A q.length c ∧ q.length ≤ c := h.que.shape
theorem ownsQ.calm {B M : Nat} {u : Value} {q : List Nat} : Calm B (fun W => ownsQ W M u q) := fun W l o o' hl h hc hs => by
  refine ownsQ.same hs fun g hg _ => ?_
  obtain ⟨_, _, cur, hcur⟩ := ownsQ.place hs hg
  exact World.putObj_heap_other (by rintro rfl; rw [h] at hcur; cases hcur; cases hc)
theorem KqSt.calm {B N gl gf M n : Nat} {lf : Nat → Nat} {vs : Nat → Value} {ups : Nat → List Nat} {q : List Nat} {u : Value} : Calm B (KqSt N gl gf M n lf vs ups q u) := fun W l o o' hl h hc hs =>
  ⟨hs.lo, hs.lo2, hs.ne, hs.lM, hs.fM, by simpa using hs.size, Calm.rowIs (M := B) W l o o' hl h hc hs.left, Calm.rowIs (M := B) W l o o' hl h hc hs.vrow, fun k hk => Calm.owns (B := B) W l o o' hl h hc (hs.rows k hk), ownsQ.calm W l o o' hl h hc hs.que, hs.disF⟩
theorem KqSt.frm {N gl gf M n B1 : Nat} {lf : Nat → Nat} {vs : Nat → Value} {ups : Nat → List Nat} {q : List Nat} {u : Value} {W w' : World} {o : Obj} (h : KqSt N gl gf M n lf vs ups q u W) (hB : B1 < N) (hg : (W.alloc o).grownBy w' u.ownBlock) :
    Frm N B1 W w' ∧ KeepsOthers W w' := by
  have h1 := h.lo
  have h2 := h.lM
  refine ⟨⟨hg.os, hg.tape, hg.output, Nat.le_trans (by simp) hg.size, fun b hb hk => ?_⟩, (KeepsOthers.alloc W o).trans (KeepsOthers.of_grownBy hg fun j o' ej hj => ?_)⟩
  · refine (hg.block b (by simp; omega) fun e => ?_).trans (Below.heap_alloc W o b hb)
    have := (h.que.place e.symm).1
    omega
  · obtain ⟨_, hlt, cur, hc⟩ := h.que.place ej
    rw [Below.heap_alloc W o j hlt, hc] at hj
    cases hj; rfl
/-- 'append' by its run, at a plain region within a fence. -/
theorem wpListIn_appRun {F : Fence} {rm : Nat} {W w' : World} {ops : Array Oper} {rest : List Oper} {o : Oper} {a : Act} {Q : Exit → Act → World → Prop} {v' : Value} (hgd : o.guard = none) (s x : Operand)
    (ho : o.op = .call { callee := .builtin .append, args := #[s, x], argTypes := #[23, 23] }) (v vx : Value) (hs : a.eval s = v) (hx : a.eval x = vx)
    (hr : (Builtin.append_ #[23, 23] o.type #[v, vx]).run Tryd.prog W = .ok v' w') (k : wpListIn F rm Tryd.prog ops Q rest (a.put o.dst v') w') : wpListIn F rm Tryd.prog ops Q (o :: rest) a W := by
  refine wpListIn_plain hgd fun K hK => ?_
  unfold Oper.wpIn
  refine ⟨by simp [Oper.about, ho, resolve, Target.leads, Sem.run_pure], ?_⟩
  rw [Oper.semAt_plain F _ _ (by rw [ho]; intro c hc'; cases hc')]
  simp [execOp, ho, resolve, invoke, builtin, hs, hx, hr, Result.andThen]
  exact hK _ _ k
/-- A caller's state, by what was told. -/
structure CalQ (C : List Nat → World → Prop) (N : Nat) (G : Gr) (NA RA : Option Addr) (nc rc root B1 B2 : Nat) : Prop where
  frm : ∀ R W W', C R W → Frm N B1 W W' → C R W'
  lt : B1 < N ∧ ∀ R W, C R W → N ≤ W.heap.size
  cells : ∀ R W, C R W → W.cell? ⟨B1, 0, none⟩ = some (.slice NA G.nodes.length nc) ∧ W.cell? ⟨B1, 1, none⟩ = some (.slice RA G.roots.length rc) ∧ W.cell? ⟨B2, 0, none⟩ = some (.int .i64 root)
  gr : ∀ R W, C R W → GrAt W N G (.agg #[.slice NA G.nodes.length nc, .slice RA G.roots.length rc])
  nodes : ∀ R W, C R W → NdsAt W N NA G.nodes
  tabs : ∀ R W, C R W → Tabs W
/-- What a body is handed. -/
structure QTold where
  i : Nat
  R : List Nat
  lf : Nat → Nat
  vs : Nat → Value
  q : List Nat
  u : Value
  gl : Nat
  gf : Nat
  M : Nat
structure QRd (C : List Nat → World → Prop) (N : Nat) (G : Gr) (L : List Nat) (s : QTold) (W : World) : Prop where
  c : C s.R W
  st : KqSt N s.gl s.gf s.M G.nodes.length s.lf s.vs (upsN (kidN G) L) s.q s.u W
  kids : ∀ y ∈ kidN G s.i, y ∈ s.R
  new : s.i ∉ s.R
  lt : s.i < G.nodes.length
  len : s.R.length ≤ 20000
  acc : Acc (edge (kidN G)) s.i
structure QAf (C : List Nat → World → Prop) (N : Nat) (G : Gr) (L : List Nat) (s : QTold) (W : World) : Prop where
  c : C (s.R ++ [s.i]) W
  st : KqSt N s.gl s.gf s.M G.nodes.length s.lf s.vs (upsN (kidN G) L) s.q s.u W
theorem QRd.calm {M N : Nat} {C : List Nat → World → Prop} {G : Gr} {L : List Nat} (hC : ∀ R, Calm M (C R)) (s : QTold) : Calm M (QRd C N G L s) := fun W l o o' hl h hc hs =>
  ⟨hC _ W l o o' hl h hc hs.c, KqSt.calm W l o o' hl h hc hs.st, hs.kids, hs.new, hs.lt, hs.len, hs.acc⟩
theorem QAf.calm {M N : Nat} {C : List Nat → World → Prop} {G : Gr} {L : List Nat} (hC : ∀ R, Calm M (C R)) (s : QTold) : Calm M (QAf C N G L s) := fun W l o o' hl h hc hs =>
  ⟨hC _ W l o o' hl h hc hs.c, KqSt.calm W l o o' hl h hc hs.st⟩
end Go.Proofs.YtdcbngimgpdjoaaDoor
