/- The reference's Form (marginaliaref17): what lies in memory while it runs. No condition. -/
import Derived.Test.YtdcbngimgpdjoaaDoorIf
import Derived.Test.YtdcbngimgpdjoaaDoorRi
import Derived.Test.YtdcbngimgpdjoaaDoorKm
namespace Go.Proofs.YtdcbngimgpdjoaaDoor
open Go.RowKit Go.Shelf Go.Deep
/-- All but two blocks lie as they lay. -/
structure Kept2 (X W : World) (a b : Nat) : Prop where
  os : W.os = X.os
  tape : W.tape = X.tape
  output : W.output = X.output
  size : X.heap.size ≤ W.heap.size
  block : ∀ k, k < X.heap.size → k ≠ a → k ≠ b → W.heap[k]? = X.heap[k]?
theorem Kept2.refl (X : World) (a b : Nat) : Kept2 X X a b := ⟨rfl, rfl, rfl, Nat.le_refl _, fun _ _ _ _ => rfl⟩
theorem Kept2.trans {X W Z : World} {a b : Nat} (h : Kept2 X W a b) (h' : Kept2 W Z a b) : Kept2 X Z a b :=
  ⟨h'.os.trans h.os, h'.tape.trans h.tape, h'.output.trans h.output, Nat.le_trans h.size h'.size, fun k hk h1 h2 => (h'.block k (Nat.lt_of_lt_of_le hk h.size) h1 h2).trans (h.block k hk h1 h2)⟩
theorem Kept2.below {w X W : World} {a b : Nat} (hw : Below w.heap.size w X) (h : Kept2 X W a b) (h1 : w.heap.size ≤ a) (h2 : w.heap.size ≤ b) : Below w.heap.size w W :=
  ⟨h.os.trans hw.os, h.tape.trans hw.tape, h.output.trans hw.output, Nat.le_trans hw.size h.size, fun k hk => (h.block k (Nat.lt_of_lt_of_le hk hw.size) (by omega) (by omega)).trans (hw.block k hk)⟩
theorem Kept2.of_below {X W : World} (a b : Nat) (h : Below X.heap.size X W) : Kept2 X W a b := ⟨h.os, h.tape, h.output, h.size, fun k hk _ _ => h.block k hk⟩
/-- The rows of new numbers and of what was seen, and the row of those met. -/
structure RfSt (X : World) (n T : Nat) (visS vis : List Nat) (u : Value) (W : World) : Prop where
  hT : T + 2 = X.heap.size
  keep : Kept2 X W T (T + 1)
  tos : W.rowIs T 3 n fun k => .int .i64 (posF vis k : Nat)
  seen : W.rowIs (T + 1) 4 n fun j => .bool (decide (j ∈ visS))
  row : W.ownsRow X.heap.size 3 1 u vis.length (ncells vis)
theorem RfSt.drew {X W : World} {n T : Nat} {visS vis : List Nat} {u : Value} (h : RfSt X n T visS vis u W) : RfSt X n T visS vis u W.drew :=
  ⟨h.hT, ⟨h.keep.os, h.keep.tape, h.keep.output, h.keep.size, h.keep.block⟩, h.tos.of_block rfl, h.seen.of_block rfl, h.row.drew⟩
theorem RfSt.reach {X W w' : World} {n T : Nat} {visS visS' vis : List Nat} {u : Value} (h : RfSt X n T visS vis u W) (hg : W.grownBy w' (some (T + 1))) (hs : w'.rowIs (T + 1) 4 n fun j => .bool (decide (j ∈ visS'))) : RfSt X n T visS' vis u w' := by
  have hT := h.hT
  have hsz := h.keep.size
  have hb : ∀ k, k < W.heap.size → k ≠ T + 1 → w'.heap[k]? = W.heap[k]? := fun k hk hne => hg.block k hk (by simpa using hne)
  refine ⟨hT, ⟨hg.os.trans h.keep.os, hg.tape.trans h.keep.tape, hg.output.trans h.keep.output, Nat.le_trans hsz hg.size, fun k hk h1 h2 => (hb k (by omega) h2).trans (h.keep.block k hk h1 h2)⟩, h.tos.of_block (hb T (by omega) (by omega)), hs, ownsRow_same h.row fun g hg1 hlt => hb g hlt ?_⟩
  have := (own_place h.row hg1).1; omega
theorem RfSt.tell {X W w' : World} {n T i g : Nat} {visS vis : List Nat} {u v' : Value} {o : Obj} (h : RfSt X n T visS vis u W) (hd : (vis ++ [i]).Nodup) (hg : ((W.setCell ⟨T, i, none⟩ (.int .i64 (vis.length : Nat))).alloc o).grownBy w' u.ownBlock)
    (hv : w'.ownsRow X.heap.size 3 1 v' (vis ++ [i]).length (ncells (vis ++ [i]))) (hg1 : v'.ownBlock = some g) (hg2 : u.ownBlock = some g ∨ g = W.heap.size + 1) :
    RfSt X n T visS (vis ++ [i]) v' w' ∧ ∀ p, X.heap.size ≤ p → p < W.heap.size → u.ownBlock ≠ some p → w'.heap[p]? = W.heap[p]? ∧ v'.ownBlock ≠ some p := by
  have hT := h.hT
  have hsz := h.keep.size
  obtain ⟨W1, hW1⟩ : ∃ W1, W.setCell ⟨T, i, none⟩ (.int .i64 (vis.length : Nat)) = W1 := ⟨_, rfl⟩
  rw [hW1] at hg
  have hs1 : W1.heap.size = W.heap.size := by rw [← hW1]; simp
  have hb1 : ∀ k, k ≠ T → W1.heap[k]? = W.heap[k]? := fun k hk => by rw [← hW1]; exact Below.heap_setCell W ⟨T, i, none⟩ _ k hk
  have ho : W1.os = W.os ∧ W1.tape = W.tape ∧ W1.output = W.output := by rw [← hW1]; exact ⟨rfl, rfl, rfl⟩
  have hto : W1.rowIs T 3 n fun k => .int .i64 (posF (vis ++ [i]) k : Nat) := by
    rw [← hW1]
    refine (h.tos.set i _).congr fun k _ => ?_
    rw [posF_snoc hd]
    by_cases e : k = i <;> simp [e]
  have hb : ∀ k, k < W.heap.size → u.ownBlock ≠ some k → w'.heap[k]? = W1.heap[k]? := fun k hk hne =>
    (hg.block k (by simp; omega) (fun e => hne e.symm)).trans (Below.heap_alloc W1 o k (by omega))
  have hlow : ∀ k, k < X.heap.size → w'.heap[k]? = W1.heap[k]? := fun k hk => hb k (by omega) fun e => by have := (own_place h.row e).1; omega
  have hsz2 : W.heap.size ≤ w'.heap.size := Nat.le_trans (by simp [hs1]) hg.size
  refine ⟨⟨hT, ⟨(hg.os.trans ho.1).trans h.keep.os, (hg.tape.trans ho.2.1).trans h.keep.tape, (hg.output.trans ho.2.2).trans h.keep.output, by omega, fun k hk h1 h2 => ((hlow k hk).trans (hb1 k h1)).trans (h.keep.block k hk h1 h2)⟩, hto.of_block (hlow T (by omega)), (h.seen.of_block (hb1 (T + 1) (by omega))).of_block (hlow (T + 1) (by omega)), hv⟩, fun p hp hlt hne => ⟨(hb p hlt hne).trans (hb1 p (by omega)), ?_⟩⟩
  rw [hg1]
  intro e
  cases e
  rcases hg2 with e | e
  · exact hne e
  · omega
/-- As RfSt, and the row that 'reach' told lies as it lay. -/
structure RfIn (X : World) (n T : Nat) (visS vis : List Nat) (A : Option Addr) (out : List Nat) (u : Value) (W : World) : Prop where
  st : RfSt X n T visS vis u W
  ints : IntsAt W W.heap.size A (out.map Int.ofNat)
  own : 0 < out.length → ∀ p, A = some p → X.heap.size ≤ p.block ∧ u.ownBlock ≠ some p.block
theorem RfIn.tell {X W w' : World} {n T i g : Nat} {visS vis out : List Nat} {A : Option Addr} {u v' : Value} {o : Obj} (h : RfIn X n T visS vis A out u W) (hd : (vis ++ [i]).Nodup) (hg : ((W.setCell ⟨T, i, none⟩ (.int .i64 (vis.length : Nat))).alloc o).grownBy w' u.ownBlock)
    (hv : w'.ownsRow X.heap.size 3 1 v' (vis ++ [i]).length (ncells (vis ++ [i]))) (hg1 : v'.ownBlock = some g) (hg2 : u.ownBlock = some g ∨ g = W.heap.size + 1) :
    RfIn X n T visS (vis ++ [i]) A out v' w' := by
  obtain ⟨h1, h2⟩ := h.st.tell hd hg hv hg1 hg2
  have hsz2 : W.heap.size ≤ w'.heap.size := Nat.le_trans (by simp) hg.size
  refine ⟨h1, fun hz => ?_, fun hz p hp => ?_⟩
  · obtain ⟨b, off, rfl, hlt, hc⟩ := h.ints hz
    obtain ⟨a, c⟩ := h.own (by simpa using hz) _ rfl
    exact ⟨b, off, rfl, by omega, fun k hk => (World.cell?_of_block (h2 b a hlt c).1).trans (hc k hk)⟩
  · obtain ⟨b, off, rfl, hlt, hc⟩ := h.ints (by simpa using hz)
    obtain ⟨a, c⟩ := h.own hz _ hp
    cases hp
    exact ⟨a, (h2 b a hlt c).2⟩
/-- The box of the graph that is made, with its rows. -/
structure GoSt (Y : World) (B : Nat) (nv rv : Value) (L : List NdK) (l : List Nat) (W : World) : Prop where
  lt : B < Y.heap.size
  keep : Kept2 Y W B B
  out : W.heap[B]? = some (.cells #[nv, rv] 25 (0, 0))
  nds : NdsOwn W Y.heap.size nv L
  rts : W.ownsRow Y.heap.size 3 1 rv l.length (ncells l)
  ne : ∀ b, nv.ownBlock = some b → rv.ownBlock ≠ some b
theorem GoSt.kid {Y W w' : World} {B : Nat} {nv rv : Value} {L : List NdK} {l : List Nat} {cs : Array Value} {e : Nd} {A' : Option Addr} {c' : Nat} (h : GoSt Y B nv rv L l W)
    (hb : Below (W.heap.size + 1) (W.alloc (.cells cs 33)) w') (hz : ZOwn w' (W.heap.size + 1) (.slice A' e.kids.length c') e.kids) :
    w'.heap[W.heap.size]? = some (.cells cs 33 (0, 0)) ∧ (w'.setCell ⟨W.heap.size, 3, none⟩ (.slice A' e.kids.length c')).heap[W.heap.size]? = some (.cells (cs.setIfInBounds 3 (.slice A' e.kids.length c')) 33 (0, 0)) ∧
      GoSt Y B nv rv L l (w'.setCell ⟨W.heap.size, 3, none⟩ (.slice A' e.kids.length c')) ∧ KidOk (w'.setCell ⟨W.heap.size, 3, none⟩ (.slice A' e.kids.length c')) Y.heap.size nv (e, A', c') := by
  have hlt := h.lt
  have hYW := h.keep.size
  have hsz : W.heap.size + 1 ≤ w'.heap.size := Nat.le_trans (by simp) hb.size
  have hk : ∀ b, b < W.heap.size → w'.heap[b]? = W.heap[b]? := fun b hl => (hb.block b (by omega)).trans (Below.heap_alloc W _ b hl)
  have hx : w'.heap[W.heap.size]? = some (.cells cs 33 (0, 0)) := (hb.block _ (by omega)).trans (World.alloc_heap_new W _)
  have hst : ∀ b, b ≠ W.heap.size → (w'.setCell ⟨W.heap.size, 3, none⟩ (.slice A' e.kids.length c')).heap[b]? = w'.heap[b]? := fun b hl => Below.heap_setCell w' ⟨W.heap.size, 3, none⟩ _ b hl
  have hkk : ∀ b, b < W.heap.size → (w'.setCell ⟨W.heap.size, 3, none⟩ (.slice A' e.kids.length c')).heap[b]? = W.heap[b]? := fun b hl => (hst b (by omega)).trans (hk b hl)
  have hown : ∀ p, A' = some p → W.heap.size + 1 ≤ p.block ∧ p.block < w'.heap.size := fun p ep => by
    subst ep
    have := own_place hz.own (b := p.block) rfl
    exact ⟨this.1, this.2.1⟩
  obtain ⟨A2, c2, e2, h1, h2, h3⟩ := hz.form
  cases e2
  refine ⟨hx, Go.Joins.block_setCell hx _, ⟨hlt, ⟨hb.os.trans h.keep.os, hb.tape.trans h.keep.tape, hb.output.trans h.keep.output, by simp; omega, fun b hl h1 h2 => (hkk b (by omega)).trans (h.keep.block b hl h1 h2)⟩, (hkk _ (by omega)).trans h.out, h.nds.keep (by simp; omega) fun g _ hg => hkk g hg, ownsRow_same h.rts fun g hg hl => hkk g hl, h.ne⟩, ?_, h1, h3, fun p ep => ?_⟩
  · exact ints_keep h2 (by simp) fun p ep => hst _ (by have := (hown p ep).1; omega)
  · have hp := hown p ep
    refine ⟨by omega, by simp; omega, fun e => ?_⟩
    have := (own_place h.nds.own e).2.1
    omega
theorem GoSt.store {Y S w' : World} {B : Nat} {nv rv v' : Value} {L L' : List NdK} {l : List Nat} {o : Obj} {g : Nat} (h : GoSt Y B nv rv L l S) (hn : NdsOwn w' Y.heap.size v' L') (hg : (S.alloc o).grownBy w' nv.ownBlock) (hg1 : v'.ownBlock = some g) (hg2 : nv.ownBlock = some g ∨ g = S.heap.size + 1) :
    (w'.cell? ⟨B, 0, none⟩ = some nv ∧ w'.frozen? ⟨B, 0, none⟩ = false) ∧ GoSt Y B v' rv L' l (w'.setCell ⟨B, 0, none⟩ v') := by
  have hlt := h.lt
  have hYS := h.keep.size
  have hsz : S.heap.size ≤ w'.heap.size := Nat.le_trans (by simp) hg.size
  have hkb : ∀ b, b < S.heap.size → nv.ownBlock ≠ some b → w'.heap[b]? = S.heap[b]? := fun b hl hne => (hg.block b (by simp; omega) fun e => hne e.symm).trans (Below.heap_alloc S o b hl)
  have hk : ∀ b, b < Y.heap.size → w'.heap[b]? = S.heap[b]? := fun b hl => hkb b (by omega) fun e => by have := (own_place h.nds.own e).1; omega
  have hst : ∀ b, b ≠ B → (w'.setCell ⟨B, 0, none⟩ v').heap[b]? = w'.heap[b]? := fun b hl => Below.heap_setCell w' ⟨B, 0, none⟩ _ b hl
  have hx := (hk _ hlt).trans h.out
  refine ⟨⟨Lib.cell_of_heap hx 0, Go.Joins.unfrozen_of_block hx 0⟩, hlt, ⟨hg.os.trans h.keep.os, hg.tape.trans h.keep.tape, hg.output.trans h.keep.output, by simp; omega, fun b hl h1 h2 => (hst b h1).trans ((hk b hl).trans (h.keep.block b hl h1 h2))⟩,
    Go.Joins.block_setCell hx v', hn.keep (by simp) fun g hg1 _ => hst g (by omega), ownsRow_same h.rts fun b hb hl => ?_, fun b hb => ?_⟩
  · have h2 := own_place h.rts hb
    exact (hst b (by omega)).trans (hkb b hl fun e => h.ne b e hb)
  · rw [hg1] at hb
    cases hb
    intro e
    rcases hg2 with e2 | e2
    · exact h.ne _ e2 e
    · have := (own_place h.rts e).2.1; omega
theorem GoSt.root {Y S w' : World} {B : Nat} {nv rv v' : Value} {L : List NdK} {l l' : List Nat} {o : Obj} {g : Nat} (h : GoSt Y B nv rv L l S) (hn : w'.ownsRow Y.heap.size 3 1 v' l'.length (ncells l')) (hg : (S.alloc o).grownBy w' rv.ownBlock) (hg1 : v'.ownBlock = some g) (hg2 : rv.ownBlock = some g ∨ g = S.heap.size + 1)
    (hK : ∀ e ∈ L, ∀ p, e.2.1 = some p → rv.ownBlock ≠ some p.block) :
    (w'.cell? ⟨B, 1, none⟩ = some rv ∧ w'.frozen? ⟨B, 1, none⟩ = false) ∧ GoSt Y B nv v' L l' (w'.setCell ⟨B, 1, none⟩ v') ∧ (∀ e ∈ L, ∀ p, e.2.1 = some p → v'.ownBlock ≠ some p.block) := by
  have hlt := h.lt
  have hYS := h.keep.size
  have hsz : S.heap.size ≤ w'.heap.size := Nat.le_trans (by simp) hg.size
  have hkb : ∀ b, b < S.heap.size → rv.ownBlock ≠ some b → w'.heap[b]? = S.heap[b]? := fun b hl hne => (hg.block b (by simp; omega) fun e => hne e.symm).trans (Below.heap_alloc S o b hl)
  have hk : ∀ b, b < Y.heap.size → w'.heap[b]? = S.heap[b]? := fun b hl => hkb b (by omega) fun e => by have := (own_place h.rts e).1; omega
  have hst : ∀ b, b ≠ B → (w'.setCell ⟨B, 1, none⟩ v').heap[b]? = w'.heap[b]? := fun b hl => Below.heap_setCell w' ⟨B, 1, none⟩ _ b hl
  have hx := (hk _ hlt).trans h.out
  refine ⟨⟨Lib.cell_of_heap hx 1, Go.Joins.unfrozen_of_block hx 1⟩, ⟨hlt, ⟨hg.os.trans h.keep.os, hg.tape.trans h.keep.tape, hg.output.trans h.keep.output, by simp; omega, fun b hl h1 h2 => (hst b h1).trans ((hk b hl).trans (h.keep.block b hl h1 h2))⟩,
    Go.Joins.block_setCell hx v', ⟨ownsRow_same h.nds.own fun b hb hl => ?_, fun e he => ?_⟩, ownsRow_same hn fun b hb hl => hst b ?_, fun b hb => ?_⟩, fun e he p hp => ?_⟩
  · have h2 := own_place h.nds.own hb
    exact (hst b (by omega)).trans (hkb b hl fun e => h.ne b hb e)
  · have hke := h.nds.kids e he
    refine ⟨ints_keep hke.ints (by simp; omega) fun p hp => ?_, hke.room, hke.nil, fun p hp => ?_⟩
    · have := hke.own p hp
      exact (hst _ (by omega)).trans (hkb _ this.2.1 (hK e he p hp))
    · have := hke.own p hp
      exact ⟨this.1, by simp; omega, this.2.2⟩
  · have := (own_place hn hb).1; omega
  · rw [hg1]
    intro e
    injection e with e
    rcases hg2 with e2 | e2
    · exact h.ne b hb (by rw [e2, e])
    · have := (own_place h.nds.own hb).2.1; omega
  · rw [hg1]
    intro e2
    have := (h.nds.kids e he).own p hp
    injection e2 with e2
    rcases hg2 with e3 | e3
    · exact hK e he p hp (by rw [e3, e2])
    · omega
/-- 'append' of one node to a row of the call's own, outside a fence. -/
theorem wpList_appN {W : World} {ops : Array Oper} {rest : List Oper} {o : Oper} {a : Act} {Q : Exit → Act → World → Prop} (hgd : o.guard = none) (s x : Operand) (t : TypeId)
    (ho : o.op = .call { callee := .builtin .append, args := #[s, x], argTypes := #[t, t] }) (ht : Tryd.prog.underlying t = some (.slice 33)) {N : Nat} (v : Value) (L : List NdK) (e : NdK)
    (hs : a.eval s = v) (h : NdsOwn W N v L) (he : KidOk W N v e) (n0 : Nat) (hn0 : n0 = W.heap.size) (hx : a.eval x = .slice (some ⟨n0, 0, none⟩) 1 1) (hl : L.length ≤ 1000000) (hB : N ≤ W.heap.size)
    (K : ∀ v' w' g, NdsOwn w' N v' (L ++ [e]) → (W.alloc (.cells #[.int .i64 e.1.kind, .string e.1.tag, .string e.1.text, .slice e.2.1 e.1.kids.length e.2.2, .bool e.1.plain] 33)).grownBy w' v.ownBlock → v'.ownBlock = some g → (v.ownBlock = some g ∨ g = W.heap.size + 1) → wpList Tryd.prog ops Q rest (a.put o.dst v') w') :
    wpList Tryd.prog ops Q (o :: rest) a (W.alloc (.cells #[.int .i64 e.1.kind, .string e.1.tag, .string e.1.text, .slice e.2.1 e.1.kids.length e.2.2, .bool e.1.plain] 33)) := by
  obtain ⟨i0, hi, hz0, hz1, hz2⟩ := info_parts Tryd.infoNodeI
  refine wpList_append_own_at _ hgd s x t ho N _ i0 _ 5 72 ht hi hz0 hz1 hz2 rfl (by decide) _ _ _ hs (h.own.alloc _) ⟨n0, 0, none⟩ 1 1 (nrow e) hx rfl ?_ (fun u hu => ?_) (by unfold maxLen; omega) (by omega) (by simp; omega) ?_
  · intro j u hj
    subst hn0
    match j, hj with
    | 0, hj => simp [nrow] at hj; subst hj; simp [Addr.add]
    | 1, hj => simp [nrow] at hj; subst hj; simp [Addr.add]
    | 2, hj => simp [nrow] at hj; subst hj; simp [Addr.add]
    | 3, hj => simp [nrow] at hj; subst hj; simp [Addr.add]
    | 4, hj => simp [nrow] at hj; subst hj; simp [Addr.add]
    | j + 5, hj => simp [nrow] at hj
  · simp [nrow] at hu
    rcases hu with rfl | rfl | rfl | rfl | rfl <;> rfl
  · intro v' w' h1 h2 h3 h4
    have h1' : w'.ownsRow N 33 5 v' (L ++ [e]).length (nrows (L ++ [e])) := by rw [nrows_snoc, List.length_append]; exact h1
    rcases h1.2 with ⟨_, h0⟩ | ⟨g', cap', cur', hv, _⟩
    · omega
    · have hg1 : v'.ownBlock = some g' := by rw [hv]; rfl
      have hg2 : v.ownBlock = some g' ∨ g' = W.heap.size + 1 := by
        rcases h4 with h4 | h4
        · left; rw [← h4, hg1]
        · right; rw [hg1] at h4; simpa using h4
      obtain ⟨q1, _, _⟩ := h.push he h2 h1' hg1 hg2
      exact K v' w' g' q1 h2 hg1 hg2
theorem ownsRow_less {W : World} {N N' : Nat} {e : TypeId} {s n : Nat} {v : Value} {xs : List Value} (h : W.ownsRow N e s v n xs) (hN : N' ≤ N) : W.ownsRow N' e s v n xs := by
  refine ⟨h.1, ?_⟩
  rcases h.2 with h0 | ⟨g, cap, cur, rfl, hB, r⟩
  · exact .inl h0
  · exact .inr ⟨g, cap, cur, rfl, Nat.le_trans hN hB, r⟩
theorem NdsOwn.less {W : World} {N N' : Nat} {v : Value} {L : List NdK} (h : NdsOwn W N v L) (hN : N' ≤ N) : NdsOwn W N' v L :=
  ⟨ownsRow_less h.own hN, fun e he => ⟨(h.kids e he).ints, (h.kids e he).room, (h.kids e he).nil, fun p hp => ⟨Nat.le_trans hN ((h.kids e he).own p hp).1, ((h.kids e he).own p hp).2⟩⟩⟩
/-- A graph that was made: its rows are the call's own. -/
structure FmAt (w W : World) (H : Gr) (nv rv : Value) (L : List NdK) (l : List Nat) : Prop where
  below : Below w.heap.size w W
  nodes : L.map (·.1) = H.nodes
  roots : l.map Int.ofNat = H.roots
  nds : NdsOwn W w.heap.size nv L
  rts : W.ownsRow w.heap.size 3 1 rv l.length (ncells l)
  ne : ∀ b, nv.ownBlock = some b → rv.ownBlock ≠ some b
theorem FmAt.gr {w W : World} {H : Gr} {nv rv : Value} {L : List NdK} {l : List Nat} (h : FmAt w W H nv rv L l) : GrAt W W.heap.size H (.agg #[nv, rv]) := by
  obtain ⟨NA, nc, rfl⟩ := h.nds.shape
  obtain ⟨RA, rc, rfl, hI, _⟩ := ints_row h.rts
  have h1 := h.nodes
  have h2 := h.roots
  have h3 := h.nds.at
  rw [h1] at h3
  rw [h2] at hI
  refine ⟨NA, nc, RA, rc, ?_, h3, hI⟩
  rw [← h1, ← h2, List.length_map, List.length_map]
/-- Where the Kids' rows lie, apart from the row of roots. -/
theorem GoSt.fin {Y W : World} {B : Nat} {nv rv : Value} {L : List NdK} {l : List Nat} (h : GoSt Y B nv rv L l W) : ∃ NA nc RA rc, nv = .slice NA L.length nc ∧ rv = .slice RA l.length rc ∧ NdsAt W W.heap.size NA (L.map (·.1)) ∧ IntsAt W W.heap.size RA (l.map Int.ofNat) := by
  obtain ⟨NA, nc, rfl⟩ := h.nds.shape
  obtain ⟨RA, rc, rfl, hI, _⟩ := ints_row h.rts
  exact ⟨NA, nc, RA, rc, rfl, rfl, h.nds.at, hI⟩
end Go.Proofs.YtdcbngimgpdjoaaDoor
