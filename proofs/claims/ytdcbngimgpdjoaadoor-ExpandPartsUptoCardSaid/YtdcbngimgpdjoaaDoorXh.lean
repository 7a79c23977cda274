/- expand.tree, and the reference's: what a node unfolds to. Conditions: the graph is right; no way from the node goes on for ever; no more than a million nodes. -/
import Derived.Test.YtdcbngimgpdjoaaDoorXf
import Derived.Maps.AppendAt
import Derived.Deep.RegionLaw
namespace Go.Proofs.YtdcbngimgpdjoaaDoor
open Go.RowKit Go.Shelf Go.Deep
attribute [local go_sem] Oper.semAt_some
theorem Tryd.infoTree : (Tryd.prog.info? 52).map (fun i => (i.zero, i.size, i.bytes)) = some (some (.agg #[.int .i64 0, .string ⟨#[]⟩, .string ⟨#[]⟩, .slice none 0 0]), 4, 64) := by kernel_rfl
/-- What lies behind N. -/
abbrev hi (N : Nat) (W : World) (b : Nat) : Prop := N ≤ b ∧ b < W.heap.size
/-- All that lay in X lies in W as it lay, but for one block. -/
structure KpT (X W : World) (a : Nat) : Prop where
  os : W.os = X.os
  tape : W.tape = X.tape
  output : W.output = X.output
  size : X.heap.size ≤ W.heap.size
  block : ∀ k, k < X.heap.size → k ≠ a → W.heap[k]? = X.heap[k]?
theorem four_news {W : World} {n0 : Nat} {e : TrK} {fr : Nat × Nat} (h : W.heap[n0]? = some (.cells (trow e).toArray 52 fr)) : ∀ j u, (trow e)[j]? = some u → W.cell? ((⟨n0, 0, none⟩ : Addr).add j) = some u := by
  intro j u hj
  rw [Addr.add_lit, Nat.zero_add, Lib.cell_of_heap h]
  simpa using hj
/-- 'append' of one tree to a row of the call's own. -/
theorem run_appT (W : World) {N : Nat} (v : Value) (L : List TrK) (e : TrK) (h : W.ownsRow N 52 4 v L.length (trows L)) (n0 : Nat) {fr : Nat × Nat} (hc : W.heap[n0]? = some (.cells (trow e).toArray 52 fr)) (hl : L.length ≤ 1000000000) (hB : N ≤ W.heap.size) :
    ∃ v' w', (Builtin.append_ #[50, 50] 50 #[v, .slice (some ⟨n0, 0, none⟩) 1 1]).run Tryd.prog W = .ok v' w' ∧ w'.ownsRow N 52 4 v' (L ++ [e]).length (trows (L ++ [e])) ∧ W.grownBy w' v.ownBlock ∧ (v'.ownBlock = v.ownBlock ∨ v'.ownBlock = some W.heap.size) ∧ ∃ g, v'.ownBlock = some g := by
  obtain ⟨i0, hi, hz0, hz1, hz2⟩ := info_parts Tryd.infoTree
  obtain ⟨v', w', hr, h2, h3, h4, h5⟩ := run_append_own_at (P := Tryd.prog) W N 50 50 52 i0 _ 4 64 Tryd.underlying50 hi hz0 hz1 hz2 rfl (by decide) v L.length (trows L) h ⟨n0, 0, none⟩ 1 1 (trow e) rfl (four_news hc) (fun u hu => by
    simp only [trow, List.mem_cons, List.not_mem_nil, or_false] at hu
    rcases hu with rfl | rfl | rfl | rfl <;> rfl) (by unfold maxLen; omega) (by omega) hB
  refine ⟨v', w', hr, by simpa [trows] using h2, h3, h5, ?_⟩
  rcases h2.2 with ⟨_, h0⟩ | ⟨g', cap', cur', rfl, _⟩
  · omega
  · exact ⟨g', rfl⟩
theorem step_appTRun {W w' : World} {ops : Array Oper} {o : Oper} {a : Act} {K : Act → World → Prop} {Q : Exit → Act → World → Prop} {E : Prop} {v' : Value} (hgd : o.guard = none) (s x : Operand)
    (ho : o.op = .call { callee := .builtin .append, args := #[s, x], argTypes := #[50, 50] }) (v vx : Value) (hs : a.eval s = v) (hx : a.eval x = vx)
    (hr : (Builtin.append_ #[50, 50] o.type #[v, vx]).run Tryd.prog W = .ok v' w') (k : K (a.put o.dst v') w') :
    if Region.wanted o (yielded ops a.tmps) = true then Oper.wp Tryd.prog o a W K Q else E := by
  have hw : Region.wanted o (yielded ops a.tmps) = true := by simp [Region.wanted, hgd]
  rw [if_pos hw]
  unfold Oper.wp execOp
  simp only [ho, resolve, invoke, builtin, Sem.run_bind, Sem.run_pure, Result.andThen_ok, List.map_toArray, List.map_cons, List.map_nil, hs, hx, hr]
  exact k
/-- The tree's box, and the row of its Kids. -/
structure TkSt (X : World) (Bt : Nat) (e : Nd) (kv : Value) (L : List TrK) (W : World) : Prop where
  keep : KpT X W Bt
  out : W.heap[Bt]? = some (.cells #[.int .i64 e.kind, .string e.tag, .string e.text, kv] 52 (0, 0))
  own : TrsOwn W X.heap.size kv L
theorem TkSt.drew {X W : World} {Bt : Nat} {e : Nd} {kv : Value} {L : List TrK} (h : TkSt X Bt e kv L W) : TkSt X Bt e kv L W.drew :=
  ⟨⟨h.keep.os, h.keep.tape, h.keep.output, h.keep.size, h.keep.block⟩, h.out, h.own.keep (Nat.le_refl _) fun _ _ _ => rfl⟩
/-- Behind a call that made a tree, and 'append' of it. -/
theorem TkSt.push {X W W1 w' : World} {Bt : Nat} {e : Nd} {kv v' : Value} {L : List TrK} {u : TrK} {o : Obj} (h : TkSt X Bt e kv L W) (hBt : Bt < X.heap.size) (hb : Below W.heap.size W W1) (hu : u.1.kids.length ≤ u.2.2 ∧ KidsAt W1 (hi W.heap.size W1) u.2.1 u.1.kids)
    (hg : (W1.alloc o).grownBy w' kv.ownBlock) (hv : w'.ownsRow X.heap.size 52 4 v' (L ++ [u]).length (trows (L ++ [u]))) (hat : v'.ownBlock = kv.ownBlock ∨ v'.ownBlock = some (W1.alloc o).heap.size) {g : Nat} (hg1 : v'.ownBlock = some g) :
    (w'.cell? ⟨Bt, 3, none⟩ = some kv ∧ w'.frozen? ⟨Bt, 3, none⟩ = false) ∧ TkSt X Bt e v' (L ++ [u]) (w'.setCell ⟨Bt, 3, none⟩ v') := by
  have hXW := h.keep.size
  have hWW := hb.size
  have hsz : W1.heap.size ≤ w'.heap.size := Nat.le_trans (by simp) hg.size
  have hown1 : TrsOwn W1 X.heap.size kv L := h.own.keep hWW fun b _ hl => hb.block b hl
  have hk1 : ∀ b, b < W1.heap.size → kv.ownBlock ≠ some b → w'.heap[b]? = W1.heap[b]? := fun b hl hne => (hg.block b (by simp; omega) fun e => hne e.symm).trans (Below.heap_alloc W1 o b hl)
  have hk : ∀ b, b < X.heap.size → w'.heap[b]? = W.heap[b]? := fun b hl => (hk1 b (by omega) fun e => by have := (own_place h.own.own e).1; omega).trans (hb.block b (by omega))
  have hst : ∀ b, b ≠ Bt → (w'.setCell ⟨Bt, 3, none⟩ v').heap[b]? = w'.heap[b]? := fun b hl => Below.heap_setCell w' ⟨Bt, 3, none⟩ _ b hl
  have hx := (hk _ hBt).trans h.out
  have hg2 : kv.ownBlock = some g ∨ g = W1.heap.size + 1 := by
    rcases hat with e | e
    · left; rw [← e, hg1]
    · right; rw [hg1] at e; simpa using e
  have hp := hown1.push (e := u) ⟨hu.1, hu.2.keep (fun _ _ => rfl) fun b hb' => ⟨by have := hb'.1; omega, hb'.2, fun e => by have := (own_place h.own.own e).2.1; have := hb'.1; omega⟩⟩ hg hv hg1 hg2
  refine ⟨⟨Lib.cell_of_heap hx 3, Go.Joins.unfrozen_of_block hx 3⟩, ⟨hg.os.trans (hb.os.trans h.keep.os), hg.tape.trans (hb.tape.trans h.keep.tape), hg.output.trans (hb.output.trans h.keep.output), by simp; omega, fun b hl hn => (hst b hn).trans ((hk b hl).trans (h.keep.block b hl hn))⟩,
    Go.Joins.block_setCell hx v', hp.keep (by simp) fun b hN _ => hst b (by omega)⟩
set_option maxRecDepth 100000 in
set_option maxHeartbeats 8000000 in
theorem tree_any (G : Gr) (hR : RightG G) (NA RA : Option Addr) (nc rc : Nat) (B0 : Nat) (w0 : World) (hB : B0 ≤ w0.heap.size) (hG : NdsAt w0 B0 NA G.nodes) (x : Nat) (hacc : Acc (edge (kidN G)) x) : x < G.nodes.length → (treeA G x).count ≤ 1000000 → ∀ w, Below B0 w0 w →
    Calls Tryd.prog 61 #[.agg #[.slice NA G.nodes.length nc, .slice RA G.roots.length rc], .int .i64 (x : Int)] w fun e w' => ∃ v, e = .returned v ∧ TrV w' (hi w.heap.size w') (treeA G x) v ∧ Below w.heap.size w w' := by
  induction hacc with
  | intro x hx ih =>
    intro hlt hcnt w hw
    have ha : Acc (edge (kidN G)) x := ⟨_, hx⟩
    have HI : Hid (∀ y ∈ kidN G x, ∀ W, Below B0 w0 W → Calls Tryd.prog 61 #[.agg #[.slice NA G.nodes.length nc, .slice RA G.roots.length rc], .int .i64 (y : Int)] W fun e w' => ∃ v, e = .returned v ∧ TrV w' (hi W.heap.size w') (treeA G y) v ∧ Below W.heap.size W w') := fun y hy W hW => by
      have h1 : (treeA G y).count < (treeA G x).count := Tr.count_kid (by rw [treeA_eq ha]; exact List.mem_map.2 ⟨y, hy, rfl⟩)
      exact ih y hy (hR.lt hlt y hy) (by omega) W hW
    have HT := Lib.hid (treeA_eq ha)
    have hnn := hR.nodes
    obtain ⟨bn, on, rfl, hbn, hcn⟩ := hG (by omega)
    obtain ⟨K, kc, hnd⟩ := hcn x hlt
    obtain ⟨e, he⟩ : ∃ e, nd G.nodes x = e := ⟨_, rfl⟩
    rw [he] at hnd
    obtain ⟨kl, hkl⟩ : ∃ l, e.kids = l := ⟨_, rfl⟩
    have HKN : Hid (kidN G x = kl.map Int.toNat) := by show _ = _; rw [kidN, he, hkl]
    have HKr : Hid (∀ z ∈ kl, 0 ≤ z ∧ z < G.nodes.length) := by rw [← hkl, ← he]; exact hR.kids x hlt
    have HKl : Hid (kl.length ≤ 20000) := by
      have h1 := restK_all (kids := kidN G) [x] [] (by simp) (by simpa using hlt)
      rw [restK_sum G _ (Nat.le_refl _), List.take_length] at h1
      have := hR.sum
      simp [kidN, he, hkl] at h1
      show _ ≤ _; omega
    have HTe : Hid (treeA G x = .mk e.kind e.tag e.text ((kidN G x).map (treeA G))) := by show _ = _; rw [HT.out, he]
    have hndw := hnd.below hw (Nat.le_refl _) hbn
    have hB0 := Nat.le_trans hB hw.size
    obtain ⟨V, hV, hbV, hrV, hsV⟩ : ∃ V, w.alloc (.cells #[.slice (some ⟨bn, on, none⟩) G.nodes.length nc, .slice RA G.roots.length rc] 25) = V ∧ Below w.heap.size w V ∧ V.heap[w.heap.size]? = some (.cells #[.slice (some ⟨bn, on, none⟩) G.nodes.length nc, .slice RA G.roots.length rc] 25 (0, 0)) ∧ V.heap.size = w.heap.size + 1 :=
      ⟨_, rfl, (Below.refl _ w).alloc (Nat.le_refl _) _, heap_alloc_new w _, by simp⟩
    obtain ⟨R, hRe, hbR, hrR, hsR⟩ : ∃ R, V.alloc (.cells #[.int .i64 0, .string ⟨#[]⟩, .string ⟨#[]⟩, .slice none 0 0] 52) = R ∧ Below V.heap.size V R ∧ R.heap[V.heap.size]? = some (.cells #[.int .i64 0, .string ⟨#[]⟩, .string ⟨#[]⟩, .slice none 0 0] 52 (0, 0)) ∧ R.heap.size = V.heap.size + 1 :=
      ⟨_, rfl, (Below.refl _ V).alloc (Nat.le_refl _) _, heap_alloc_new V _, by simp⟩
    have hwR := below_then hbV hbR
    have hrV2 := (hbR.block w.heap.size (by omega)).trans hrV
    rw [hsV] at hrR
    have HRf : Hid (∀ W, Below R.heap.size R W → W.cell? ⟨w.heap.size, 0, none⟩ = some (.slice (some ⟨bn, on, none⟩) G.nodes.length nc) ∧ W.cell? ⟨w.heap.size, 1, none⟩ = some (.slice RA G.roots.length rc) ∧ NdAt W B0 bn (on + x * 5) e K kc ∧ W.heap[w.heap.size + 1]? = some (.cells #[.int .i64 0, .string ⟨#[]⟩, .string ⟨#[]⟩, .slice none 0 0] 52 (0, 0)) ∧ Below w.heap.size w W ∧ Below B0 w0 W) := fun W hW => by
      have h1 := (hW.block _ (by omega)).trans hrV2
      have h2 := below_then hwR hW
      exact ⟨Lib.cell_of_heap h1 0, Lib.cell_of_heap h1 1, hndw.below (h2.mono hB0) (Nat.le_refl _) hbn, (hW.block _ (by omega)).trans hrR, h2, hw.trans (h2.mono hB0)⟩
    obtain ⟨v0, v1, hndR, hrr, _, _⟩ := HRf.out R (Below.refl _ _)
    have d0 := hndR.c0
    have d1 := hndR.c1
    have d2 := hndR.c2
    have d3 := hndR.c3
    have d4 := hndR.c4
    have hxI : (x : Int) < (G.nodes.length : Int) := by omega
    have hx0 : (0 : Int) ≤ (x : Int) := Int.natCast_nonneg x
    rw [hkl] at d3
    have HsR : Hid (R.heap.size = w.heap.size + 2) := by show _ = _; omega
    clear ih hx ha hndR hrr hnd hndw hbV hrV hbR hrV2 hrR hwR hcn hbn he
    go_enter Tryd.func61, Tryd.ntmps61
    go_wp2_with fail
    obtain ⟨X1, hX1, hbX1, hrX1, hsX1⟩ : ∃ X1, R.alloc (.cells #[.int .i64 e.kind, .string e.tag, .string e.text, .slice K kl.length kc, .bool e.plain] 33) = X1 ∧ Below R.heap.size R X1 ∧ X1.heap[R.heap.size]? = some (.cells #[.int .i64 e.kind, .string e.tag, .string e.text, .slice K kl.length kc, .bool e.plain] 33 (0, 0)) ∧ X1.heap.size = R.heap.size + 1 :=
      ⟨_, rfl, (Below.refl _ R).alloc (Nat.le_refl _) _, heap_alloc_new R _, by simp⟩
    obtain ⟨X, hX, hbX, hrX, hsX⟩ : ∃ X, X1.alloc (.cells #[.int .i64 e.kind, .string e.tag, .string e.text, .slice none 0 0] 52) = X ∧ Below X1.heap.size X1 X ∧ X.heap[X1.heap.size]? = some (.cells #[.int .i64 e.kind, .string e.tag, .string e.text, .slice none 0 0] 52 (0, 0)) ∧ X.heap.size = X1.heap.size + 1 :=
      ⟨_, rfl, (Below.refl _ X1).alloc (Nat.le_refl _) _, heap_alloc_new X1 _, by simp⟩
    rw [hX1, hX]
    have hBt : w.heap.size + 1 + 1 + 1 = X1.heap.size := by have := HsR.out; omega
    have hRX := below_then hbX1 hbX
    have HXl : Hid (X.heap.size = w.heap.size + 4 ∧ X1.heap.size = w.heap.size + 3 ∧ R.heap.size = w.heap.size + 2) := by have := HsR.out; exact ⟨by omega, by omega, this⟩
    have HRX := Lib.hid hRX
    have HS0 : Hid (TkSt X X1.heap.size e (.slice none 0 0) [] X) := ⟨⟨rfl, rfl, rfl, Nat.le_refl _, fun _ _ _ => rfl⟩, hrX, .empty _ _⟩
    have HW : Hid (∀ W, KpT X W X1.heap.size → Below R.heap.size R W) := fun W hW => by
      obtain ⟨l1, l2, l3⟩ := HXl.out
      exact ⟨hW.os.trans hRX.os, hW.tape.trans hRX.tape, hW.output.trans hRX.output, by have := hW.size; omega, fun b hb => (hW.block b (by omega) (by omega)).trans (hRX.block b hb)⟩
    clear hX hX1 hbX1 hrX1 hsX1 hbX hrX hsX hRX v0 v1 d0 d1 d2 d3 d4
    rw [hBt]
    clear hBt hV hRe hsV hsR
    go_loopw [24] (fun j wr => ∃ (q : Nat) (kv : Value) (L : List TrK), q ≤ kl.length ∧ j = .int .i64 (q : Int) ∧ Hid (TkSt X X1.heap.size e kv L wr) ∧ Hid (L.map (·.1) = ((kl.take q).map Int.toNat).map (treeA G))) (fun j _ => kl.length - (intOf j).toNat)
    case atStart => exact ⟨0, _, [], Nat.zero_le _, rfl, HS0, rfl⟩
    case round =>
      obtain ⟨q, kv, L, hq, rfl, hst, hL⟩ := hrel
      by_cases hlq : q < kl.length
      · have hRw := HW.out wr hst.out.keep
        obtain ⟨v0, v1, hndr, _, hwr, hw0r⟩ := HRf.out wr hRw
        have hke := hndr.kids
        rw [hkl] at hke
        obtain ⟨bK, oK, rfl, hbK, hcK⟩ := hke (by omega)
        obtain ⟨z, hz⟩ : ∃ z : Nat, kl[q] = (z : Int) := ⟨kl[q].toNat, by have := (HKr.out _ (List.getElem_mem hlq)).1; omega⟩
        have hcq := hcK q hlq
        rw [nth_eq hlq, hz] at hcq
        have hzm : z ∈ kidN G x := by rw [HKN.out]; exact List.mem_map.2 ⟨_, List.getElem_mem hlq, by rw [hz]; simp⟩
        have htk : ((kl.take (q + 1)).map Int.toNat).map (treeA G) = ((kl.take q).map Int.toNat).map (treeA G) ++ [treeA G z] := by
          rw [List.take_succ_eq_append_getElem hlq, List.map_append, List.map_append, hz]; simp
        have HTk := Lib.hid htk
        have HCl := Lib.hid (HI.out z hzm wr.drew (Below.drew hw0r))
        obtain ⟨Ak, ck, hkv, _⟩ := hst.out.own.shape
        subst hkv
        have b3 := Lib.cell_of_heap hst.out.out 3
        have Hst : Hid (TkSt X X1.heap.size e (.slice Ak L.length ck) L wr.drew) := hst.out.drew
        have hBt : X1.heap.size < X.heap.size := by obtain ⟨l1, l2, l3⟩ := HXl.out; omega
        have HBt := Lib.hid hBt
        have hll : Hid (L.length ≤ 20000) := by
          have h1 := congrArg List.length hL.out
          simp at h1
          have := HKl.out
          show _ ≤ _; omega
        have HwX : Hid (w.heap.size + 3 = X1.heap.size) := by obtain ⟨l1, l2, l3⟩ := HXl.out; show _ = _; omega
        have HSt : Hid (∀ W1, Below wr.drew.heap.size wr.drew W1 → W1.cell? ⟨w.heap.size, 0, none⟩ = some (.slice (some ⟨bn, on, none⟩) G.nodes.length nc) ∧ W1.cell? ⟨w.heap.size, 1, none⟩ = some (.slice RA G.roots.length rc) ∧ W1.cell? ⟨X1.heap.size, 3, none⟩ = some (.slice Ak L.length ck) ∧ W1.cell? ⟨bK, oK + q, none⟩ = some (.int .i64 (z : Int))) := fun W1 hW1 => by
          have key : ∀ (p : Addr) u, wr.cell? p = some u → W1.cell? p = some u := fun p u hu => (hW1.cell (p := p) (World.block_lt_of_cell? wr p hu)).trans hu
          exact ⟨key _ _ v0, key _ _ v1, key _ _ b3, key _ _ hcq⟩
        have hlqI : (q : Int) < (kl.length : Int) := by omega
        have Hlq := Lib.hid hlq
        have hmz : ∀ y : Int, y = q + 1 → kl.length - (intOf (.int .i64 y)).toNat < kl.length - (intOf (.int .i64 (q : Int))).toNat := by intro y hy; subst hy; have := Hlq.out; simp only [intOf]; omega
        have HWq : Hid (wrap64 ((q : Int) + 1) = q + 1) := by
          show _ = _
          refine IntWalk.wrap64_in _ ?_
          have := Hlq.out
          have := HKl.out
          omega
        clear hRw hndr hwr hw0r hke hbK hcK hz hzm htk hst hBt hq hlq
        go_wp2_with fail
        refine wp_region_held_drew (S := fun W => W.cell? ⟨w.heap.size, 0, none⟩ = some (.slice (some ⟨bn, on, none⟩) G.nodes.length nc) ∧ W.cell? ⟨w.heap.size, 1, none⟩ = some (.slice RA G.roots.length rc)) (by kernel_rfl) ⟨v0, v1⟩ (fun hHeld => ?_)
        refine wpAnyH_take (i := 0) (v := ?_) rfl (by kernel_rfl) (by kernel_rfl) (by kernel_rfl) (fun _ _ _ h => h) (Or.inl ⟨by rfl, ?_⟩) hHeld ?_; rotate_left; (intro W hSw; obtain ⟨_, _⟩ := hSw; go_simp; with_reducible rfl); try simp only [Act.put, List.getElem_toArray, List.getElem_cons_zero, List.setIfInBounds_toArray, List.set_cons_zero, List.set_cons_succ]
        refine wpAnyH_take (i := 2) (v := ?_) rfl (by kernel_rfl) (by kernel_rfl) (by kernel_rfl) (fun _ _ _ h => h) (Or.inl ⟨by rfl, ?_⟩) hHeld ?_; rotate_left; (intro W hSw; obtain ⟨_, _⟩ := hSw; go_simp; with_reducible rfl); try simp only [Act.put, List.getElem_toArray, List.getElem_cons_succ, List.getElem_cons_zero, List.setIfInBounds_toArray, List.set_cons_zero, List.set_cons_succ]
        refine wpAnyH_take (i := 3) (v := ?_) rfl (by kernel_rfl) (by kernel_rfl) (by kernel_rfl) (fun _ _ _ h => h) (Or.inl ⟨by rfl, ?_⟩) hHeld ?_; rotate_left; (intro W hSw; obtain ⟨_, _⟩ := hSw; go_simp; with_reducible rfl); try simp only [Act.put, List.getElem_toArray, List.getElem_cons_succ, List.getElem_cons_zero, List.setIfInBounds_toArray, List.set_cons_zero, List.set_cons_succ]
        clear hHeld
        refine wpAnyH_ready (rs := [1, 4]) (by kernel_rfl) (by simp) (AllReadyH.cons rfl (fun K hK => ?_) (AllReadyH.cons rfl (fun K hK => ?_) .nil))
        · have HK := Lib.hid hK
          clear hK
          go_simp
          refine HK.out.out _ _ ⟨v0, v1⟩ (fun _ => ?_)
          clear HK
          refine wpAnyH_ready (rs := [4]) (by kernel_rfl) (by simp) (AllReadyH.cons rfl (fun K hK => ?_) .nil)
          have HK := Lib.hid hK
          clear hK
          go_simp
          go_at_call 61
          refine HCl.out.mono ?_
          rintro e1 W1 ⟨v, rfl, ⟨A', c', rfl, hlc, hkd⟩, hb1⟩
          have HB1 := Lib.hid hb1
          have HU := Lib.hid (⟨hlc, hkd⟩ : (treeA G z).kids.length ≤ c' ∧ KidsAt W1 (hi wr.drew.heap.size W1) A' (treeA G z).kids)
          obtain ⟨s0, s1, s2, _⟩ := HSt.out W1 hb1
          clear hlc hkd hb1
          try go_simp
          refine HK.out.out _ _ ⟨s0, s1⟩ (fun _ => ?_)
          clear HK
          refine wpAnyH_ready (rs := [5]) (by kernel_rfl) (by simp) (AllReadyH.cons rfl (fun K hK => ?_) .nil)
          have HK := Lib.hid hK
          clear hK
          go_simp
          have hbn1 : Below W1.heap.size W1 (W1.alloc (.cells #[.int .i64 (treeA G z).kind, .string (treeA G z).tag, .string (treeA G z).text, .slice A' (treeA G z).kids.length c'] 52)) := (Below.refl _ W1).alloc (Nat.le_refl _) _
          obtain ⟨t0, t1, t2, _⟩ := HSt.out _ (Below.trans HB1.out (hbn1.mono HB1.out.size))
          refine HK.out.out _ _ ⟨t0, t1⟩ (fun _ => ?_)
          clear HK
          clear s0 s1 s2 t2
          have hrow : (W1.alloc (.cells #[.int .i64 (treeA G z).kind, .string (treeA G z).tag, .string (treeA G z).text, .slice A' (treeA G z).kids.length c'] 52)).ownsRow X.heap.size 52 4 (.slice Ak L.length ck) L.length (trows L) := ((Hst.out.own.keep HB1.out.size fun b _ hl => HB1.out.block b hl).own).alloc _
          obtain ⟨v', w', hrun, r1, r2, r3, g, r4⟩ := run_appT _ (.slice Ak L.length ck) L (treeA G z, A', c') hrow W1.heap.size (heap_alloc_new W1 _) (by have := hll.out; omega) (by have := HB1.out.size; have := Hst.out.keep.size; simp; omega)
          obtain ⟨A2, m2, c2, hv2⟩ : ∃ A m c, v' = .slice A m c := by rcases r1.2 with ⟨e0, _⟩ | ⟨g, cap, cur, e0, _⟩ <;> exact ⟨_, _, _, e0⟩
          subst hv2
          obtain ⟨⟨z1, z2⟩, hE⟩ := Hst.out.push (u := (treeA G z, A', c')) HBt.out HB1.out HU.out r2 r1 r3 r4
          have HE := Lib.hid hE
          obtain ⟨W5, hW5⟩ : ∃ W5, w'.setCell ⟨X1.heap.size, 3, none⟩ (.slice A2 m2 c2) = W5 := ⟨_, rfl⟩
          rw [hW5] at HE
          have hwb : ∀ b, b < wr.drew.heap.size → Value.ownBlock (.slice Ak L.length ck) ≠ some b → w'.heap[b]? = wr.drew.heap[b]? := fun b hl hne => (r2.block b (by have := HB1.out.size; simp at *; omega) (fun e => hne e.symm)).trans ((Below.heap_alloc W1 _ b (by have := HB1.out.size; simp at *; omega)).trans (HB1.out.block b hl))
          have hwlt : w.heap.size < X.heap.size := by have := HBt.out; have := HwX.out; omega
          have hnow : Value.ownBlock (.slice Ak L.length ck) ≠ some w.heap.size := fun e => by have := (own_place Hst.out.own.own e).1; omega
          have hx0 := hwb w.heap.size (by have := Hst.out.keep.size; omega) hnow
          have y0 : w'.cell? ⟨w.heap.size, 0, none⟩ = some (.slice (some ⟨bn, on, none⟩) G.nodes.length nc) := (World.cell?_of_block hx0).trans v0
          have y1 : w'.cell? ⟨w.heap.size, 1, none⟩ = some (.slice RA G.roots.length rc) := (World.cell?_of_block hx0).trans v1
          have hx5 : W5.heap[w.heap.size]? = w'.heap[w.heap.size]? := by rw [← hW5]; exact Below.heap_setCell w' ⟨X1.heap.size, 3, none⟩ _ _ (by show w.heap.size ≠ X1.heap.size; have := HwX.out; omega)
          have HS5 : Hid (W5.cell? ⟨w.heap.size, 0, none⟩ = some (.slice (some ⟨bn, on, none⟩) G.nodes.length nc) ∧ W5.cell? ⟨w.heap.size, 1, none⟩ = some (.slice RA G.roots.length rc)) := ⟨(World.cell?_of_block hx5).trans y0, (World.cell?_of_block hx5).trans y1⟩
          clear hrow r1 r2 r3 r4 hE hwb hwlt hnow hx0 hx5 t0 t1
          refine wpAnyH_ready (rs := [6]) (by kernel_rfl) (by simp) (AllReadyH.cons rfl (fun K hK => ?_) .nil)
          refine step_appTRun rfl _ _ rfl (.slice Ak L.length ck) _ rfl rfl hrun ?_
          refine hK.out _ _ ⟨y0, y1⟩ (fun hHeld => ?_)
          clear hK
          refine wpAnyH_take (i := 7) (v := ?_) rfl (by kernel_rfl) (by kernel_rfl) (by kernel_rfl) (fun _ _ _ h => h) (Or.inl ⟨by rfl, ?_⟩) hHeld ?_; rotate_left; (intro W hSw; obtain ⟨_, _⟩ := hSw; go_simp; with_reducible rfl); try simp only [Act.put, List.getElem_toArray, List.getElem_cons_succ, List.getElem_cons_zero, List.setIfInBounds_toArray, List.set_cons_zero, List.set_cons_succ]
          clear hHeld
          refine wpAnyH_ready (rs := [8]) (by kernel_rfl) (by simp) (AllReadyH.cons rfl (fun K hK => ?_) .nil)
          have HK := Lib.hid hK
          clear hK
          go_simp
          try rw [hW5]
          refine HK.out.out _ _ HS5.out (fun _ => ?_)
          clear HK y0 y1 z1 z2 hW5 hrun
          refine wpAnyH_done (by kernel_rfl) ?_ _
          go_wp2_with fail
          have HLn : Hid ((L ++ [((treeA G z, A', c') : TrK)]).map (·.1) = ((kl.take (q + 1)).map Int.toNat).map (treeA G)) := by show _ = _; rw [HTk.out, List.map_append, hL.out]; rfl
          first
            | exact ⟨⟨q + 1, _, _, Hlq.out, by simp, HE, HLn⟩, hmz _ rfl⟩
            | exact ⟨⟨q + 1, _, _, Hlq.out, congrArg (Value.int .i64) (HWq.out.trans (by simp)), HE, HLn⟩, hmz _ HWq.out⟩
        · have HK := Lib.hid hK
          clear hK
          go_simp
          go_at_call 61
          refine HCl.out.mono ?_
          rintro e1 W1 ⟨v, rfl, ⟨A', c', rfl, hlc, hkd⟩, hb1⟩
          have HB1 := Lib.hid hb1
          have HU := Lib.hid (⟨hlc, hkd⟩ : (treeA G z).kids.length ≤ c' ∧ KidsAt W1 (hi wr.drew.heap.size W1) A' (treeA G z).kids)
          obtain ⟨s0, s1, s2, _⟩ := HSt.out W1 hb1
          clear hlc hkd hb1
          try go_simp
          refine HK.out.out _ _ ⟨s0, s1⟩ (fun _ => ?_)
          clear HK
          refine wpAnyH_ready (rs := [1, 5]) (by kernel_rfl) (by simp) (AllReadyH.cons rfl (fun K hK => ?_) (AllReadyH.cons rfl (fun K hK => ?_) .nil))
          · have HK := Lib.hid hK
            clear hK
            go_simp
            refine HK.out.out _ _ ⟨s0, s1⟩ (fun _ => ?_)
            clear HK
            refine wpAnyH_ready (rs := [5]) (by kernel_rfl) (by simp) (AllReadyH.cons rfl (fun K hK => ?_) .nil)
            have HK := Lib.hid hK
            clear hK
            go_simp
            have hbn1 : Below W1.heap.size W1 (W1.alloc (.cells #[.int .i64 (treeA G z).kind, .string (treeA G z).tag, .string (treeA G z).text, .slice A' (treeA G z).kids.length c'] 52)) := (Below.refl _ W1).alloc (Nat.le_refl _) _
            obtain ⟨t0, t1, t2, _⟩ := HSt.out _ (Below.trans HB1.out (hbn1.mono HB1.out.size))
            refine HK.out.out _ _ ⟨t0, t1⟩ (fun _ => ?_)
            clear HK
            clear s0 s1 s2 t2
            have hrow : (W1.alloc (.cells #[.int .i64 (treeA G z).kind, .string (treeA G z).tag, .string (treeA G z).text, .slice A' (treeA G z).kids.length c'] 52)).ownsRow X.heap.size 52 4 (.slice Ak L.length ck) L.length (trows L) := ((Hst.out.own.keep HB1.out.size fun b _ hl => HB1.out.block b hl).own).alloc _
            obtain ⟨v', w', hrun, r1, r2, r3, g, r4⟩ := run_appT _ (.slice Ak L.length ck) L (treeA G z, A', c') hrow W1.heap.size (heap_alloc_new W1 _) (by have := hll.out; omega) (by have := HB1.out.size; have := Hst.out.keep.size; simp; omega)
            obtain ⟨A2, m2, c2, hv2⟩ : ∃ A m c, v' = .slice A m c := by rcases r1.2 with ⟨e0, _⟩ | ⟨g, cap, cur, e0, _⟩ <;> exact ⟨_, _, _, e0⟩
            subst hv2
            obtain ⟨⟨z1, z2⟩, hE⟩ := Hst.out.push (u := (treeA G z, A', c')) HBt.out HB1.out HU.out r2 r1 r3 r4
            have HE := Lib.hid hE
            obtain ⟨W5, hW5⟩ : ∃ W5, w'.setCell ⟨X1.heap.size, 3, none⟩ (.slice A2 m2 c2) = W5 := ⟨_, rfl⟩
            rw [hW5] at HE
            have hwb : ∀ b, b < wr.drew.heap.size → Value.ownBlock (.slice Ak L.length ck) ≠ some b → w'.heap[b]? = wr.drew.heap[b]? := fun b hl hne => (r2.block b (by have := HB1.out.size; simp at *; omega) (fun e => hne e.symm)).trans ((Below.heap_alloc W1 _ b (by have := HB1.out.size; simp at *; omega)).trans (HB1.out.block b hl))
            have hwlt : w.heap.size < X.heap.size := by have := HBt.out; have := HwX.out; omega
            have hnow : Value.ownBlock (.slice Ak L.length ck) ≠ some w.heap.size := fun e => by have := (own_place Hst.out.own.own e).1; omega
            have hx0 := hwb w.heap.size (by have := Hst.out.keep.size; omega) hnow
            have y0 : w'.cell? ⟨w.heap.size, 0, none⟩ = some (.slice (some ⟨bn, on, none⟩) G.nodes.length nc) := (World.cell?_of_block hx0).trans v0
            have y1 : w'.cell? ⟨w.heap.size, 1, none⟩ = some (.slice RA G.roots.length rc) := (World.cell?_of_block hx0).trans v1
            have hx5 : W5.heap[w.heap.size]? = w'.heap[w.heap.size]? := by rw [← hW5]; exact Below.heap_setCell w' ⟨X1.heap.size, 3, none⟩ _ _ (by show w.heap.size ≠ X1.heap.size; have := HwX.out; omega)
            have HS5 : Hid (W5.cell? ⟨w.heap.size, 0, none⟩ = some (.slice (some ⟨bn, on, none⟩) G.nodes.length nc) ∧ W5.cell? ⟨w.heap.size, 1, none⟩ = some (.slice RA G.roots.length rc)) := ⟨(World.cell?_of_block hx5).trans y0, (World.cell?_of_block hx5).trans y1⟩
            clear hrow r1 r2 r3 r4 hE hwb hwlt hnow hx0 hx5 t0 t1
            refine wpAnyH_ready (rs := [6]) (by kernel_rfl) (by simp) (AllReadyH.cons rfl (fun K hK => ?_) .nil)
            refine step_appTRun rfl _ _ rfl (.slice Ak L.length ck) _ rfl rfl hrun ?_
            refine hK.out _ _ ⟨y0, y1⟩ (fun hHeld => ?_)
            clear hK
            refine wpAnyH_take (i := 7) (v := ?_) rfl (by kernel_rfl) (by kernel_rfl) (by kernel_rfl) (fun _ _ _ h => h) (Or.inl ⟨by rfl, ?_⟩) hHeld ?_; rotate_left; (intro W hSw; obtain ⟨_, _⟩ := hSw; go_simp; with_reducible rfl); try simp only [Act.put, List.getElem_toArray, List.getElem_cons_succ, List.getElem_cons_zero, List.setIfInBounds_toArray, List.set_cons_zero, List.set_cons_succ]
            clear hHeld
            refine wpAnyH_ready (rs := [8]) (by kernel_rfl) (by simp) (AllReadyH.cons rfl (fun K hK => ?_) .nil)
            have HK := Lib.hid hK
            clear hK
            go_simp
            try rw [hW5]
            refine HK.out.out _ _ HS5.out (fun _ => ?_)
            clear HK y0 y1 z1 z2 hW5 hrun
            refine wpAnyH_done (by kernel_rfl) ?_ _
            go_wp2_with fail
            have HLn : Hid ((L ++ [((treeA G z, A', c') : TrK)]).map (·.1) = ((kl.take (q + 1)).map Int.toNat).map (treeA G)) := by show _ = _; rw [HTk.out, List.map_append, hL.out]; rfl
            first
              | exact ⟨⟨q + 1, _, _, Hlq.out, by simp, HE, HLn⟩, hmz _ rfl⟩
              | exact ⟨⟨q + 1, _, _, Hlq.out, congrArg (Value.int .i64) (HWq.out.trans (by simp)), HE, HLn⟩, hmz _ HWq.out⟩
          · have HK := Lib.hid hK
            clear hK
            go_simp
            have hbn1 : Below W1.heap.size W1 (W1.alloc (.cells #[.int .i64 (treeA G z).kind, .string (treeA G z).tag, .string (treeA G z).text, .slice A' (treeA G z).kids.length c'] 52)) := (Below.refl _ W1).alloc (Nat.le_refl _) _
            obtain ⟨t0, t1, t2, _⟩ := HSt.out _ (Below.trans HB1.out (hbn1.mono HB1.out.size))
            refine HK.out.out _ _ ⟨t0, t1⟩ (fun _ => ?_)
            clear HK
            refine wpAnyH_ready (rs := [1]) (by kernel_rfl) (by simp) (AllReadyH.cons rfl (fun K hK => ?_) .nil)
            have HK := Lib.hid hK
            clear hK
            go_simp
            refine HK.out.out _ _ ⟨t0, t1⟩ (fun _ => ?_)
            clear HK
            clear s0 s1 s2 t2
            have hrow : (W1.alloc (.cells #[.int .i64 (treeA G z).kind, .string (treeA G z).tag, .string (treeA G z).text, .slice A' (treeA G z).kids.length c'] 52)).ownsRow X.heap.size 52 4 (.slice Ak L.length ck) L.length (trows L) := ((Hst.out.own.keep HB1.out.size fun b _ hl => HB1.out.block b hl).own).alloc _
            obtain ⟨v', w', hrun, r1, r2, r3, g, r4⟩ := run_appT _ (.slice Ak L.length ck) L (treeA G z, A', c') hrow W1.heap.size (heap_alloc_new W1 _) (by have := hll.out; omega) (by have := HB1.out.size; have := Hst.out.keep.size; simp; omega)
            obtain ⟨A2, m2, c2, hv2⟩ : ∃ A m c, v' = .slice A m c := by rcases r1.2 with ⟨e0, _⟩ | ⟨g, cap, cur, e0, _⟩ <;> exact ⟨_, _, _, e0⟩
            subst hv2
            obtain ⟨⟨z1, z2⟩, hE⟩ := Hst.out.push (u := (treeA G z, A', c')) HBt.out HB1.out HU.out r2 r1 r3 r4
            have HE := Lib.hid hE
            obtain ⟨W5, hW5⟩ : ∃ W5, w'.setCell ⟨X1.heap.size, 3, none⟩ (.slice A2 m2 c2) = W5 := ⟨_, rfl⟩
            rw [hW5] at HE
            have hwb : ∀ b, b < wr.drew.heap.size → Value.ownBlock (.slice Ak L.length ck) ≠ some b → w'.heap[b]? = wr.drew.heap[b]? := fun b hl hne => (r2.block b (by have := HB1.out.size; simp at *; omega) (fun e => hne e.symm)).trans ((Below.heap_alloc W1 _ b (by have := HB1.out.size; simp at *; omega)).trans (HB1.out.block b hl))
            have hwlt : w.heap.size < X.heap.size := by have := HBt.out; have := HwX.out; omega
            have hnow : Value.ownBlock (.slice Ak L.length ck) ≠ some w.heap.size := fun e => by have := (own_place Hst.out.own.own e).1; omega
            have hx0 := hwb w.heap.size (by have := Hst.out.keep.size; omega) hnow
            have y0 : w'.cell? ⟨w.heap.size, 0, none⟩ = some (.slice (some ⟨bn, on, none⟩) G.nodes.length nc) := (World.cell?_of_block hx0).trans v0
            have y1 : w'.cell? ⟨w.heap.size, 1, none⟩ = some (.slice RA G.roots.length rc) := (World.cell?_of_block hx0).trans v1
            have hx5 : W5.heap[w.heap.size]? = w'.heap[w.heap.size]? := by rw [← hW5]; exact Below.heap_setCell w' ⟨X1.heap.size, 3, none⟩ _ _ (by show w.heap.size ≠ X1.heap.size; have := HwX.out; omega)
            have HS5 : Hid (W5.cell? ⟨w.heap.size, 0, none⟩ = some (.slice (some ⟨bn, on, none⟩) G.nodes.length nc) ∧ W5.cell? ⟨w.heap.size, 1, none⟩ = some (.slice RA G.roots.length rc)) := ⟨(World.cell?_of_block hx5).trans y0, (World.cell?_of_block hx5).trans y1⟩
            clear hrow r1 r2 r3 r4 hE hwb hwlt hnow hx0 hx5 t0 t1
            refine wpAnyH_ready (rs := [6]) (by kernel_rfl) (by simp) (AllReadyH.cons rfl (fun K hK => ?_) .nil)
            refine step_appTRun rfl _ _ rfl (.slice Ak L.length ck) _ rfl rfl hrun ?_
            refine hK.out _ _ ⟨y0, y1⟩ (fun hHeld => ?_)
            clear hK
            refine wpAnyH_take (i := 7) (v := ?_) rfl (by kernel_rfl) (by kernel_rfl) (by kernel_rfl) (fun _ _ _ h => h) (Or.inl ⟨by rfl, ?_⟩) hHeld ?_; rotate_left; (intro W hSw; obtain ⟨_, _⟩ := hSw; go_simp; with_reducible rfl); try simp only [Act.put, List.getElem_toArray, List.getElem_cons_succ, List.getElem_cons_zero, List.setIfInBounds_toArray, List.set_cons_zero, List.set_cons_succ]
            clear hHeld
            refine wpAnyH_ready (rs := [8]) (by kernel_rfl) (by simp) (AllReadyH.cons rfl (fun K hK => ?_) .nil)
            have HK := Lib.hid hK
            clear hK
            go_simp
            try rw [hW5]
            refine HK.out.out _ _ HS5.out (fun _ => ?_)
            clear HK y0 y1 z1 z2 hW5 hrun
            refine wpAnyH_done (by kernel_rfl) ?_ _
            go_wp2_with fail
            have HLn : Hid ((L ++ [((treeA G z, A', c') : TrK)]).map (·.1) = ((kl.take (q + 1)).map Int.toNat).map (treeA G)) := by show _ = _; rw [HTk.out, List.map_append, hL.out]; rfl
            first
              | exact ⟨⟨q + 1, _, _, Hlq.out, by simp, HE, HLn⟩, hmz _ rfl⟩
              | exact ⟨⟨q + 1, _, _, Hlq.out, congrArg (Value.int .i64) (HWq.out.trans (by simp)), HE, HLn⟩, hmz _ HWq.out⟩
      · obtain rfl : q = kl.length := by omega
        have hd : ¬ (kl.length : Int) < (kl.length : Int) := by omega
        have hLL : L.map (·.1) = (kidN G x).map (treeA G) := by
          have h1 := hL.out
          rw [List.take_length] at h1
          rw [h1, HKN.out]
        have hRw := HW.out wr hst.out.keep
        obtain ⟨_, _, _, hrr, hwr, _⟩ := HRf.out wr hRw
        obtain ⟨Ak, ck, hkv, hlc⟩ := hst.out.own.shape
        subst hkv
        have b0 := Lib.cell_of_heap hst.out.out 0
        have b1 := Lib.cell_of_heap hst.out.out 1
        have b2 := Lib.cell_of_heap hst.out.out 2
        have b3 := Lib.cell_of_heap hst.out.out 3
        have c0 := Lib.cell_of_heap hrr 0
        have c1 := Lib.cell_of_heap hrr 1
        have c2 := Lib.cell_of_heap hrr 2
        have c3 := Lib.cell_of_heap hrr 3
        have f0 := Go.Joins.unfrozen_of_block hrr 0
        have f1 := Go.Joins.unfrozen_of_block hrr 1
        have f2 := Go.Joins.unfrozen_of_block hrr 2
        have f3 := Go.Joins.unfrozen_of_block hrr 3
        obtain ⟨W9, hW9⟩ : ∃ W9, (((wr.setCell ⟨w.heap.size + 1, 0, none⟩ (.int .i64 e.kind)).setCell ⟨w.heap.size + 1, 1, none⟩ (.string e.tag)).setCell ⟨w.heap.size + 1, 2, none⟩ (.string e.text)).setCell ⟨w.heap.size + 1, 3, none⟩ (.slice Ak L.length ck) = W9 := ⟨_, rfl⟩
        have hw9 := Go.Joins.block_setCell (i := 3) (Go.Joins.block_setCell (i := 2) (Go.Joins.block_setCell (i := 1) (Go.Joins.block_setCell (i := 0) hrr (.int .i64 e.kind)) (.string e.tag)) (.string e.text)) (.slice Ak L.length ck)
        rw [hW9] at hw9
        have hb9 : ∀ b, b ≠ w.heap.size + 1 → W9.heap[b]? = wr.heap[b]? := fun b hb => by
          rw [← hW9]
          exact (Below.heap_setCell _ ⟨w.heap.size + 1, 3, none⟩ _ b hb).trans ((Below.heap_setCell _ ⟨w.heap.size + 1, 2, none⟩ _ b hb).trans ((Below.heap_setCell _ ⟨w.heap.size + 1, 1, none⟩ _ b hb).trans (Below.heap_setCell wr ⟨w.heap.size + 1, 0, none⟩ _ b hb)))
        have hs9 : W9.heap.size = wr.heap.size := by rw [← hW9]; simp
        have ho9 : W9.os = wr.os ∧ W9.tape = wr.tape ∧ W9.output = wr.output := by rw [← hW9]; exact ⟨rfl, rfl, rfl⟩
        have HB9 : Hid (Below w.heap.size w W9) := ⟨ho9.1.trans hwr.os, ho9.2.1.trans hwr.tape, ho9.2.2.trans hwr.output, by rw [hs9]; exact hwr.size, fun b hb => (hb9 b (by omega)).trans (hwr.block b hb)⟩
        obtain ⟨l1, l2, l3⟩ := HXl.out
        have hkl2 : L.length = ((kidN G x).map (treeA G)).length := by rw [← hLL, List.length_map]
        have HV9 : Hid (TrV W9 (hi w.heap.size W9) (treeA G x) (.agg #[.int .i64 e.kind, .string e.tag, .string e.text, .slice Ak L.length ck])) := by
          show TrV _ _ _ _
          rw [HTe.out]
          refine ⟨Ak, ck, by simp only [Tr.kind, Tr.tag, Tr.text, Tr.kids, ← hkl2], by simp only [Tr.kids, ← hkl2]; exact hlc, ?_⟩
          have h1 := hst.out.own.at
          rw [hLL] at h1
          exact h1.keep (fun b hb => hb9 b (by have := hb.1; omega)) fun b hb => ⟨by have := hb.1; omega, by rw [hs9]; exact hb.2⟩
        clear hLL hRw hrr hwr hlc hst hL hb9 hs9 ho9 l1 l2 l3 hkl2 hq hlq
        go_wp2_with fail
        refine bodyPost_ret (results_cell_row rfl _ _ (w.heap.size + 1) _ _ (0, 0) _ rfl hw9 Tryd.underlying52 rfl (by kernel_rfl)) rfl ?_
        exact ⟨_, rfl, HV9.out, HB9.out⟩
end Go.Proofs.YtdcbngimgpdjoaaDoor
