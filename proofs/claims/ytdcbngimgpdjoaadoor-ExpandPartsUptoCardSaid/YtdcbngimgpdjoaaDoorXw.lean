/- The reference's tree (marginaliaref17): what a node unfolds to. Conditions: the graph is right; no way from the node goes on for ever; no more than a million nodes. -/
import Derived.Test.YtdcbngimgpdjoaaDoorXh
namespace Go.Proofs.YtdcbngimgpdjoaaDoor
open Go.RowKit Go.Shelf Go.Deep
attribute [local go_sem] Oper.semAt_some
set_option maxRecDepth 100000 in
set_option maxHeartbeats 8000000 in
theorem Rtree_any (G : Gr) (hR : RightG G) (NA RA : Option Addr) (nc rc : Nat) (B0 : Nat) (w0 : World) (hB : B0 ≤ w0.heap.size) (hG : NdsAt w0 B0 NA G.nodes) (x : Nat) (hacc : Acc (edge (kidN G)) x) : x < G.nodes.length → (treeA G x).count ≤ 1000000 → ∀ w, Below B0 w0 w →
    Calls Tryd.prog 64 #[.agg #[.slice NA G.nodes.length nc, .slice RA G.roots.length rc], .int .i64 (x : Int)] w fun e w' => ∃ v, e = .returned v ∧ TrV w' (hi w.heap.size w') (treeA G x) v ∧ Below w.heap.size w w' := by
  induction hacc with
  | intro x hx ih =>
    intro hlt hcnt w hw
    have ha : Acc (edge (kidN G)) x := ⟨_, hx⟩
    have HI : Hid (∀ y ∈ kidN G x, ∀ W, Below B0 w0 W → Calls Tryd.prog 64 #[.agg #[.slice NA G.nodes.length nc, .slice RA G.roots.length rc], .int .i64 (y : Int)] W fun e w' => ∃ v, e = .returned v ∧ TrV w' (hi W.heap.size w') (treeA G y) v ∧ Below W.heap.size W w') := fun y hy W hW => by
      have h1 : (treeA G y).count < (treeA G x).count := Tr.count_kid (by rw [treeA_eq ha]; exact List.mem_map.2 ⟨y, hy, rfl⟩)
      exact ih y hy (hR.lt hlt y hy) (by omega) W hW
    have HT := Lib.hid (treeA_eq ha)
    have hnn := hR.nodes
    obtain ⟨bn, on, rfl, hbn, hcn⟩ := hG (by omega)
    obtain ⟨K, kc, hnd⟩ := hcn x hlt
    obtain ⟨e, he⟩ : ∃ e, nd G.nodes x = e := ⟨_, rfl⟩
    rw [he] at hnd
    obtain ⟨kl, hkl⟩ : ∃ l, e.kids = l := ⟨_, rfl⟩
    have HKN : Hid (kidN G x = kl.map Int.toNat) := by show _ = _; rw [kidN, he, hkl]
    have HKr : Hid (∀ z ∈ kl, 0 ≤ z ∧ z < G.nodes.length) := by rw [← hkl, ← he]; exact hR.kids x hlt
    have HKl : Hid (kl.length ≤ 20000) := by
      have h1 := restK_all (kids := kidN G) [x] [] (by simp) (by simpa using hlt)
      rw [restK_sum G _ (Nat.le_refl _), List.take_length] at h1
      have := hR.sum
      simp [kidN, he, hkl] at h1
      show _ ≤ _; omega
    have HTe : Hid (treeA G x = .mk e.kind e.tag e.text ((kidN G x).map (treeA G))) := by show _ = _; rw [HT.out, he]
    have hndw := hnd.below hw (Nat.le_refl _) hbn
    have hB0 := Nat.le_trans hB hw.size
    obtain ⟨V, hV, hbV, hrV, hsV⟩ : ∃ V, w.alloc (.cells #[.slice (some ⟨bn, on, none⟩) G.nodes.length nc, .slice RA G.roots.length rc] 25) = V ∧ Below w.heap.size w V ∧ V.heap[w.heap.size]? = some (.cells #[.slice (some ⟨bn, on, none⟩) G.nodes.length nc, .slice RA G.roots.length rc] 25 (0, 0)) ∧ V.heap.size = w.heap.size + 1 :=
      ⟨_, rfl, (Below.refl _ w).alloc (Nat.le_refl _) _, heap_alloc_new w _, by simp⟩
    obtain ⟨R, hRe, hbR, hrR, hsR⟩ : ∃ R, V.alloc (.cells #[.int .i64 0, .string ⟨#[]⟩, .string ⟨#[]⟩, .slice none 0 0] 52) = R ∧ Below V.heap.size V R ∧ R.heap[V.heap.size]? = some (.cells #[.int .i64 0, .string ⟨#[]⟩, .string ⟨#[]⟩, .slice none 0 0] 52 (0, 0)) ∧ R.heap.size = V.heap.size + 1 :=
      ⟨_, rfl, (Below.refl _ V).alloc (Nat.le_refl _) _, heap_alloc_new V _, by simp⟩
    have hwR := below_then hbV hbR
    have hrV2 := (hbR.block w.heap.size (by omega)).trans hrV
    rw [hsV] at hrR
    have HRf : Hid (∀ W, Below R.heap.size R W → W.cell? ⟨w.heap.size, 0, none⟩ = some (.slice (some ⟨bn, on, none⟩) G.nodes.length nc) ∧ W.cell? ⟨w.heap.size, 1, none⟩ = some (.slice RA G.roots.length rc) ∧ NdAt W B0 bn (on + x * 5) e K kc ∧ W.heap[w.heap.size + 1]? = some (.cells #[.int .i64 0, .string ⟨#[]⟩, .string ⟨#[]⟩, .slice none 0 0] 52 (0, 0)) ∧ Below w.heap.size w W ∧ Below B0 w0 W) := fun W hW => by
      have h1 := (hW.block _ (by omega)).trans hrV2
      have h2 := below_then hwR hW
      exact ⟨Lib.cell_of_heap h1 0, Lib.cell_of_heap h1 1, hndw.below (h2.mono hB0) (Nat.le_refl _) hbn, (hW.block _ (by omega)).trans hrR, h2, hw.trans (h2.mono hB0)⟩
    obtain ⟨v0, v1, hndR, hrr, _, _⟩ := HRf.out R (Below.refl _ _)
    have d0 := hndR.c0
    have d1 := hndR.c1
    have d2 := hndR.c2
    have d3 := hndR.c3
    have d4 := hndR.c4
    have hxI : (x : Int) < (G.nodes.length : Int) := by omega
    have hx0 : (0 : Int) ≤ (x : Int) := Int.natCast_nonneg x
    rw [hkl] at d3
    have HsR : Hid (R.heap.size = w.heap.size + 2) := by show _ = _; omega
    clear ih hx ha hndR hrr hnd hndw hbV hrV hbR hrV2 hrR hwR hcn hbn he
    go_enter Tryd.func64, Tryd.ntmps64
    go_wp2_with fail
    obtain ⟨X1, hX1, hbX1, hrX1, hsX1⟩ : ∃ X1, R.alloc (.cells #[.int .i64 e.kind, .string e.tag, .string e.text, .slice K kl.length kc, .bool e.plain] 33) = X1 ∧ Below R.heap.size R X1 ∧ X1.heap[R.heap.size]? = some (.cells #[.int .i64 e.kind, .string e.tag, .string e.text, .slice K kl.length kc, .bool e.plain] 33 (0, 0)) ∧ X1.heap.size = R.heap.size + 1 :=
      ⟨_, rfl, (Below.refl _ R).alloc (Nat.le_refl _) _, heap_alloc_new R _, by simp⟩
    obtain ⟨X, hX, hbX, hrX, hsX⟩ : ∃ X, X1.alloc (.cells #[.int .i64 e.kind, .string e.tag, .string e.text, .slice none 0 0] 52) = X ∧ Below X1.heap.size X1 X ∧ X.heap[X1.heap.size]? = some (.cells #[.int .i64 e.kind, .string e.tag, .string e.text, .slice none 0 0] 52 (0, 0)) ∧ X.heap.size = X1.heap.size + 1 :=
      ⟨_, rfl, (Below.refl _ X1).alloc (Nat.le_refl _) _, heap_alloc_new X1 _, by simp⟩
    rw [hX1, hX]
    have hBt : w.heap.size + 1 + 1 + 1 = X1.heap.size := by have := HsR.out; omega
    have hRX := below_then hbX1 hbX
    have HXl : Hid (X.heap.size = w.heap.size + 4 ∧ X1.heap.size = w.heap.size + 3 ∧ R.heap.size = w.heap.size + 2) := by have := HsR.out; exact ⟨by omega, by omega, this⟩
    have HRX := Lib.hid hRX
    have HS0 : Hid (TkSt X X1.heap.size e (.slice none 0 0) [] X) := ⟨⟨rfl, rfl, rfl, Nat.le_refl _, fun _ _ _ => rfl⟩, hrX, .empty _ _⟩
    have HW : Hid (∀ W, KpT X W X1.heap.size → Below R.heap.size R W) := fun W hW => by
      obtain ⟨l1, l2, l3⟩ := HXl.out
      exact ⟨hW.os.trans hRX.os, hW.tape.trans hRX.tape, hW.output.trans hRX.output, by have := hW.size; omega, fun b hb => (hW.block b (by omega) (by omega)).trans (hRX.block b hb)⟩
    have HXk : Hid (∀ W, KpT X W X1.heap.size → W.cell? ⟨w.heap.size + 1 + 1, 3, none⟩ = some (.slice K kl.length kc)) := fun W hW => by
      obtain ⟨l1, l2, l3⟩ := HXl.out
      have h1 := (hW.block R.heap.size (by omega) (by omega)).trans ((hbX.block R.heap.size (by omega)).trans hrX1)
      rw [show R.heap.size = w.heap.size + 1 + 1 by omega] at h1
      exact Lib.cell_of_heap h1 3
    clear hX hX1 hbX1 hrX1 hsX1 hbX hrX hsX hRX v0 v1 d0 d1 d2 d3 d4
    rw [hBt]
    clear hBt hV hRe hsV hsR
    go_loopw [7] (fun j wr => ∃ (q : Nat) (kv : Value) (L : List TrK), q ≤ kl.length ∧ j = .int .i64 (q : Int) ∧ Hid (TkSt X X1.heap.size e kv L wr) ∧ Hid (L.map (·.1) = ((kl.take q).map Int.toNat).map (treeA G))) (fun j _ => kl.length - (intOf j).toNat)
    case atStart => exact ⟨0, _, [], Nat.zero_le _, rfl, HS0, rfl⟩
    case round =>
      obtain ⟨q, kv, L, hq, rfl, hst, hL⟩ := hrel
      have hxk := HXk.out wr hst.out.keep
      by_cases hlq : q < kl.length
      · have hRw := HW.out wr hst.out.keep
        obtain ⟨v0, v1, hndr, _, hwr, hw0r⟩ := HRf.out wr hRw
        have hke := hndr.kids
        rw [hkl] at hke
        obtain ⟨bK, oK, rfl, hbK, hcK⟩ := hke (by omega)
        obtain ⟨z, hz⟩ : ∃ z : Nat, kl[q] = (z : Int) := ⟨kl[q].toNat, by have := (HKr.out _ (List.getElem_mem hlq)).1; omega⟩
        have hcq := hcK q hlq
        rw [nth_eq hlq, hz] at hcq
        have hzm : z ∈ kidN G x := by rw [HKN.out]; exact List.mem_map.2 ⟨_, List.getElem_mem hlq, by rw [hz]; simp⟩
        have htk : ((kl.take (q + 1)).map Int.toNat).map (treeA G) = ((kl.take q).map Int.toNat).map (treeA G) ++ [treeA G z] := by
          rw [List.take_succ_eq_append_getElem hlq, List.map_append, List.map_append, hz]; simp
        have HTk := Lib.hid htk
        have HCl := Lib.hid (HI.out z hzm wr.drew (Below.drew hw0r))
        obtain ⟨Ak, ck, hkv, _⟩ := hst.out.own.shape
        subst hkv
        have b3 := Lib.cell_of_heap hst.out.out 3
        have Hst : Hid (TkSt X X1.heap.size e (.slice Ak L.length ck) L wr.drew) := hst.out.drew
        have hBt : X1.heap.size < X.heap.size := by obtain ⟨l1, l2, l3⟩ := HXl.out; omega
        have HBt := Lib.hid hBt
        have hll : Hid (L.length ≤ 20000) := by
          have h1 := congrArg List.length hL.out
          simp at h1
          have := HKl.out
          show _ ≤ _; omega
        have HwX : Hid (w.heap.size + 3 = X1.heap.size) := by obtain ⟨l1, l2, l3⟩ := HXl.out; show _ = _; omega
        have hbKw : Hid (bK < w.heap.size) := by show _ < _; omega
        have HSt : Hid (∀ W1, Below wr.drew.heap.size wr.drew W1 → W1.cell? ⟨w.heap.size, 0, none⟩ = some (.slice (some ⟨bn, on, none⟩) G.nodes.length nc) ∧ W1.cell? ⟨w.heap.size, 1, none⟩ = some (.slice RA G.roots.length rc) ∧ W1.cell? ⟨X1.heap.size, 3, none⟩ = some (.slice Ak L.length ck) ∧ W1.cell? ⟨w.heap.size + 1 + 1, 3, none⟩ = some (.slice (some ⟨bK, oK, none⟩) kl.length kc) ∧ W1.cell? ⟨bK, oK + q, none⟩ = some (.int .i64 (z : Int))) := fun W1 hW1 => by
          have key : ∀ (p : Addr) u, wr.cell? p = some u → W1.cell? p = some u := fun p u hu => (hW1.cell (p := p) (World.block_lt_of_cell? wr p hu)).trans hu
          exact ⟨key _ _ v0, key _ _ v1, key _ _ b3, key _ _ hxk, key _ _ hcq⟩
        have hlqI : (q : Int) < (kl.length : Int) := by omega
        have hq0 : (0 : Int) ≤ (q : Int) := Int.natCast_nonneg q
        have Hlq := Lib.hid hlq
        have hmz : ∀ y : Int, y = q + 1 → kl.length - (intOf (.int .i64 y)).toNat < kl.length - (intOf (.int .i64 (q : Int))).toNat := by intro y hy; subst hy; have := Hlq.out; simp only [intOf]; omega
        have HWq : Hid (wrap64 ((q : Int) + 1) = q + 1) := by
          show _ = _
          refine IntWalk.wrap64_in _ ?_
          have := Hlq.out
          have := HKl.out
          omega
        clear hRw hndr hwr hw0r hke hbK hcK hz hzm htk hst hBt hq hlq
        go_wp2_with fail
        refine wp_region_held_drew (S := fun W => W.cell? ⟨w.heap.size, 0, none⟩ = some (.slice (some ⟨bn, on, none⟩) G.nodes.length nc) ∧ W.cell? ⟨w.heap.size, 1, none⟩ = some (.slice RA G.roots.length rc) ∧ W.cell? ⟨w.heap.size + 1 + 1, 3, none⟩ = some (.slice (some ⟨bK, oK, none⟩) kl.length kc) ∧ W.cell? ⟨bK, oK + q, none⟩ = some (.int .i64 (z : Int))) (by kernel_rfl) ⟨v0, v1, hxk, hcq⟩ (fun hHeld => ?_)
        refine wpAnyH_take (i := 0) (v := ?_) rfl (by kernel_rfl) (by kernel_rfl) (by kernel_rfl) (fun _ _ _ h => h) (Or.inl ⟨by rfl, ?_⟩) hHeld ?_; rotate_left; (intro W hSw; obtain ⟨_, _, _, _⟩ := hSw; go_simp; with_reducible rfl); try simp only [Act.put, List.getElem_toArray, List.getElem_cons_zero, List.setIfInBounds_toArray, List.set_cons_zero, List.set_cons_succ]
        refine wpAnyH_take (i := 2) (v := ?_) rfl (by kernel_rfl) (by kernel_rfl) (by kernel_rfl) (fun _ _ _ h => h) (Or.inl ⟨by rfl, ?_⟩) hHeld ?_; rotate_left; (intro W hSw; obtain ⟨_, _, _, _⟩ := hSw; go_simp; with_reducible rfl); try simp only [Act.put, List.getElem_toArray, List.getElem_cons_succ, List.getElem_cons_zero, List.setIfInBounds_toArray, List.set_cons_zero, List.set_cons_succ]
        refine wpAnyH_take (i := 3) (v := ?_) rfl (by kernel_rfl) (by kernel_rfl) (by kernel_rfl) (fun _ _ _ h => h) (Or.inl ⟨by rfl, ?_⟩) hHeld ?_; rotate_left; (intro W hSw; obtain ⟨_, _, _, _⟩ := hSw; go_simp; with_reducible rfl); try simp only [Act.put, List.getElem_toArray, List.getElem_cons_succ, List.getElem_cons_zero, List.setIfInBounds_toArray, List.set_cons_zero, List.set_cons_succ]
        refine wpAnyH_take (i := 4) (v := ?_) rfl (by kernel_rfl) (by kernel_rfl) (by kernel_rfl) (fun _ _ _ h => h) (Or.inl ⟨by rfl, ?_⟩) hHeld ?_; rotate_left; (intro W hSw; obtain ⟨_, _, _, _⟩ := hSw; go_simp; with_reducible rfl); try simp only [Act.put, List.getElem_toArray, List.getElem_cons_succ, List.getElem_cons_zero, List.setIfInBounds_toArray, List.set_cons_zero, List.set_cons_succ]
        refine wpAnyH_take (i := 5) (v := ?_) rfl (by kernel_rfl) (by kernel_rfl) (by kernel_rfl) (fun _ _ _ h => h) (Or.inl ⟨by rfl, ?_⟩) hHeld ?_; rotate_left; (intro W hSw; obtain ⟨_, _, _, _⟩ := hSw; go_simp; with_reducible rfl); try simp only [Act.put, List.getElem_toArray, List.getElem_cons_succ, List.getElem_cons_zero, List.setIfInBounds_toArray, List.set_cons_zero, List.set_cons_succ]
        refine wpAnyH_take (i := 6) (v := ?_) rfl (by kernel_rfl) (by kernel_rfl) (by kernel_rfl) (fun _ _ _ h => h) (Or.inl ⟨by rfl, ?_⟩) hHeld ?_; rotate_left; (intro W hSw; obtain ⟨_, _, _, _⟩ := hSw; go_simp; with_reducible rfl); try simp only [Act.put, List.getElem_toArray, List.getElem_cons_succ, List.getElem_cons_zero, List.setIfInBounds_toArray, List.set_cons_zero, List.set_cons_succ]
        refine wpAnyH_take (i := 7) (v := ?_) rfl (by kernel_rfl) (by kernel_rfl) (by kernel_rfl) (fun _ _ _ h => h) (Or.inl ⟨by rfl, ?_⟩) hHeld ?_; rotate_left; (intro W hSw; obtain ⟨_, _, _, _⟩ := hSw; go_simp; with_reducible rfl); try simp only [Act.put, List.getElem_toArray, List.getElem_cons_succ, List.getElem_cons_zero, List.setIfInBounds_toArray, List.set_cons_zero, List.set_cons_succ]
        clear hHeld
        refine wpAnyH_ready (rs := [1, 8]) (by kernel_rfl) (by simp) (AllReadyH.cons rfl (fun K hK => ?_) (AllReadyH.cons rfl (fun K hK => ?_) .nil))
        · have HK := Lib.hid hK
          clear hK
          go_simp
          refine HK.out.out _ _ ⟨v0, v1, hxk, hcq⟩ (fun _ => ?_)
          clear HK
          refine wpAnyH_ready (rs := [8]) (by kernel_rfl) (by simp) (AllReadyH.cons rfl (fun K hK => ?_) .nil)
          have HK := Lib.hid hK
          clear hK
          go_simp
          go_at_call 64
          refine HCl.out.mono ?_
          rintro e1 W1 ⟨v, rfl, ⟨A', c', rfl, hlc, hkd⟩, hb1⟩
          have HB1 := Lib.hid hb1
          have HU := Lib.hid (⟨hlc, hkd⟩ : (treeA G z).kids.length ≤ c' ∧ KidsAt W1 (hi wr.drew.heap.size W1) A' (treeA G z).kids)
          obtain ⟨s0, s1, s2, s3, s4⟩ := HSt.out W1 hb1
          clear hlc hkd hb1
          try go_simp
          refine HK.out.out _ _ ⟨s0, s1, s3, s4⟩ (fun _ => ?_)
          clear HK
          refine wpAnyH_ready (rs := [9]) (by kernel_rfl) (by simp) (AllReadyH.cons rfl (fun K hK => ?_) .nil)
          have HK := Lib.hid hK
          clear hK
          go_simp
          have hbn1 : Below W1.heap.size W1 (W1.alloc (.cells #[.int .i64 (treeA G z).kind, .string (treeA G z).tag, .string (treeA G z).text, .slice A' (treeA G z).kids.length c'] 52)) := (Below.refl _ W1).alloc (Nat.le_refl _) _
          obtain ⟨t0, t1, t2, t3, t4⟩ := HSt.out _ (Below.trans HB1.out (hbn1.mono HB1.out.size))
          refine HK.out.out _ _ ⟨t0, t1, t3, t4⟩ (fun _ => ?_)
          clear HK
          clear s0 s1 s2 s3 s4 t2
          have hrow : (W1.alloc (.cells #[.int .i64 (treeA G z).kind, .string (treeA G z).tag, .string (treeA G z).text, .slice A' (treeA G z).kids.length c'] 52)).ownsRow X.heap.size 52 4 (.slice Ak L.length ck) L.length (trows L) := ((Hst.out.own.keep HB1.out.size fun b _ hl => HB1.out.block b hl).own).alloc _
          obtain ⟨v', w', hrun, r1, r2, r3, g, r4⟩ := run_appT _ (.slice Ak L.length ck) L (treeA G z, A', c') hrow W1.heap.size (heap_alloc_new W1 _) (by have := hll.out; omega) (by have := HB1.out.size; have := Hst.out.keep.size; simp; omega)
          obtain ⟨A2, m2, c2, hv2⟩ : ∃ A m c, v' = .slice A m c := by rcases r1.2 with ⟨e0, _⟩ | ⟨g, cap, cur, e0, _⟩ <;> exact ⟨_, _, _, e0⟩
          subst hv2
          obtain ⟨⟨z1, z2⟩, hE⟩ := Hst.out.push (u := (treeA G z, A', c')) HBt.out HB1.out HU.out r2 r1 r3 r4
          have HE := Lib.hid hE
          obtain ⟨W5, hW5⟩ : ∃ W5, w'.setCell ⟨X1.heap.size, 3, none⟩ (.slice A2 m2 c2) = W5 := ⟨_, rfl⟩
          rw [hW5] at HE
          have hwb : ∀ b, b < wr.drew.heap.size → Value.ownBlock (.slice Ak L.length ck) ≠ some b → w'.heap[b]? = wr.drew.heap[b]? := fun b hl hne => (r2.block b (by have := HB1.out.size; simp at *; omega) (fun e => hne e.symm)).trans ((Below.heap_alloc W1 _ b (by have := HB1.out.size; simp at *; omega)).trans (HB1.out.block b hl))
          have hwlt : w.heap.size + 3 < X.heap.size := by have := HBt.out; have := HwX.out; omega
          have hnow : ∀ c, c < X.heap.size → Value.ownBlock (.slice Ak L.length ck) ≠ some c := fun c hc e => by have := (own_place Hst.out.own.own e).1; omega
          have hxs := Hst.out.keep.size
          have hbk := hbKw.out
          have hx0 : ∀ c, c < w.heap.size + 3 → w'.heap[c]? = wr.drew.heap[c]? := fun c hc => hwb c (by omega) (hnow c (by omega))
          have y0 : w'.cell? ⟨w.heap.size, 0, none⟩ = some (.slice (some ⟨bn, on, none⟩) G.nodes.length nc) := (World.cell?_of_block (hx0 w.heap.size (by omega))).trans v0
          have y1 : w'.cell? ⟨w.heap.size, 1, none⟩ = some (.slice RA G.roots.length rc) := (World.cell?_of_block (hx0 w.heap.size (by omega))).trans v1
          have y2 : w'.cell? ⟨w.heap.size + 1 + 1, 3, none⟩ = some (.slice (some ⟨bK, oK, none⟩) kl.length kc) := (World.cell?_of_block (hx0 (w.heap.size + 1 + 1) (by omega))).trans hxk
          have y3 : w'.cell? ⟨bK, oK + q, none⟩ = some (.int .i64 (z : Int)) := (World.cell?_of_block (hx0 bK (by omega))).trans hcq
          have hx5 : ∀ c, c < w.heap.size + 3 → W5.heap[c]? = w'.heap[c]? := fun c hc => by rw [← hW5]; exact Below.heap_setCell w' ⟨X1.heap.size, 3, none⟩ _ c (by show c ≠ X1.heap.size; have := HwX.out; omega)
          have HS5 : Hid (W5.cell? ⟨w.heap.size, 0, none⟩ = some (.slice (some ⟨bn, on, none⟩) G.nodes.length nc) ∧ W5.cell? ⟨w.heap.size, 1, none⟩ = some (.slice RA G.roots.length rc) ∧ W5.cell? ⟨w.heap.size + 1 + 1, 3, none⟩ = some (.slice (some ⟨bK, oK, none⟩) kl.length kc) ∧ W5.cell? ⟨bK, oK + q, none⟩ = some (.int .i64 (z : Int))) := ⟨(World.cell?_of_block (hx5 w.heap.size (by omega))).trans y0, (World.cell?_of_block (hx5 w.heap.size (by omega))).trans y1, (World.cell?_of_block (hx5 (w.heap.size + 1 + 1) (by omega))).trans y2, (World.cell?_of_block (hx5 bK (by omega))).trans y3⟩
          clear hrow r1 r2 r3 r4 hE hwb hwlt hnow hxs hbk hx0 hx5 t0 t1 t3 t4
          refine wpAnyH_ready (rs := [10]) (by kernel_rfl) (by simp) (AllReadyH.cons rfl (fun K hK => ?_) .nil)
          refine step_appTRun rfl _ _ rfl (.slice Ak L.length ck) _ rfl rfl hrun ?_
          refine hK.out _ _ ⟨y0, y1, y2, y3⟩ (fun hHeld => ?_)
          clear hK
          refine wpAnyH_take (i := 11) (v := ?_) rfl (by kernel_rfl) (by kernel_rfl) (by kernel_rfl) (fun _ _ _ h => h) (Or.inl ⟨by rfl, ?_⟩) hHeld ?_; rotate_left; (intro W hSw; obtain ⟨_, _, _, _⟩ := hSw; go_simp; with_reducible rfl); try simp only [Act.put, List.getElem_toArray, List.getElem_cons_succ, List.getElem_cons_zero, List.setIfInBounds_toArray, List.set_cons_zero, List.set_cons_succ]
          clear hHeld
          refine wpAnyH_ready (rs := [12]) (by kernel_rfl) (by simp) (AllReadyH.cons rfl (fun K hK => ?_) .nil)
          have HK := Lib.hid hK
          clear hK
          go_simp
          try rw [hW5]
          refine HK.out.out _ _ HS5.out (fun _ => ?_)
          clear HK y0 y1 y2 y3 z1 z2 hW5 hrun
          refine wpAnyH_done (by kernel_rfl) ?_ _
          go_wp2_with fail
          have HLn : Hid ((L ++ [((treeA G z, A', c') : TrK)]).map (·.1) = ((kl.take (q + 1)).map Int.toNat).map (treeA G)) := by show _ = _; rw [HTk.out, List.map_append, hL.out]; rfl
          first
            | exact ⟨⟨q + 1, _, _, Hlq.out, by simp, HE, HLn⟩, hmz _ rfl⟩
            | exact ⟨⟨q + 1, _, _, Hlq.out, congrArg (Value.int .i64) (HWq.out.trans (by simp)), HE, HLn⟩, hmz _ HWq.out⟩
        · have HK := Lib.hid hK
          clear hK
          go_simp
          go_at_call 64
          refine HCl.out.mono ?_
          rintro e1 W1 ⟨v, rfl, ⟨A', c', rfl, hlc, hkd⟩, hb1⟩
          have HB1 := Lib.hid hb1
          have HU := Lib.hid (⟨hlc, hkd⟩ : (treeA G z).kids.length ≤ c' ∧ KidsAt W1 (hi wr.drew.heap.size W1) A' (treeA G z).kids)
          obtain ⟨s0, s1, s2, s3, s4⟩ := HSt.out W1 hb1
          clear hlc hkd hb1
          try go_simp
          refine HK.out.out _ _ ⟨s0, s1, s3, s4⟩ (fun _ => ?_)
          clear HK
          refine wpAnyH_ready (rs := [1, 9]) (by kernel_rfl) (by simp) (AllReadyH.cons rfl (fun K hK => ?_) (AllReadyH.cons rfl (fun K hK => ?_) .nil))
          · have HK := Lib.hid hK
            clear hK
            go_simp
            refine HK.out.out _ _ ⟨s0, s1, s3, s4⟩ (fun _ => ?_)
            clear HK
            refine wpAnyH_ready (rs := [9]) (by kernel_rfl) (by simp) (AllReadyH.cons rfl (fun K hK => ?_) .nil)
            have HK := Lib.hid hK
            clear hK
            go_simp
            have hbn1 : Below W1.heap.size W1 (W1.alloc (.cells #[.int .i64 (treeA G z).kind, .string (treeA G z).tag, .string (treeA G z).text, .slice A' (treeA G z).kids.length c'] 52)) := (Below.refl _ W1).alloc (Nat.le_refl _) _
            obtain ⟨t0, t1, t2, t3, t4⟩ := HSt.out _ (Below.trans HB1.out (hbn1.mono HB1.out.size))
            refine HK.out.out _ _ ⟨t0, t1, t3, t4⟩ (fun _ => ?_)
            clear HK
            clear s0 s1 s2 s3 s4 t2
            have hrow : (W1.alloc (.cells #[.int .i64 (treeA G z).kind, .string (treeA G z).tag, .string (treeA G z).text, .slice A' (treeA G z).kids.length c'] 52)).ownsRow X.heap.size 52 4 (.slice Ak L.length ck) L.length (trows L) := ((Hst.out.own.keep HB1.out.size fun b _ hl => HB1.out.block b hl).own).alloc _
            obtain ⟨v', w', hrun, r1, r2, r3, g, r4⟩ := run_appT _ (.slice Ak L.length ck) L (treeA G z, A', c') hrow W1.heap.size (heap_alloc_new W1 _) (by have := hll.out; omega) (by have := HB1.out.size; have := Hst.out.keep.size; simp; omega)
            obtain ⟨A2, m2, c2, hv2⟩ : ∃ A m c, v' = .slice A m c := by rcases r1.2 with ⟨e0, _⟩ | ⟨g, cap, cur, e0, _⟩ <;> exact ⟨_, _, _, e0⟩
            subst hv2
            obtain ⟨⟨z1, z2⟩, hE⟩ := Hst.out.push (u := (treeA G z, A', c')) HBt.out HB1.out HU.out r2 r1 r3 r4
            have HE := Lib.hid hE
            obtain ⟨W5, hW5⟩ : ∃ W5, w'.setCell ⟨X1.heap.size, 3, none⟩ (.slice A2 m2 c2) = W5 := ⟨_, rfl⟩
            rw [hW5] at HE
            have hwb : ∀ b, b < wr.drew.heap.size → Value.ownBlock (.slice Ak L.length ck) ≠ some b → w'.heap[b]? = wr.drew.heap[b]? := fun b hl hne => (r2.block b (by have := HB1.out.size; simp at *; omega) (fun e => hne e.symm)).trans ((Below.heap_alloc W1 _ b (by have := HB1.out.size; simp at *; omega)).trans (HB1.out.block b hl))
            have hwlt : w.heap.size + 3 < X.heap.size := by have := HBt.out; have := HwX.out; omega
            have hnow : ∀ c, c < X.heap.size → Value.ownBlock (.slice Ak L.length ck) ≠ some c := fun c hc e => by have := (own_place Hst.out.own.own e).1; omega
            have hxs := Hst.out.keep.size
            have hbk := hbKw.out
            have hx0 : ∀ c, c < w.heap.size + 3 → w'.heap[c]? = wr.drew.heap[c]? := fun c hc => hwb c (by omega) (hnow c (by omega))
            have y0 : w'.cell? ⟨w.heap.size, 0, none⟩ = some (.slice (some ⟨bn, on, none⟩) G.nodes.length nc) := (World.cell?_of_block (hx0 w.heap.size (by omega))).trans v0
            have y1 : w'.cell? ⟨w.heap.size, 1, none⟩ = some (.slice RA G.roots.length rc) := (World.cell?_of_block (hx0 w.heap.size (by omega))).trans v1
            have y2 : w'.cell? ⟨w.heap.size + 1 + 1, 3, none⟩ = some (.slice (some ⟨bK, oK, none⟩) kl.length kc) := (World.cell?_of_block (hx0 (w.heap.size + 1 + 1) (by omega))).trans hxk
            have y3 : w'.cell? ⟨bK, oK + q, none⟩ = some (.int .i64 (z : Int)) := (World.cell?_of_block (hx0 bK (by omega))).trans hcq
            have hx5 : ∀ c, c < w.heap.size + 3 → W5.heap[c]? = w'.heap[c]? := fun c hc => by rw [← hW5]; exact Below.heap_setCell w' ⟨X1.heap.size, 3, none⟩ _ c (by show c ≠ X1.heap.size; have := HwX.out; omega)
            have HS5 : Hid (W5.cell? ⟨w.heap.size, 0, none⟩ = some (.slice (some ⟨bn, on, none⟩) G.nodes.length nc) ∧ W5.cell? ⟨w.heap.size, 1, none⟩ = some (.slice RA G.roots.length rc) ∧ W5.cell? ⟨w.heap.size + 1 + 1, 3, none⟩ = some (.slice (some ⟨bK, oK, none⟩) kl.length kc) ∧ W5.cell? ⟨bK, oK + q, none⟩ = some (.int .i64 (z : Int))) := ⟨(World.cell?_of_block (hx5 w.heap.size (by omega))).trans y0, (World.cell?_of_block (hx5 w.heap.size (by omega))).trans y1, (World.cell?_of_block (hx5 (w.heap.size + 1 + 1) (by omega))).trans y2, (World.cell?_of_block (hx5 bK (by omega))).trans y3⟩
            clear hrow r1 r2 r3 r4 hE hwb hwlt hnow hxs hbk hx0 hx5 t0 t1 t3 t4
            refine wpAnyH_ready (rs := [10]) (by kernel_rfl) (by simp) (AllReadyH.cons rfl (fun K hK => ?_) .nil)
            refine step_appTRun rfl _ _ rfl (.slice Ak L.length ck) _ rfl rfl hrun ?_
            refine hK.out _ _ ⟨y0, y1, y2, y3⟩ (fun hHeld => ?_)
            clear hK
            refine wpAnyH_take (i := 11) (v := ?_) rfl (by kernel_rfl) (by kernel_rfl) (by kernel_rfl) (fun _ _ _ h => h) (Or.inl ⟨by rfl, ?_⟩) hHeld ?_; rotate_left; (intro W hSw; obtain ⟨_, _, _, _⟩ := hSw; go_simp; with_reducible rfl); try simp only [Act.put, List.getElem_toArray, List.getElem_cons_succ, List.getElem_cons_zero, List.setIfInBounds_toArray, List.set_cons_zero, List.set_cons_succ]
            clear hHeld
            refine wpAnyH_ready (rs := [12]) (by kernel_rfl) (by simp) (AllReadyH.cons rfl (fun K hK => ?_) .nil)
            have HK := Lib.hid hK
            clear hK
            go_simp
            try rw [hW5]
            refine HK.out.out _ _ HS5.out (fun _ => ?_)
            clear HK y0 y1 y2 y3 z1 z2 hW5 hrun
            refine wpAnyH_done (by kernel_rfl) ?_ _
            go_wp2_with fail
            have HLn : Hid ((L ++ [((treeA G z, A', c') : TrK)]).map (·.1) = ((kl.take (q + 1)).map Int.toNat).map (treeA G)) := by show _ = _; rw [HTk.out, List.map_append, hL.out]; rfl
            first
              | exact ⟨⟨q + 1, _, _, Hlq.out, by simp, HE, HLn⟩, hmz _ rfl⟩
              | exact ⟨⟨q + 1, _, _, Hlq.out, congrArg (Value.int .i64) (HWq.out.trans (by simp)), HE, HLn⟩, hmz _ HWq.out⟩
          · have HK := Lib.hid hK
            clear hK
            go_simp
            have hbn1 : Below W1.heap.size W1 (W1.alloc (.cells #[.int .i64 (treeA G z).kind, .string (treeA G z).tag, .string (treeA G z).text, .slice A' (treeA G z).kids.length c'] 52)) := (Below.refl _ W1).alloc (Nat.le_refl _) _
            obtain ⟨t0, t1, t2, t3, t4⟩ := HSt.out _ (Below.trans HB1.out (hbn1.mono HB1.out.size))
            refine HK.out.out _ _ ⟨t0, t1, t3, t4⟩ (fun _ => ?_)
            clear HK
            refine wpAnyH_ready (rs := [1]) (by kernel_rfl) (by simp) (AllReadyH.cons rfl (fun K hK => ?_) .nil)
            have HK := Lib.hid hK
            clear hK
            go_simp
            refine HK.out.out _ _ ⟨t0, t1, t3, t4⟩ (fun _ => ?_)
            clear HK
            clear s0 s1 s2 s3 s4 t2
            have hrow : (W1.alloc (.cells #[.int .i64 (treeA G z).kind, .string (treeA G z).tag, .string (treeA G z).text, .slice A' (treeA G z).kids.length c'] 52)).ownsRow X.heap.size 52 4 (.slice Ak L.length ck) L.length (trows L) := ((Hst.out.own.keep HB1.out.size fun b _ hl => HB1.out.block b hl).own).alloc _
            obtain ⟨v', w', hrun, r1, r2, r3, g, r4⟩ := run_appT _ (.slice Ak L.length ck) L (treeA G z, A', c') hrow W1.heap.size (heap_alloc_new W1 _) (by have := hll.out; omega) (by have := HB1.out.size; have := Hst.out.keep.size; simp; omega)
            obtain ⟨A2, m2, c2, hv2⟩ : ∃ A m c, v' = .slice A m c := by rcases r1.2 with ⟨e0, _⟩ | ⟨g, cap, cur, e0, _⟩ <;> exact ⟨_, _, _, e0⟩
            subst hv2
            obtain ⟨⟨z1, z2⟩, hE⟩ := Hst.out.push (u := (treeA G z, A', c')) HBt.out HB1.out HU.out r2 r1 r3 r4
            have HE := Lib.hid hE
            obtain ⟨W5, hW5⟩ : ∃ W5, w'.setCell ⟨X1.heap.size, 3, none⟩ (.slice A2 m2 c2) = W5 := ⟨_, rfl⟩
            rw [hW5] at HE
            have hwb : ∀ b, b < wr.drew.heap.size → Value.ownBlock (.slice Ak L.length ck) ≠ some b → w'.heap[b]? = wr.drew.heap[b]? := fun b hl hne => (r2.block b (by have := HB1.out.size; simp at *; omega) (fun e => hne e.symm)).trans ((Below.heap_alloc W1 _ b (by have := HB1.out.size; simp at *; omega)).trans (HB1.out.block b hl))
            have hwlt : w.heap.size + 3 < X.heap.size := by have := HBt.out; have := HwX.out; omega
            have hnow : ∀ c, c < X.heap.size → Value.ownBlock (.slice Ak L.length ck) ≠ some c := fun c hc e => by have := (own_place Hst.out.own.own e).1; omega
            have hxs := Hst.out.keep.size
            have hbk := hbKw.out
            have hx0 : ∀ c, c < w.heap.size + 3 → w'.heap[c]? = wr.drew.heap[c]? := fun c hc => hwb c (by omega) (hnow c (by omega))
            have y0 : w'.cell? ⟨w.heap.size, 0, none⟩ = some (.slice (some ⟨bn, on, none⟩) G.nodes.length nc) := (World.cell?_of_block (hx0 w.heap.size (by omega))).trans v0
            have y1 : w'.cell? ⟨w.heap.size, 1, none⟩ = some (.slice RA G.roots.length rc) := (World.cell?_of_block (hx0 w.heap.size (by omega))).trans v1
            have y2 : w'.cell? ⟨w.heap.size + 1 + 1, 3, none⟩ = some (.slice (some ⟨bK, oK, none⟩) kl.length kc) := (World.cell?_of_block (hx0 (w.heap.size + 1 + 1) (by omega))).trans hxk
            have y3 : w'.cell? ⟨bK, oK + q, none⟩ = some (.int .i64 (z : Int)) := (World.cell?_of_block (hx0 bK (by omega))).trans hcq
            have hx5 : ∀ c, c < w.heap.size + 3 → W5.heap[c]? = w'.heap[c]? := fun c hc => by rw [← hW5]; exact Below.heap_setCell w' ⟨X1.heap.size, 3, none⟩ _ c (by show c ≠ X1.heap.size; have := HwX.out; omega)
            have HS5 : Hid (W5.cell? ⟨w.heap.size, 0, none⟩ = some (.slice (some ⟨bn, on, none⟩) G.nodes.length nc) ∧ W5.cell? ⟨w.heap.size, 1, none⟩ = some (.slice RA G.roots.length rc) ∧ W5.cell? ⟨w.heap.size + 1 + 1, 3, none⟩ = some (.slice (some ⟨bK, oK, none⟩) kl.length kc) ∧ W5.cell? ⟨bK, oK + q, none⟩ = some (.int .i64 (z : Int))) := ⟨(World.cell?_of_block (hx5 w.heap.size (by omega))).trans y0, (World.cell?_of_block (hx5 w.heap.size (by omega))).trans y1, (World.cell?_of_block (hx5 (w.heap.size + 1 + 1) (by omega))).trans y2, (World.cell?_of_block (hx5 bK (by omega))).trans y3⟩
            clear hrow r1 r2 r3 r4 hE hwb hwlt hnow hxs hbk hx0 hx5 t0 t1 t3 t4
            refine wpAnyH_ready (rs := [10]) (by kernel_rfl) (by simp) (AllReadyH.cons rfl (fun K hK => ?_) .nil)
            refine step_appTRun rfl _ _ rfl (.slice Ak L.length ck) _ rfl rfl hrun ?_
            refine hK.out _ _ ⟨y0, y1, y2, y3⟩ (fun hHeld => ?_)
            clear hK
            refine wpAnyH_take (i := 11) (v := ?_) rfl (by kernel_rfl) (by kernel_rfl) (by kernel_rfl) (fun _ _ _ h => h) (Or.inl ⟨by rfl, ?_⟩) hHeld ?_; rotate_left; (intro W hSw; obtain ⟨_, _, _, _⟩ := hSw; go_simp; with_reducible rfl); try simp only [Act.put, List.getElem_toArray, List.getElem_cons_succ, List.getElem_cons_zero, List.setIfInBounds_toArray, List.set_cons_zero, List.set_cons_succ]
            clear hHeld
            refine wpAnyH_ready (rs := [12]) (by kernel_rfl) (by simp) (AllReadyH.cons rfl (fun K hK => ?_) .nil)
            have HK := Lib.hid hK
            clear hK
            go_simp
            try rw [hW5]
            refine HK.out.out _ _ HS5.out (fun _ => ?_)
            clear HK y0 y1 y2 y3 z1 z2 hW5 hrun
            refine wpAnyH_done (by kernel_rfl) ?_ _
            go_wp2_with fail
            have HLn : Hid ((L ++ [((treeA G z, A', c') : TrK)]).map (·.1) = ((kl.take (q + 1)).map Int.toNat).map (treeA G)) := by show _ = _; rw [HTk.out, List.map_append, hL.out]; rfl
            first
              | exact ⟨⟨q + 1, _, _, Hlq.out, by simp, HE, HLn⟩, hmz _ rfl⟩
              | exact ⟨⟨q + 1, _, _, Hlq.out, congrArg (Value.int .i64) (HWq.out.trans (by simp)), HE, HLn⟩, hmz _ HWq.out⟩
      · obtain rfl : q = kl.length := by omega
        have hd : ¬ (kl.length : Int) < (kl.length : Int) := by omega
        have hLL : L.map (·.1) = (kidN G x).map (treeA G) := by
          have h1 := hL.out
          rw [List.take_length] at h1
          rw [h1, HKN.out]
        have hRw := HW.out wr hst.out.keep
        obtain ⟨_, _, _, hrr, hwr, _⟩ := HRf.out wr hRw
        obtain ⟨Ak, ck, hkv, hlc⟩ := hst.out.own.shape
        subst hkv
        have b0 := Lib.cell_of_heap hst.out.out 0
        have b1 := Lib.cell_of_heap hst.out.out 1
        have b2 := Lib.cell_of_heap hst.out.out 2
        have b3 := Lib.cell_of_heap hst.out.out 3
        have c0 := Lib.cell_of_heap hrr 0
        have c1 := Lib.cell_of_heap hrr 1
        have c2 := Lib.cell_of_heap hrr 2
        have c3 := Lib.cell_of_heap hrr 3
        have f0 := Go.Joins.unfrozen_of_block hrr 0
        have f1 := Go.Joins.unfrozen_of_block hrr 1
        have f2 := Go.Joins.unfrozen_of_block hrr 2
        have f3 := Go.Joins.unfrozen_of_block hrr 3
        obtain ⟨W9, hW9⟩ : ∃ W9, (((wr.setCell ⟨w.heap.size + 1, 0, none⟩ (.int .i64 e.kind)).setCell ⟨w.heap.size + 1, 1, none⟩ (.string e.tag)).setCell ⟨w.heap.size + 1, 2, none⟩ (.string e.text)).setCell ⟨w.heap.size + 1, 3, none⟩ (.slice Ak L.length ck) = W9 := ⟨_, rfl⟩
        have hw9 := Go.Joins.block_setCell (i := 3) (Go.Joins.block_setCell (i := 2) (Go.Joins.block_setCell (i := 1) (Go.Joins.block_setCell (i := 0) hrr (.int .i64 e.kind)) (.string e.tag)) (.string e.text)) (.slice Ak L.length ck)
        rw [hW9] at hw9
        have hb9 : ∀ b, b ≠ w.heap.size + 1 → W9.heap[b]? = wr.heap[b]? := fun b hb => by
          rw [← hW9]
          exact (Below.heap_setCell _ ⟨w.heap.size + 1, 3, none⟩ _ b hb).trans ((Below.heap_setCell _ ⟨w.heap.size + 1, 2, none⟩ _ b hb).trans ((Below.heap_setCell _ ⟨w.heap.size + 1, 1, none⟩ _ b hb).trans (Below.heap_setCell wr ⟨w.heap.size + 1, 0, none⟩ _ b hb)))
        have hs9 : W9.heap.size = wr.heap.size := by rw [← hW9]; simp
        have ho9 : W9.os = wr.os ∧ W9.tape = wr.tape ∧ W9.output = wr.output := by rw [← hW9]; exact ⟨rfl, rfl, rfl⟩
        have HB9 : Hid (Below w.heap.size w W9) := ⟨ho9.1.trans hwr.os, ho9.2.1.trans hwr.tape, ho9.2.2.trans hwr.output, by rw [hs9]; exact hwr.size, fun b hb => (hb9 b (by omega)).trans (hwr.block b hb)⟩
        obtain ⟨l1, l2, l3⟩ := HXl.out
        have hkl2 : L.length = ((kidN G x).map (treeA G)).length := by rw [← hLL, List.length_map]
        have HV9 : Hid (TrV W9 (hi w.heap.size W9) (treeA G x) (.agg #[.int .i64 e.kind, .string e.tag, .string e.text, .slice Ak L.length ck])) := by
          show TrV _ _ _ _
          rw [HTe.out]
          refine ⟨Ak, ck, by simp only [Tr.kind, Tr.tag, Tr.text, Tr.kids, ← hkl2], by simp only [Tr.kids, ← hkl2]; exact hlc, ?_⟩
          have h1 := hst.out.own.at
          rw [hLL] at h1
          exact h1.keep (fun b hb => hb9 b (by have := hb.1; omega)) fun b hb => ⟨by have := hb.1; omega, by rw [hs9]; exact hb.2⟩
        clear hLL hRw hrr hwr hlc hst hL hb9 hs9 ho9 l1 l2 l3 hkl2 hq hlq
        go_wp2_with fail
        refine bodyPost_ret (results_cell_row rfl _ _ (w.heap.size + 1) _ _ (0, 0) _ rfl hw9 Tryd.underlying52 rfl (by kernel_rfl)) rfl ?_
        exact ⟨_, rfl, HV9.out, HB9.out⟩
end Go.Proofs.YtdcbngimgpdjoaaDoor
