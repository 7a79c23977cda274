/- The reference's below, walked. Conditions: the graph is right; no way from the root goes on for ever. -/
import Derived.Test.YtdcbngimgpdjoaaDoorXp
import Derived.Test.YtdcbngimgpdjoaaDoorKm
namespace Go.Proofs.YtdcbngimgpdjoaaDoor
open Go.RowKit Go.Shelf Go.Deep
attribute [local go_sem] Oper.semAt_some
theorem wrapB1 (m : Nat) (h : m ≤ 1000000000) : wrap64 ((m : Int) + 1) = m + 1 := IntWalk.wrap64_in _ (by omega)
def lenOf : Value → Nat
  | .slice _ n _ => n
  | _ => 0
set_option maxRecDepth 100000 in
set_option maxHeartbeats 4000000 in
theorem below_any (G : Gr) (v : Value) (r : Nat) (w : World) (hG : GrAt w w.heap.size G v) (hR : RightG G) (hr : r < G.nodes.length) (ha : Acc (edge (kidN G)) r) :
    Calls Tryd.prog 59 #[v, .int .i64 (r : Int)] w fun e w' => ∃ A c D, e = .returned (.slice A D.length c) ∧ IntsAt w' w'.heap.size A (D.map Int.ofNat) ∧ Bel (kidN G) G.nodes.length r D [] ∧ Below w.heap.size w w' ∧ ∀ p, A = some p → w.heap.size ≤ p.block := by
  obtain ⟨NA, nc, RA, rc, rfl, hN, hRo⟩ := hG.ex
  have hnn := hR.nodes
  obtain ⟨V, hV, hbV, hrow, hsz⟩ := box2 w (.slice NA G.nodes.length nc) (.slice RA G.roots.length rc) 25
  have hmake := fun W => run_make_row' (P := Tryd.prog) 68 4 (.bool false) 1 rfl Tryd.infoBoolM rfl .i64 .i64 G.nodes.length (by omega) (by omega) W
  have v0 : V.cell? ⟨w.heap.size, 0, none⟩ = some (.slice NA G.nodes.length nc) := Lib.cell_of_heap hrow 0
  obtain ⟨M, hM⟩ : ∃ M, V.alloc (.cells (madeCells #[.bool false] G.nodes.length) 4) = M := ⟨_, rfl⟩
  have hbM : Below V.heap.size V M := by rw [← hM]; exact (Below.refl _ V).alloc (Nat.le_refl _) _
  have hszM : M.heap.size = V.heap.size + 1 := by rw [← hM]; simp
  have hrowM : M.rowIs V.heap.size 4 G.nodes.length fun _ => .bool false := by rw [← hM]; exact World.rowIs_made V _ _ _
  obtain ⟨X, hX⟩ : ∃ X, M.alloc (.cells #[.int .i64 (r : Int)] 3) = X := ⟨_, rfl⟩
  have hbX : Below M.heap.size M X := by rw [← hX]; exact (Below.refl _ M).alloc (Nat.le_refl _) _
  have hI : RcSt M (w.heap.size + 1) G.nodes.length [] [] [r] (.slice none 0 0) M.heap.size 1 X := by
    refine ⟨grown_below hbX, by omega, ?_, ⟨rfl, .inl ⟨rfl, rfl⟩⟩, ?_, fun h => by cases h⟩
    · rw [hsz] at hrowM
      exact (hrowM.of_block (hbX.block _ (by omega))).congr fun j _ => by simp
    · have := World.ownsRow_lit (base := M.heap.size) (size := 1) (e := 3) M #[.int .i64 (r : Int)] 1 (Nat.le_refl _) (by decide) rfl
      rw [hX] at this
      simpa [ncells] using this
  have hVM := below_then hbV hbM
  have HC : Hid (∀ W, M.grownBy W (some (w.heap.size + 1)) → W.cell? ⟨w.heap.size, 0, none⟩ = some (.slice NA G.nodes.length nc) ∧ NdsAt W w.heap.size NA G.nodes ∧ Below w.heap.size w W) := fun W h => by
    have hb : ∀ k, k < M.heap.size → k ≠ w.heap.size + 1 → W.heap[k]? = M.heap[k]? := fun k hk hne => h.block k hk (by simpa using hne)
    have hr0 := (hb w.heap.size (by omega) (by omega)).trans ((hbM.block _ (by omega)).trans hrow)
    have hwW : Below w.heap.size w W := ⟨h.os.trans hVM.os, h.tape.trans hVM.tape, h.output.trans hVM.output, Nat.le_trans hVM.size h.size, fun k hk => (hb k (by omega) (by omega)).trans (hVM.block k hk)⟩
    exact ⟨Lib.cell_of_heap hr0 0, hN.below hwW (Nat.le_refl _), hwW⟩
  have HI := Lib.hid hI
  have HV := Lib.hid hV
  have HR := Lib.hid hR
  have HS := Lib.hid (Bel.start ha hr)
  have Hnn := Lib.hid hnn
  have Hsz : Hid (V.heap.size = w.heap.size + 1 ∧ M.heap.size = w.heap.size + 2) := ⟨hsz, by omega⟩
  clear hR hI hbM hszM hrowM hbX hVM hN hRo hrow hbV hG
  go_enter Tryd.func59, Tryd.ntmps59
  subst hV
  go_wp2_with fail
  clear hX hM v0 hmake hnn
  go_loopw [6, 7] (fun out way wr => ∃ (D stk : List Nat) (u : Value) (gw cw : Nat), out = u ∧ way = .slice (some ⟨gw, 0, none⟩) stk.length cw ∧ lenOf u = D.length ∧ Hid (Bel (kidN G) G.nodes.length r D stk.reverse) ∧ Hid (RcSt M (w.heap.size + 1) G.nodes.length D D stk u gw cw wr)) (fun out way _ => 2 * (G.nodes.length - lenOf out) - lenOf way)
  case atStart => exact ⟨[], [r], _, M.heap.size, 1, rfl, rfl, rfl, HS, HI⟩
  case round =>
    obtain ⟨D, stk, u, gw, cw, rfl, rfl, hlu, hb, hs⟩ := hrel
    obtain ⟨e0, hnd0, _⟩ := HC.out wr hs.out.keep
    cases stk with
    | nil =>
      obtain ⟨A, cc, hu, hI2, hcc, hfp⟩ := ints_row hs.out.out
      subst hu
      have HE : Hid (IntsAt wr wr.heap.size A (D.map Int.ofNat) ∧ Bel (kidN G) G.nodes.length r D [] ∧ Below w.heap.size w wr ∧ ∀ p, A = some p → w.heap.size ≤ p.block) := ⟨hI2, hb.out, (HC.out wr hs.out.keep).2.2, fun p hp => by have := hfp p hp; have := Hsz.out; omega⟩
      clear hI2 hcc hfp hnd0 e0 hs hb
      go_wp2_with fail
      go_ret
      exact ⟨A, cc, D, rfl, HE.out⟩
    | cons k stk =>
      obtain ⟨Au, cu, hu, _⟩ := ints_row hs.out.out
      subst hu
      have hil : k < G.nodes.length := hb.out.lt k (.inr (by simp))
      have hkD : k ∉ D := hb.out.apart k (by simp)
      have hrm := hb.out.room
      have hsl20 : stk.length < 20001 := by have := Hnn.out; simp at hrm; omega
      have htop := hs.out.top
      have hsee := hs.out.seen.cell hil
      rw [decide_eq_false hkD] at hsee
      have hcw := (ownsRow_block hs.out.way).2.2.1
      simp only [List.length_cons] at hcw
      obtain ⟨kl, hkl⟩ : ∃ l, (nd G.nodes k).kids = l := ⟨_, rfl⟩
      have hkll : kl.length ≤ 20000 := by
        have h := HR.out.sum
        have h2 := le_sum_x (G.nodes.map fun e => e.kids.length) (nd G.nodes k).kids.length (List.mem_map.2 ⟨nd G.nodes k, nd_mem hil, rfl⟩)
        rw [hkl] at h2
        unfold sumK at h
        omega
      have HKN : Hid (kidN G k = kl.map Int.toNat) := by rw [← hkl]; rfl
      have HKr : Hid (∀ z ∈ kl, 0 ≤ z ∧ z < G.nodes.length) := by rw [← hkl]; exact HR.out.kids k hil
      obtain ⟨b, off, hA, hbl, hnds⟩ := hnd0 (by omega)
      obtain ⟨K, kc, hnd⟩ := hnds k hil
      have h3 := hnd.c3
      have h4 := Lib.hid hnd.kids
      rw [hkl] at h3 h4
      subst hA
      have HRm := Lib.hid hrm
      have Hkll := Lib.hid hkll
      clear hkll
      clear hnds hnd hnd0 hkl hrm hlu
      go_wp2_with fail
      go_loopw [7, 9, 11] (fun way rd j w2 => ∃ q : Nat, q ≤ kl.length ∧ way = .slice (some ⟨gw, 0, none⟩) (k :: stk).length cw ∧ rd = .bool true ∧ j = .int .i64 (q : Int) ∧ w2 = wr ∧ Hid (∀ z ∈ kl.take q, z.toNat ∈ D)) (fun _ _ j _ => kl.length - (intOf j).toNat)
      case atStart => exact ⟨0, Nat.zero_le _, rfl, rfl, rfl, rfl, fun z hz => by simp at hz⟩
      case round =>
        obtain ⟨q, hq, rfl, rfl, rfl, rfl, hz⟩ := hrel
        by_cases hlq : q < kl.length
        · have g1 : (q : Int) < (kl.length : Int) := by omega
          obtain ⟨bK, oK, rfl, hbK, hcK⟩ := h4.out (by omega)
          have hcq := hcK q hlq
          obtain ⟨z, hzz⟩ : ∃ z : Nat, nth kl q = (z : Int) := ⟨(nth kl q).toNat, by have := (HKr.out _ (nth_mem hlq)).1; omega⟩
          rw [hzz] at hcq
          have hzl : z < G.nodes.length := by have := (HKr.out _ (nth_mem hlq)).2; omega
          have hseez := hs.out.seen.cell hzl
          have HW : Hid (wrap64 ((q : Int) + 1) = q + 1) := wrapB1 q (by have := Hkll.out; omega)
          have Hlq := Lib.hid hlq
          have hmz : ∀ y : Int, y = q + 1 → kl.length - (intOf (.int .i64 y)).toNat < kl.length - (intOf (.int .i64 (q : Int))).toNat := by intro y hy; subst hy; have := Hlq.out; simp only [intOf]; omega
          clear hcK hbK hq
          by_cases hzD : z ∈ D
          · rw [decide_eq_true hzD] at hseez
            have Hz1 : Hid (∀ y ∈ kl.take (q + 1), y.toNat ∈ D) := fun y hy => by
              rw [List.take_succ_eq_append_getElem hlq] at hy
              rcases List.mem_append.1 hy with h0 | h0
              · exact hz.out y h0
              · rw [List.mem_singleton.1 h0, ← nth_eq hlq, hzz]; exact hzD
            clear hlq
            go_wp2_with fail
            first
              | exact ⟨⟨q + 1, Hlq.out, rfl, rfl, by simp, rfl, Hz1⟩, hmz _ rfl⟩
              | exact ⟨⟨q + 1, Hlq.out, rfl, rfl, by simp, trivial, Hz1⟩, hmz _ rfl⟩
              | exact ⟨⟨q + 1, Hlq.out, rfl, rfl, congrArg (Value.int .i64) (HW.out.trans (by simp)), rfl, Hz1⟩, hmz _ HW.out⟩
              | exact ⟨⟨q + 1, Hlq.out, rfl, rfl, congrArg (Value.int .i64) (HW.out.trans (by simp)), trivial, Hz1⟩, hmz _ HW.out⟩
          · rw [decide_eq_false hzD] at hseez
            have hB2 := hb.out
            rw [List.reverse_cons] at hB2
            have hzk : z ∈ kidN G k := by rw [HKN.out]; exact List.mem_map.2 ⟨nth kl q, nth_mem hlq, by rw [hzz]; rfl⟩
            have hB3 := hB2.push (fun i hi => HR.out.lt hi) hzk hzD
            have HB3 : Hid (Bel (kidN G) G.nodes.length r D (z :: k :: stk).reverse) := by show Bel _ _ _ _ _; simpa using hB3
            have hLl : (k :: stk).reverse.length ≤ 1000000000 := by rw [List.length_reverse, List.length_cons]; omega
            have hsV : M.heap.size ≤ (wr.alloc (.cells #[.int .i64 (z : Int)] 3)).heap.size := by have := hs.out.keep.size; simp; omega
            have hway : (wr.alloc (.cells #[.int .i64 (z : Int)] 3)).ownsRow M.heap.size 3 1 (.slice (some ⟨gw, 0, none⟩) (k :: stk).length cw) (k :: stk).reverse.length (ncells (k :: stk).reverse) := by rw [List.length_reverse]; exact hs.out.way.alloc _
            have hrs := hs.out
            clear hlq hB2 hB3 hzk
            go_wp2_with (at_builtin; refine wpList_appO2 rfl _ _ _ rfl rfl (.slice (some ⟨gw, 0, none⟩) (k :: stk).length cw) (k :: stk).reverse z rfl hway wr.heap.size rfl (by simp) hLl hsV ?_; intro v' w' r1 r2 r3 r4; obtain ⟨g', r4⟩ := r4; obtain ⟨A9, c9, hv9, _⟩ := ints_row r1; subst hv9)
            have hv0 : ∃ g, A9 = some ⟨g, 0, none⟩ := by
              rcases r1.2 with ⟨h0, _⟩ | ⟨g, cap, cur, hv, _⟩
              · have := congrArg lenOf h0; simp [lenOf] at this
              · injection hv with e1; exact ⟨g, e1⟩
            obtain ⟨g, rfl⟩ := hv0
            have hg2 : gw = g ∨ g = wr.heap.size + 1 := by
              rcases r3 with e | e
              · left; exact (Option.some.inj e).symm
              · right; have := Option.some.inj e; simpa using this
            have HS4 := Lib.hid (hrs.push r2 r1 hg2)
            have hroom := HB3.out.room
            refine ⟨⟨D, z :: k :: stk, _, g, c9, rfl, by simp, rfl, HB3, HS4⟩, ?_⟩
            simp only [lenOf, List.length_cons, List.length_reverse] at hroom ⊢
            omega
        · obtain rfl : q = kl.length := by omega
          have g1 : ¬ (kl.length : Int) < (kl.length : Int) := by omega
          have hp := hs.out.pop
          have hfz := hs.out.seen.frozen k
          have HM := Lib.hid (hp.mark (i := k))
          have hB2 := hb.out
          rw [List.reverse_cons] at hB2
          have HB3 := Lib.hid (hB2.pop fun y hy => by
            rw [HKN.out] at hy
            obtain ⟨z, hz1, rfl⟩ := List.mem_map.1 hy
            exact hz.out z (by rw [List.take_length]; exact hz1))
          have hol : D.length ≤ 1000000000 := by have h1 := HRm.out; have h2 := Hnn.out; simp only [List.length_reverse, List.length_cons] at h1; omega
          have hsM : M.heap.size ≤ ((wr.setCell ⟨w.heap.size + 1, k, none⟩ (.bool true)).alloc (.cells #[.int .i64 (k : Int)] 3)).heap.size := by have := hs.out.keep.size; simp; omega
          have hor : ((wr.setCell ⟨w.heap.size + 1, k, none⟩ (.bool true)).alloc (.cells #[.int .i64 (k : Int)] 3)).ownsRow M.heap.size 3 1 (.slice Au D.length cu) D.length (ncells D) := HM.out.out.alloc _
          have hcl : ((wr.setCell ⟨w.heap.size + 1, k, none⟩ (.bool true)).alloc (.cells #[.int .i64 (k : Int)] 3)).cell? ⟨wr.heap.size, 0, none⟩ = some (.int .i64 (k : Int)) := by
            have e := heap_alloc_new (wr.setCell ⟨w.heap.size + 1, k, none⟩ (.bool true)) (.cells #[.int .i64 (k : Int)] 3)
            have e2 : (wr.setCell ⟨w.heap.size + 1, k, none⟩ (.bool true)).heap.size = wr.heap.size := by first | exact World.size_setCell .. | simp [World.setCell] | rfl
            rw [e2] at e
            exact Lib.cell_of_heap e 0
          clear hB2 hp
          clear hq hlq hkD
          go_wp2_with (at_builtin; go_loud (refine wpList_appO2 rfl _ _ _ rfl rfl (.slice Au D.length cu) D k rfl hor wr.heap.size rfl hcl hol hsM ?_); intro v' w' r1 r2 r3 r4; obtain ⟨g', r4⟩ := r4; obtain ⟨A9, c9, hv9, _⟩ := ints_row r1; subst hv9)
          have HS4 := Lib.hid (HM.out.tell r2 r1 r4 (r3.elim (fun e => .inl (e.symm.trans r4)) fun e => .inr (by have e2 := r4.symm.trans e; simpa using e2)))
          rw [List.length_append, List.length_singleton] at HS4
          have hroom := HB3.out.room
          refine ⟨⟨D ++ [k], stk, _, gw, cw, rfl, rfl, by simp [lenOf], HB3, HS4⟩, ?_⟩
          have hroom0 := HRm.out
          simp only [lenOf, List.length_cons, List.length_reverse, List.length_append, List.length_nil] at hroom hroom0 ⊢
          omega
end Go.Proofs.YtdcbngimgpdjoaaDoor
