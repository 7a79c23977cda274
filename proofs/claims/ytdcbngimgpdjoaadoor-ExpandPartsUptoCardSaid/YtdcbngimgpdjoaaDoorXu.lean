/- The reference's Size (marginaliaref17). Conditions: as May's. -/
import Derived.Test.YtdcbngimgpdjoaaDoorXt
import Derived.Test.YtdcbngimgpdjoaaDoorXd
import Derived.Deep.RegionHeld3
namespace Go.Proofs.YtdcbngimgpdjoaaDoor
open Go.RowKit Go.Shelf Go.Deep
attribute [local go_sem] Oper.semAt_some
theorem cyc_acc {G : Gr} {r : Nat} (hR : RightG G) (hr : r < G.nodes.length) (hi : isB G r = true) (hc : cyclicB G r = false) : Acc (edge (kidN G)) r := by
  have h5 := hR.cyc hr
  have h4 : cycL G r = false := by
    unfold cyclicB at hc
    rw [hi] at hc
    simpa using hc
  rw [h4] at h5
  exact Classical.byContradiction fun h => by simpa using h5.2 h
theorem szF_snoc_of (kids : Nat → List Nat) (R : List Nat) (i k : Nat) : szF kids (R ++ [i]) k = if k = i then sizeA kids i else szF kids R k := szF_snoc kids R i k
theorem kids_len {G : Gr} (hR : RightG G) {x : Nat} (hx : x < G.nodes.length) {kl : List Int} (hk : (nd G.nodes x).kids = kl) : kl.length ≤ 20000 := by
  have h := hR.sum
  have h2 := le_sum_x (G.nodes.map fun e => e.kids.length) (nd G.nodes x).kids.length (List.mem_map.2 ⟨nd G.nodes x, nd_mem hx, rfl⟩)
  rw [hk] at h2
  unfold sumK at h
  omega
/-- The told nodes' list, and what the walk wants of it. -/
theorem Bel.len {kids : Nat → List Nat} {n root : Nat} {D : List Nat} (h : Bel kids n root D []) : D.length ≤ n := by have := h.room; simp at this; exact this
set_option maxRecDepth 100000 in
set_option maxHeartbeats 4000000 in
theorem RSize_any (G : Gr) (v : Value) (root : Int) (w : World) (hG : GrAt w w.heap.size G v) (hok : G.okR) :
    Calls Tryd.prog 37 #[v, .int .i64 root] w fun e w' => e = .returned (.tuple #[.int .i64 (sizeB G root : Nat), .int .i64 (errB G root)]) ∧ Below w.heap.size w w' := by
  have hM : Hid (∀ W, Below w.heap.size w W → Calls Tryd.prog 27 #[v, .int .i64 root] W fun r w' => r = .returned (.bool (isB G root)) ∧ Below W.heap.size W w') := fun W hW => RMay_any G v root W ((hG.below hW (Nat.le_refl _)).more hW.size) hok
  have hCy : Hid (∀ W, Below w.heap.size w W → Calls Tryd.prog 24 #[v, .int .i64 root] W fun r w' => r = .returned (.bool (cyclicB G root)) ∧ Below W.heap.size W w') := fun W hW => RCyclic_any G v root W ((hG.below hW (Nat.le_refl _)).more hW.size) hok
  have hr := isB_cases G root
  have HGw : Hid (∀ W, Below w.heap.size w W → GrAt W W.heap.size G v) := fun W hW => (hG.below hW (Nat.le_refl _)).more hW.size
  obtain ⟨NA, nc, RA, rc, rfl, hN, hR⟩ := hG.ex
  obtain ⟨V, hV, hbV, hrow, hsz⟩ := box2 w (.slice NA G.nodes.length nc) (.slice RA G.roots.length rc) 25
  have v0 : V.cell? ⟨w.heap.size, 0, none⟩ = some (.slice NA G.nodes.length nc) := Lib.cell_of_heap hrow 0
  have v1 : V.cell? ⟨w.heap.size, 1, none⟩ = some (.slice RA G.roots.length rc) := Lib.cell_of_heap hrow 1
  have HM := Lib.hid (hM.out V hbV)
  clear hM
  have HG0 : Hid (∀ W, Below V.heap.size V W → W.cell? ⟨w.heap.size, 0, none⟩ = some (.slice NA G.nodes.length nc) ∧ W.cell? ⟨w.heap.size, 1, none⟩ = some (.slice RA G.roots.length rc) ∧ Below w.heap.size w W) := fun W h => by
    have hr := (h.block w.heap.size (by omega)).trans hrow
    exact ⟨Lib.cell_of_heap hr 0, Lib.cell_of_heap hr 1, below_then hbV h⟩
  rcases hr with hr | ⟨hr, r, rfl, hlt, hRG⟩
  · rw [hr] at HM
    have HE : Hid (sizeB G root = 0 ∧ errB G root = 1) := by
      have : errB G root = 1 := by simp [errB, hr]
      exact ⟨by rw [sizeB, this]; rfl, this⟩
    rw [HE.out.1, HE.out.2]
    have HbV := Lib.hid hbV
    clear hsz hrow hG hN hR hok hr hbV hCy
    go_enter Tryd.func37, Tryd.ntmps37
    go_wp2_with (go_at_call 27; refine HM.out.mono ?_; rintro e w' ⟨rfl, hb⟩)
    go_ret2
    exact ⟨rfl, below_then HbV.out hb⟩
  · rw [hr] at HM
    cases hcy : cyclicB G r with
    | true =>
      have HE : Hid (sizeB G r = 0 ∧ errB G r = 13) := by
        have : errB G r = 13 := by simp [errB, hr, hcy]
        exact ⟨by rw [sizeB, this]; rfl, this⟩
      rw [HE.out.1, HE.out.2]
      rw [hcy] at hCy
      have HbV := Lib.hid hbV
      clear hsz hrow hG hN hR hok hr hbV hcy hRG hlt
      go_enter Tryd.func37, Tryd.ntmps37
      go_wp2_with (first
        | (go_at_call 27; refine HM.out.mono ?_; rintro e w1 ⟨rfl, hb⟩
           obtain ⟨g0, g1, _⟩ := HG0.out w1 hb
           have Hb := Lib.hid hb
           clear hb)
        | (go_at_call 24; refine (hCy.out w1 (HG0.out w1 Hb.out).2.2).mono ?_; rintro e w2 ⟨rfl, hb2⟩
           have Hb2 := Lib.hid hb2
           clear hb2))
      go_ret2
      exact ⟨rfl, below_then (HG0.out w1 Hb.out).2.2 Hb2.out⟩
    | false =>
      have hacc := cyc_acc hRG hlt hr hcy
      have HE : Hid (sizeB G r = sizeA (kidN G) r ∧ errB G r = 0) := by
        have : errB G r = 0 := by simp [errB, hr, hcy]
        exact ⟨by rw [sizeB, if_pos this]; rfl, this⟩
      rw [HE.out.1, HE.out.2]
      rw [hcy] at hCy
      have hnn := hRG.nodes
      have HBe : Hid (∀ W, Below w.heap.size w W → Calls Tryd.prog 59 #[.agg #[.slice NA G.nodes.length nc, .slice RA G.roots.length rc], .int .i64 (r : Int)] W fun e w' => ∃ A c D, e = .returned (.slice A D.length c) ∧ IntsAt w' w'.heap.size A (D.map Int.ofNat) ∧ Bel (kidN G) G.nodes.length r D [] ∧ Below W.heap.size W w' ∧ ∀ p, A = some p → W.heap.size ≤ p.block) := fun W hW => below_any G _ r W (HGw.out W hW) hRG hlt hacc
      have HNw : Hid (∀ W, Below w.heap.size w W → NdsAt W w.heap.size NA G.nodes) := fun W hW => hN.below hW (Nat.le_refl _)
      have HRG := Lib.hid hRG
      have Hlt := Lib.hid hlt
      have Hsz := Lib.hid hsz
      have HbV := Lib.hid hbV
      clear hsz hrow hG hN hR hok hr hbV hcy hRG hlt hacc HGw HE
      go_enter Tryd.func37, Tryd.ntmps37
      go_wp2_with (first
        | (go_at_call 27; refine HM.out.mono ?_; rintro e w1 ⟨rfl, hb⟩
           obtain ⟨g0, g1, _⟩ := HG0.out w1 hb
           have Hb := Lib.hid hb
           clear hb)
        | (go_at_call 24; refine (hCy.out w1 (HG0.out w1 Hb.out).2.2).mono ?_; rintro e w2 ⟨rfl, hb2⟩
           have hb12 := below_then Hb.out hb2
           have hmake := run_make_row' (P := Tryd.prog) 23 3 (.int .i64 0) 8 rfl Tryd.infoIntZ rfl .i64 .i64 G.nodes.length (by omega) (by omega) w2
           obtain ⟨M, hM, hbM, hrM, hsM⟩ := rowM w2 (.int .i64 0) G.nodes.length 3
           rw [hM] at hmake
           obtain ⟨g2, g3, _⟩ := HG0.out w2 hb12
           obtain ⟨gM0, gM1, _⟩ := HG0.out M (below_then hb12 hbM)
           have HbM := Lib.hid (below_then hb12 hbM)
           have HrM := Lib.hid hrM
           have HsM := Lib.hid hsM
           have Hb2 := Lib.hid hb12
           clear hbM hrM hsM hb2 hb12)
        | (go_at_call 59; refine (HBe.out M (HG0.out M HbM.out).2.2).mono ?_; rintro e w3 ⟨LA, lc, D, rfl, hI, hD, hb3, hf3⟩
           have hr3 : w3.rowIs w2.heap.size 3 G.nodes.length fun _ => .int .i64 0 := HrM.out.of_block (hb3.block _ (by have := HsM.out; omega))
           have HI := Lib.hid hI
           have HD := Lib.hid hD
           have Hf3 := Lib.hid hf3
           have Hb3 := Lib.hid (below_then HbM.out hb3)
           have Hs3 := Lib.hid hb3.size
           have Hr3 := Lib.hid hr3
           clear hI hD hb3 hf3 hr3))
      have HCw : Hid (∀ W, w3.grownBy W (some w2.heap.size) → W.cell? ⟨w.heap.size, 0, none⟩ = some (.slice NA G.nodes.length nc) ∧ Below w.heap.size w W ∧ NdsAt W w.heap.size NA G.nodes ∧ ∀ k, k < D.length → ∃ lb lo, LA = some ⟨lb, lo, none⟩ ∧ W.cell? ⟨lb, lo + k, none⟩ = some (.int .i64 (D.getD k 0 : Nat))) := fun W hW => by
        have h0 := HG0.out w3 Hb3.out
        have hV1 := Hb2.out.size
        have hVz := Hsz.out
        have h3 := Hs3.out
        have hM := HsM.out
        have hb : ∀ g, g < w3.heap.size → g ≠ w2.heap.size → W.heap[g]? = w3.heap[g]? := fun g hg hne => hW.block g hg (by simpa using hne)
        have hbw : Below w.heap.size w W := ⟨hW.os.trans h0.2.2.os, hW.tape.trans h0.2.2.tape, hW.output.trans h0.2.2.output, Nat.le_trans h0.2.2.size hW.size, fun g hg => (hb g (by omega) (by omega)).trans (h0.2.2.block g hg)⟩
        refine ⟨(World.cell?_of_block (hb w.heap.size (by omega) (by omega))).trans h0.1, hbw, HNw.out W hbw, fun k hk => ?_⟩
        obtain ⟨lb, lo, hA, hlt3, hc⟩ := HI.out (by rw [List.length_map]; omega)
        have hf := Hf3.out _ hA
        simp only at hf
        refine ⟨lb, lo, hA, (World.cell?_of_block (hb lb hlt3 (by omega))).trans ((hc k (by rw [List.length_map]; exact hk)).trans ?_)⟩
        simp [nth, hk]
      have Hfin : Hid (w.heap.size ≤ w2.heap.size ∧ w2.heap.size < w3.heap.size) := ⟨by have := Hb2.out.size; have := Hsz.out; omega, by have := Hs3.out; have := HsM.out; omega⟩
      have HDl : Hid (D.length ≤ 20000) := by have := HD.out.len; show _ ≤ _; omega
      have Hg0 : Hid (w3.grownBy w3 (some w2.heap.size)) := grown_refl _ _
      have Hr0 : Hid (w3.rowIs w2.heap.size 3 G.nodes.length fun y => .int .i64 (szF (kidN G) (D.take 0) y : Nat)) := Hr3.out.congr fun y _ => by simp [szF_nil]
      clear g0 g1 g2 g3 gM0 gM1 hmake hM v0 v1 hV hCy HI Hf3 HM HBe HNw Hr3
      go_loopw [8] (fun i wr => ∃ k : Nat, k ≤ D.length ∧ i = .int .i64 (k : Int) ∧ Hid (w3.grownBy wr (some w2.heap.size)) ∧ Hid (wr.rowIs w2.heap.size 3 G.nodes.length fun y => .int .i64 (szF (kidN G) (D.take k) y : Nat))) (fun i _ => D.length - (intOf i).toNat)
      case atStart => exact ⟨0, Nat.zero_le _, rfl, Hg0, Hr0⟩
      case round =>
        obtain ⟨k, hk, rfl, hg, hrw⟩ := hrel
        by_cases hlt2 : k < D.length
        · obtain ⟨e0, hbw, hnds, hli⟩ := HCw.out wr hg.out
          obtain ⟨lb, lo, rfl, hlk⟩ := hli k hlt2
          obtain ⟨x, hx⟩ : ∃ x, D.getD k 0 = x := ⟨_, rfl⟩
          have hxg : D[k] = x := by simpa [hlt2] using hx
          rw [hx] at hlk
          have hxD : x ∈ D := hxg ▸ List.getElem_mem hlt2
          have hxn : x < G.nodes.length := HD.out.lt x (.inl hxD)
          have hxa : Acc (edge (kidN G)) x := HD.out.acc x (.inl hxD)
          have htk : D.take (k + 1) = D.take k ++ [x] := by rw [List.take_succ_eq_append_getElem hlt2, hxg]
          have HTk := Lib.hid htk
          have HXa := Lib.hid hxa
          have HOr : Hid (∀ y ∈ kidN G x, y ∈ D.take k) := fun y hy => HD.out.order k hlt2 y (by rw [hxg]; exact hy)
          have hlt' : (k : Int) < (D.length : Int) := by omega
          have hxI : (x : Int) < (G.nodes.length : Int) := by omega
          obtain ⟨bn, on, rfl, hbn, hnc⟩ := hnds (by omega)
          obtain ⟨K, kc, hnd⟩ := hnc x hxn
          obtain ⟨kl, hkl⟩ : ∃ l, (nd G.nodes x).kids = l := ⟨_, rfl⟩
          have HKN : Hid (kidN G x = kl.map Int.toNat) := by rw [← hkl]; rfl
          have HKr : Hid (∀ z ∈ kl, 0 ≤ z ∧ z < G.nodes.length) := by rw [← hkl]; exact HRG.out.kids x hxn
          have HKl : Hid (kl.length ≤ 20000) := kids_len HRG.out hxn hkl
          have c3 := hnd.c3
          have hk5 := hnd.kids
          rw [hkl] at c3 hk5
          have HKc : Hid (∀ W, w3.grownBy W (some w2.heap.size) → ∀ q, q < kl.length → ∃ b o, K = some ⟨b, o, none⟩ ∧ W.cell? ⟨b, o + q, none⟩ = some (.int .i64 (nth kl q))) := fun W hW q hq => by
            obtain ⟨b, o, hA, hb, hc⟩ := hk5 (by omega)
            have h1 := (HCw.out W hW).2.1
            refine ⟨b, o, hA, (World.cell?_of_block ((h1.block b hb).trans (hbw.block b hb).symm)).trans (hc q hq)⟩
          have Hlt2 := Lib.hid hlt2
          have Hxn := Lib.hid hxn
          have hgd : w3.grownBy wr.drew (some w2.heap.size) := ⟨hg.out.os, hg.out.tape, hg.out.output, hg.out.size, hg.out.block⟩
          have HGd := Lib.hid hgd
          have HRd : Hid (wr.drew.rowIs w2.heap.size 3 G.nodes.length fun y => .int .i64 (szF (kidN G) (D.take k) y : Nat)) := hrw.out.of_block rfl
          have HLd : Hid (wr.drew.cell? ⟨lb, lo + k, none⟩ = some (.int .i64 (x : Int))) := hlk
          clear hnds hnc hnd hli hbw hk5 htk hkl hx hxg hgd hlt2 hbn hxa hxD hxn
          go_wp2_with fail
          go_region_held3 (fun W' => W'.cell? ⟨w.heap.size, 0, none⟩ = some (.slice (some ⟨bn, on, none⟩) G.nodes.length nc) ∧ W'.cell? ⟨lb, lo + k, none⟩ = some (.int .i64 (x : Int)) ∧ W'.cell? ⟨bn, on + x * 5 + 3, none⟩ = some (.slice K kl.length kc)) (go_keep) (first | fail)
          go_wp2_with fail
          obtain ⟨wd, hwd⟩ : ∃ wd, wr.drew = wd := ⟨_, rfl⟩
          rw [hwd] at HGd HRd HLd ⊢
          clear hwd e0 hlk c3 hg hrw
          go_loopw [9, 11] (fun n j w4 => ∃ q : Nat, q ≤ kl.length ∧ n = .int .i64 (sF (kidN G) (kidN G x) q : Nat) ∧ j = .int .i64 (q : Int) ∧ w4 = wd) (fun _ j _ => kl.length - (intOf j).toNat)
          case atStart => exact ⟨0, Nat.zero_le _, by rw [sF_zero]; rfl, rfl, rfl⟩
          case round =>
            obtain ⟨q, hq, rfl, rfl, rfl⟩ := hrel
            by_cases hlt3 : q < kl.length
            · obtain ⟨b, o, rfl, hcq⟩ := HKc.out wr HGd.out q hlt3
              obtain ⟨z, hz⟩ : ∃ z : Nat, nth kl q = (z : Int) := ⟨(nth kl q).toNat, by have := (HKr.out _ (nth_mem hlt3)).1; omega⟩
              have hzn : z < G.nodes.length := by have := (HKr.out _ (nth_mem hlt3)).2; omega
              rw [hz] at hcq
              have hks : q < (kidN G x).length := by rw [HKN.out, List.length_map]; exact hlt3
              have hkq : (kidN G x)[q] = z := by
                have : (kidN G x)[q]? = some z := by rw [HKN.out, List.getElem?_map, List.getElem?_eq_getElem hlt3, ← nth_eq hlt3, hz]; simp
                exact (List.getElem?_eq_some_iff.1 this).2
              have hzk : z ∈ kidN G x := hkq ▸ List.getElem_mem hks
              have hrz := HRd.out.cell hzn
              rw [szF_mem (HOr.out z hzk)] at hrz
              have hsu := sF_succ (kidN G) hks
              rw [hkq] at hsu
              have hsq := sF_le (kidN G) (kidN G x) q
              have hsz := sizeA_le (HXa.out.inv hzk)
              obtain ⟨a0, ha0⟩ : ∃ a, sF (kidN G) (kidN G x) q = a := ⟨_, rfl⟩
              obtain ⟨sz, hs0⟩ : ∃ a, sizeA (kidN G) z = a := ⟨_, rfl⟩
              rw [ha0, hs0] at hsu
              rw [ha0] at hsq ⊢
              rw [hs0] at hsz hrz
              have HSu := Lib.hid hsu
              have HSum : Hid (∀ w, Calls Tryd.prog 60 #[.int .i64 (a0 : Int), .int .i64 (sz : Int)] w fun e w' => e = .returned (.int .i64 (sumN a0 sz : Nat)) ∧ w' = w) := fun w => rsum_any a0 sz w hsq hsz
              have hlt4 : (q : Int) < (kl.length : Int) := by omega
              have hzI : (z : Int) < (G.nodes.length : Int) := by omega
              have Hlt3 := Lib.hid hlt3
              have hmz : ∀ y : Int, y = q + 1 → kl.length - (intOf (.int .i64 y)).toNat < kl.length - (intOf (.int .i64 (q : Int))).toNat := by intro y hy; subst hy; have := Hlt3.out; simp only [intOf]; omega
              have HW : Hid (wrap64 ((q : Int) + 1) = q + 1) := wrap_nat1 q (by have := Hlt3.out; have := HKl.out; omega)
              clear hz hzn hks hkq hzk hsu hsq hsz ha0 hs0 hlt3 hq
              go_wp2_with (go_at_call 60; refine (HSum.out _).mono ?_; rintro e w' ⟨rfl, rfl⟩)
              first
                | exact ⟨⟨q + 1, Hlt3.out, by rw [HSu.out], by simp, by first | rfl | trivial⟩, hmz _ rfl⟩
                | exact ⟨⟨q + 1, Hlt3.out, by rw [HSu.out], congrArg (Value.int .i64) (HW.out.trans (by simp)), by first | rfl | trivial⟩, hmz _ HW.out⟩
            · obtain rfl : q = kl.length := by omega
              have hd2 : ¬ (kl.length : Int) < (kl.length : Int) := by omega
              have hse := sF_end HXa.out
              have hkl2 : (kidN G x).length = kl.length := by rw [HKN.out, List.length_map]
              rw [hkl2] at hse
              rw [hse]
              obtain ⟨sx, hsx⟩ : ∃ s, sizeA (kidN G) x = s := ⟨_, rfl⟩
              rw [hsx]
              have hlk := HLd.out
              have hrx := HRd.out.cell Hxn.out
              have hfx := HRd.out.frozen x
              have HU : Hid ((wr.setCell ⟨w2.heap.size, x, none⟩ (.int .i64 (sx : Int))).rowIs w2.heap.size 3 G.nodes.length fun y => .int .i64 (szF (kidN G) (D.take (k + 1)) y : Nat)) := by
                refine (HRd.out.set x _).congr fun y _ => ?_
                rw [HTk.out, szF_snoc, hsx]
                by_cases e : y = x <;> simp [e]
              have HG3 : Hid (w3.grownBy (wr.setCell ⟨w2.heap.size, x, none⟩ (.int .i64 (sx : Int))) (some w2.heap.size)) :=
                grown_trans HGd.out ⟨rfl, rfl, rfl, by simp, fun k _ hk => Below.heap_setCell wr ⟨w2.heap.size, x, none⟩ _ k (by intro e; exact hk (by simp [e]))⟩
              have hmz : ∀ y : Int, y = k + 1 → D.length - (intOf (.int .i64 y)).toNat < D.length - (intOf (.int .i64 (k : Int))).toNat := by intro y hy; subst hy; have := Hlt2.out; simp only [intOf]; omega
              have HW : Hid (wrap64 ((k : Int) + 1) = k + 1) := wrap_nat1 k (by have := Hlt2.out; have := HDl.out; omega)
              clear hq hlt3 hse hkl2 hsx
              go_wp2_with fail
              first
                | exact ⟨⟨k + 1, Hlt2.out, by simp, HG3, HU⟩, hmz _ rfl⟩
                | exact ⟨⟨k + 1, Hlt2.out, congrArg (Value.int .i64) (HW.out.trans (by simp)), HG3, HU⟩, hmz _ HW.out⟩
        · obtain rfl : k = D.length := by omega
          have hd2 : ¬ (D.length : Int) < (D.length : Int) := by omega
          have hrr := hrw.out.cell Hlt.out
          rw [List.take_length, szF_mem (HD.out.empty rfl)] at hrr
          have HE := Lib.hid (HCw.out wr hg.out).2.1
          have hrI : (r : Int) < (G.nodes.length : Int) := by have := Hlt.out; omega
          clear hk hlt2 hg hrw
          go_wp2_with fail
          go_ret2
          exact ⟨rfl, HE.out⟩
end Go.Proofs.YtdcbngimgpdjoaaDoor
