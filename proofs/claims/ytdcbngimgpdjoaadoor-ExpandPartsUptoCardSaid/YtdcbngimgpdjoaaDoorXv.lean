/- The reference's height (marginaliaref17). Conditions: the graph is right; no way from the root goes on for ever. -/
import Derived.Test.YtdcbngimgpdjoaaDoorXu
import Derived.Deep.RegionHeld3
namespace Go.Proofs.YtdcbngimgpdjoaaDoor
open Go.RowKit Go.Shelf Go.Deep
attribute [local go_sem] Oper.semAt_some
theorem Bel.deepAt {kids : Nat → List Nat} {n root : Nat} {D s : List Nat} (h : Bel kids n root D s) (i : Nat) : ∀ (hi : i < D.length), deepA kids D[i] ≤ i + 1 := by
  induction i using Nat.strongRecOn with
  | _ i ih =>
    intro hi
    rw [deepA_eq (h.acc _ (.inl (List.getElem_mem hi)))]
    refine foldl_deep _ 1 (i + 1) (fun c hc => ?_) (by omega)
    obtain ⟨y, hy, rfl⟩ := List.mem_map.1 hc
    obtain ⟨j, hj, e⟩ := List.mem_iff_getElem.1 (h.order i hi y hy)
    have hji : j < i := by rw [List.length_take] at hj; omega
    have h1 := ih j hji (by omega)
    rw [List.getElem_take] at e
    rw [e] at h1
    omega
theorem Bel.deepOf {kids : Nat → List Nat} {n root : Nat} {D s : List Nat} (h : Bel kids n root D s) {y : Nat} (hy : y ∈ D) : deepA kids y ≤ D.length := by
  obtain ⟨j, hj, e⟩ := List.mem_iff_getElem.1 hy
  have := h.deepAt j hj
  rw [e] at this
  omega
noncomputable def hmF (kids : Nat → List Nat) (ks : List Nat) (q : Nat) : Nat := ((ks.take q).map (deepA kids)).foldl max 0
theorem hmF_zero (kids : Nat → List Nat) (ks : List Nat) : hmF kids ks 0 = 0 := rfl
theorem hmF_succ (kids : Nat → List Nat) {ks : List Nat} {q : Nat} (h : q < ks.length) : hmF kids ks (q + 1) = max (hmF kids ks q) (deepA kids ks[q]) := by
  unfold hmF
  rw [List.take_succ_eq_append_getElem h, List.map_append, List.foldl_append]; rfl
theorem hmF_end {kids : Nat → List Nat} {x : Nat} (h : Acc (edge kids) x) : hmF kids (kids x) (kids x).length + 1 = deepA kids x := by
  rw [deepA_eq h]
  unfold hmF
  rw [List.take_length]
  exact (foldl_max _ 0).symm
theorem foldl_maxle : ∀ (l : List Nat) (a b : Nat), (∀ c ∈ l, c ≤ b) → a ≤ b → l.foldl max a ≤ b := by
  intro l
  induction l with
  | nil => intro a b _ h; exact h
  | cons c l ih =>
    intro a b hl ha
    rw [List.foldl_cons]
    exact ih _ b (fun x hx => hl x (List.mem_cons_of_mem _ hx)) (by have := hl c List.mem_cons_self; omega)
theorem hmF_le {kids : Nat → List Nat} {ks : List Nat} {b : Nat} (h : ∀ y ∈ ks, deepA kids y ≤ b) (q : Nat) : hmF kids ks q ≤ b := by
  refine foldl_maxle _ _ _ (fun c hc => ?_) (Nat.zero_le _)
  obtain ⟨y, hy, rfl⟩ := List.mem_map.1 hc
  exact h y (List.mem_of_mem_take hy)
theorem dpF_out {kids : Nat → List Nat} {R : List Nat} {k : Nat} (h : k ∉ R) : dpF kids R k = 0 := by simp [dpF, h]
set_option maxRecDepth 100000 in
set_option maxHeartbeats 4000000 in
theorem height_any (G : Gr) (v : Value) (r : Nat) (w : World) (hG : GrAt w w.heap.size G v) (hRG : RightG G) (hlt : r < G.nodes.length) (hacc : Acc (edge (kidN G)) r) :
    Calls Tryd.prog 62 #[v, .int .i64 (r : Int)] w fun e w' => e = .returned (.int .i64 (deepA (kidN G) r : Nat)) ∧ Below w.heap.size w w' := by
  have HGw : Hid (∀ W, Below w.heap.size w W → GrAt W W.heap.size G v) := fun W hW => (hG.below hW (Nat.le_refl _)).more hW.size
  obtain ⟨NA, nc, RA, rc, rfl, hN, hR⟩ := hG.ex
  obtain ⟨V, hV, hbV, hrow, hsz⟩ := box2 w (.slice NA G.nodes.length nc) (.slice RA G.roots.length rc) 25
  have v0 : V.cell? ⟨w.heap.size, 0, none⟩ = some (.slice NA G.nodes.length nc) := Lib.cell_of_heap hrow 0
  have v1 : V.cell? ⟨w.heap.size, 1, none⟩ = some (.slice RA G.roots.length rc) := Lib.cell_of_heap hrow 1
  have HG0 : Hid (∀ W, Below V.heap.size V W → W.cell? ⟨w.heap.size, 0, none⟩ = some (.slice NA G.nodes.length nc) ∧ W.cell? ⟨w.heap.size, 1, none⟩ = some (.slice RA G.roots.length rc) ∧ Below w.heap.size w W) := fun W h => by
    have hr := (h.block w.heap.size (by omega)).trans hrow
    exact ⟨Lib.cell_of_heap hr 0, Lib.cell_of_heap hr 1, below_then hbV h⟩
  have hnn := hRG.nodes
  have HBe : Hid (∀ W, Below w.heap.size w W → Calls Tryd.prog 59 #[.agg #[.slice NA G.nodes.length nc, .slice RA G.roots.length rc], .int .i64 (r : Int)] W fun e w' => ∃ A c D, e = .returned (.slice A D.length c) ∧ IntsAt w' w'.heap.size A (D.map Int.ofNat) ∧ Bel (kidN G) G.nodes.length r D [] ∧ Below W.heap.size W w' ∧ ∀ p, A = some p → W.heap.size ≤ p.block) := fun W hW => below_any G _ r W (HGw.out W hW) hRG hlt hacc
  have HNw : Hid (∀ W, Below w.heap.size w W → NdsAt W w.heap.size NA G.nodes) := fun W hW => hN.below hW (Nat.le_refl _)
  have hmake := fun W => run_make_row' (P := Tryd.prog) 23 3 (.int .i64 0) 8 rfl Tryd.infoIntZ rfl .i64 .i64 G.nodes.length (by omega) (by omega) W
  obtain ⟨M, hM, hbM, hrM, hsM⟩ := rowM V (.int .i64 0) G.nodes.length 3
  obtain ⟨gM0, gM1, _⟩ := HG0.out M hbM
  rw [hsz] at hrM
  have HbM := Lib.hid hbM
  have HrM := Lib.hid hrM
  have HsM : Hid (M.heap.size = w.heap.size + 2) := by show _ = _; omega
  have Hsz0 := Lib.hid hsz
  have HRG := Lib.hid hRG
  have Hlt := Lib.hid hlt
  have Hsz := Lib.hid hsz
  have HbV := Lib.hid hbV
  clear hsz hrow hG hN hR hbV hRG hlt hacc HGw hbM hrM hsM
  go_enter Tryd.func62, Tryd.ntmps62
  subst hV
  go_wp2_with fail
  go_at_call 59
  refine (HBe.out M (HG0.out M HbM.out).2.2).mono ?_
  rintro e w3 ⟨LA, lc, D, rfl, hI, hD, hb3, hf3⟩
  have hr3 : w3.rowIs (w.heap.size + 1) 3 G.nodes.length fun _ => .int .i64 0 := HrM.out.of_block (hb3.block _ (by have := HsM.out; omega))
  have HI := Lib.hid hI
  have HD := Lib.hid hD
  have Hf3 := Lib.hid hf3
  have Hb3 := Lib.hid (below_then (HG0.out M HbM.out).2.2 hb3)
  have Hs3 := Lib.hid hb3.size
  have Hr3 := Lib.hid hr3
  have HW3 := Lib.hid (HG0.out w3 (below_then HbM.out hb3))
  clear hI hD hb3 hf3 hr3
  go_wp2_with fail
  have HCw : Hid (∀ W, w3.grownBy W (some (w.heap.size + 1)) → W.cell? ⟨w.heap.size, 0, none⟩ = some (.slice NA G.nodes.length nc) ∧ Below w.heap.size w W ∧ NdsAt W w.heap.size NA G.nodes ∧ ∀ k, k < D.length → ∃ lb lo, LA = some ⟨lb, lo, none⟩ ∧ W.cell? ⟨lb, lo + k, none⟩ = some (.int .i64 (D.getD k 0 : Nat))) := fun W hW => by
    have h0 := HW3.out
    have h3 := Hs3.out
    have hM := HsM.out
    have hb : ∀ g, g < w3.heap.size → g ≠ w.heap.size + 1 → W.heap[g]? = w3.heap[g]? := fun g hg hne => hW.block g hg (by simpa using hne)
    have hbw : Below w.heap.size w W := ⟨hW.os.trans h0.2.2.os, hW.tape.trans h0.2.2.tape, hW.output.trans h0.2.2.output, Nat.le_trans h0.2.2.size hW.size, fun g hg => (hb g (by omega) (by omega)).trans (h0.2.2.block g hg)⟩
    refine ⟨(World.cell?_of_block (hb w.heap.size (by omega) (by omega))).trans h0.1, hbw, HNw.out W hbw, fun k hk => ?_⟩
    obtain ⟨lb, lo, hA, hlt3, hc⟩ := HI.out (by rw [List.length_map]; omega)
    have hf := Hf3.out _ hA
    simp only at hf
    refine ⟨lb, lo, hA, (World.cell?_of_block (hb lb hlt3 (by omega))).trans ((hc k (by rw [List.length_map]; exact hk)).trans ?_)⟩
    simp [nth, hk]
  have HDl : Hid (D.length ≤ 20000) := by have := HD.out.len; show _ ≤ _; omega
  have Hg0 : Hid (w3.grownBy w3 (some (w.heap.size + 1))) := grown_refl _ _
  have Hr0 : Hid (w3.rowIs (w.heap.size + 1) 3 G.nodes.length fun y => .int .i64 (dpF (kidN G) (D.take 0) y : Nat)) := Hr3.out.congr fun y _ => by simp [dpF_nil]
  clear gM0 gM1 hmake hM v0 v1 HI Hf3 HBe HNw Hr3
  go_loopw [7] (fun i wr => ∃ k : Nat, k ≤ D.length ∧ i = .int .i64 (k : Int) ∧ Hid (w3.grownBy wr (some (w.heap.size + 1))) ∧ Hid (wr.rowIs (w.heap.size + 1) 3 G.nodes.length fun y => .int .i64 (dpF (kidN G) (D.take k) y : Nat))) (fun i _ => D.length - (intOf i).toNat)
  case atStart => exact ⟨0, Nat.zero_le _, rfl, Hg0, Hr0⟩
  case round =>
    obtain ⟨k, hk, rfl, hg, hrw⟩ := hrel
    by_cases hlt2 : k < D.length
    · obtain ⟨e0, hbw, hnds, hli⟩ := HCw.out wr hg.out
      obtain ⟨lb, lo, rfl, hlk⟩ := hli k hlt2
      obtain ⟨x, hx⟩ : ∃ x, D.getD k 0 = x := ⟨_, rfl⟩
      have hxg : D[k] = x := by simpa [hlt2] using hx
      rw [hx] at hlk
      have hxD : x ∈ D := hxg ▸ List.getElem_mem hlt2
      have hxn : x < G.nodes.length := HD.out.lt x (.inl hxD)
      have hxa : Acc (edge (kidN G)) x := HD.out.acc x (.inl hxD)
      have htk : D.take (k + 1) = D.take k ++ [x] := by rw [List.take_succ_eq_append_getElem hlt2, hxg]
      have hxo : x ∉ D.take k := by
        have h1 := HD.out.nd.sublist (List.take_sublist (k + 1) D)
        rw [htk, List.nodup_append] at h1
        exact fun h => h1.2.2 x h x (by simp) rfl
      have HTk := Lib.hid htk
      have HXa := Lib.hid hxa
      have HXo := Lib.hid hxo
      have HOr : Hid (∀ y ∈ kidN G x, y ∈ D.take k) := fun y hy => HD.out.order k hlt2 y (by rw [hxg]; exact hy)
      have hlt' : (k : Int) < (D.length : Int) := by omega
      have hxI : (x : Int) < (G.nodes.length : Int) := by omega
      obtain ⟨bn, on, rfl, hbn, hnc⟩ := hnds (by omega)
      obtain ⟨K, kc, hnd⟩ := hnc x hxn
      obtain ⟨kl, hkl⟩ : ∃ l, (nd G.nodes x).kids = l := ⟨_, rfl⟩
      have HKN : Hid (kidN G x = kl.map Int.toNat) := by rw [← hkl]; rfl
      have HKr : Hid (∀ z ∈ kl, 0 ≤ z ∧ z < G.nodes.length) := by rw [← hkl]; exact HRG.out.kids x hxn
      have HKl : Hid (kl.length ≤ 20000) := kids_len HRG.out hxn hkl
      have c3 := hnd.c3
      have hk5 := hnd.kids
      rw [hkl] at c3 hk5
      have HKc : Hid (∀ W, w3.grownBy W (some (w.heap.size + 1)) → ∀ q, q < kl.length → ∃ b o, K = some ⟨b, o, none⟩ ∧ W.cell? ⟨b, o + q, none⟩ = some (.int .i64 (nth kl q))) := fun W hW q hq => by
        obtain ⟨b, o, hA, hb, hc⟩ := hk5 (by omega)
        have h1 := (HCw.out W hW).2.1
        refine ⟨b, o, hA, (World.cell?_of_block ((h1.block b hb).trans (hbw.block b hb).symm)).trans (hc q hq)⟩
      have HLc : Hid (∀ W, w3.grownBy W (some (w.heap.size + 1)) → W.cell? ⟨lb, lo + k, none⟩ = some (.int .i64 (x : Int))) := fun W hW => by
        obtain ⟨lb', lo', e, h1⟩ := (HCw.out W hW).2.2.2 k hlt2
        cases e
        rw [h1, hx]
      have Hlt2 := Lib.hid hlt2
      have Hxn := Lib.hid hxn
      have hgd : w3.grownBy wr.drew (some (w.heap.size + 1)) := ⟨hg.out.os, hg.out.tape, hg.out.output, hg.out.size, hg.out.block⟩
      have HGd := Lib.hid hgd
      have HRd : Hid (wr.drew.rowIs (w.heap.size + 1) 3 G.nodes.length fun y => .int .i64 ((if y = x then hmF (kidN G) (kidN G x) 0 else dpF (kidN G) (D.take k) y : Nat) : Int)) := (hrw.out.of_block rfl).congr fun y _ => by
        by_cases e : y = x
        · subst e; rw [if_pos rfl, hmF_zero, dpF_out hxo]
        · rw [if_neg e]
      clear hnds hnc hnd hli hbw hk5 htk hkl hx hxg hgd hlt2 hbn hxa hxD hxn hxo
      go_wp2_with fail
      go_region_held3 (fun W' => W'.cell? ⟨w.heap.size, 0, none⟩ = some (.slice (some ⟨bn, on, none⟩) G.nodes.length nc) ∧ W'.cell? ⟨lb, lo + k, none⟩ = some (.int .i64 (x : Int)) ∧ W'.cell? ⟨bn, on + x * 5 + 3, none⟩ = some (.slice K kl.length kc)) (go_keep) (first | fail)
      go_wp2_with fail
      obtain ⟨wd, hwd⟩ : ∃ wd, wr.drew = wd := ⟨_, rfl⟩
      rw [hwd] at HGd HRd ⊢
      clear hwd e0 hlk c3 hg hrw
      go_loopw [9] (fun j w4 => ∃ q : Nat, q ≤ kl.length ∧ j = .int .i64 (q : Int) ∧ Hid (w3.grownBy w4 (some (w.heap.size + 1))) ∧ Hid (w4.rowIs (w.heap.size + 1) 3 G.nodes.length fun y => .int .i64 ((if y = x then hmF (kidN G) (kidN G x) q else dpF (kidN G) (D.take k) y : Nat) : Int))) (fun j _ => kl.length - (intOf j).toNat)
      case atStart => exact ⟨0, Nat.zero_le _, rfl, HGd, HRd⟩
      case round =>
        obtain ⟨q, hq, rfl, hg2, hrw2⟩ := hrel
        have hlk := HLc.out wr hg2.out
        have hfx := hrw2.out.frozen x
        have hrx := hrw2.out.cell Hxn.out
        rw [if_pos rfl] at hrx
        by_cases hlt3 : q < kl.length
        · obtain ⟨b, o, rfl, hcq⟩ := HKc.out wr hg2.out q hlt3
          obtain ⟨z, hz⟩ : ∃ z : Nat, nth kl q = (z : Int) := ⟨(nth kl q).toNat, by have := (HKr.out _ (nth_mem hlt3)).1; omega⟩
          have hzn : z < G.nodes.length := by have := (HKr.out _ (nth_mem hlt3)).2; omega
          rw [hz] at hcq
          have hks : q < (kidN G x).length := by rw [HKN.out, List.length_map]; exact hlt3
          have hkq : (kidN G x)[q] = z := by
            have : (kidN G x)[q]? = some z := by rw [HKN.out, List.getElem?_map, List.getElem?_eq_getElem hlt3, ← nth_eq hlt3, hz]; simp
            exact (List.getElem?_eq_some_iff.1 this).2
          have hzk : z ∈ kidN G x := hkq ▸ List.getElem_mem hks
          have hzx : z ≠ x := fun e => HXo.out (e ▸ HOr.out z hzk)
          have hrz := hrw2.out.cell hzn
          rw [if_neg hzx, dpF_mem (HOr.out z hzk)] at hrz
          have hsu := hmF_succ (kidN G) hks
          rw [hkq] at hsu
          obtain ⟨m0, hm0⟩ : ∃ a, hmF (kidN G) (kidN G x) q = a := ⟨_, rfl⟩
          obtain ⟨dz, hd0⟩ : ∃ a, deepA (kidN G) z = a := ⟨_, rfl⟩
          rw [hm0, hd0] at hsu
          rw [hm0] at hrx
          rw [hd0] at hrz
          have hlt4 : (q : Int) < (kl.length : Int) := by omega
          have hzI : (z : Int) < (G.nodes.length : Int) := by omega
          have hq0 : (0 : Int) ≤ (q : Int) := Int.natCast_nonneg q
          have hk0 : (0 : Int) ≤ (k : Int) := Int.natCast_nonneg k
          have hx0 : (0 : Int) ≤ (x : Int) := Int.natCast_nonneg x
          have hz0 : (0 : Int) ≤ (z : Int) := Int.natCast_nonneg z
          have Hlt3 := Lib.hid hlt3
          have Hzx := Lib.hid hzx
          have hmz : ∀ y : Int, y = q + 1 → kl.length - (intOf (.int .i64 y)).toNat < kl.length - (intOf (.int .i64 (q : Int))).toNat := by intro y hy; subst hy; have := Hlt3.out; simp only [intOf]; omega
          have HW : Hid (wrap64 ((q : Int) + 1) = q + 1) := wrap_nat1 q (by have := Hlt3.out; have := HKl.out; omega)
          have HG1 : Hid (w3.grownBy wr.drew (some (w.heap.size + 1))) := ⟨hg2.out.os, hg2.out.tape, hg2.out.output, hg2.out.size, hg2.out.block⟩
          by_cases hmd : m0 < dz
          · have hmI : (m0 : Int) < (dz : Int) := by omega
            have hmN : decide (m0 < dz) = true := decide_eq_true hmd
            have HU : Hid ((wr.drew.drew.setCell ⟨w.heap.size + 1, x, none⟩ (.int .i64 (dz : Int))).rowIs (w.heap.size + 1) 3 G.nodes.length fun y => .int .i64 ((if y = x then hmF (kidN G) (kidN G x) (q + 1) else dpF (kidN G) (D.take k) y : Nat) : Int)) := by
              refine ((show wr.drew.drew.rowIs (w.heap.size + 1) 3 G.nodes.length _ from hrw2.out.of_block rfl).set x _).congr fun y _ => ?_
              by_cases e : y = x
              · subst e; simp only [if_true]; rw [hsu, Nat.max_eq_right (by omega)]
              · simp only [if_neg e]
            have HG3 : Hid (w3.grownBy (wr.drew.drew.setCell ⟨w.heap.size + 1, x, none⟩ (.int .i64 (dz : Int))) (some (w.heap.size + 1))) :=
              grown_trans (b := wr.drew.drew) ⟨hg2.out.os, hg2.out.tape, hg2.out.output, hg2.out.size, hg2.out.block⟩ ⟨rfl, rfl, rfl, by simp, fun k _ hk => Below.heap_setCell wr.drew.drew ⟨w.heap.size + 1, x, none⟩ _ k (by intro e; exact hk (by simp [e]))⟩
            have HQ : Hid ((wr.drew.drew.setCell ⟨w.heap.size + 1, x, none⟩ (.int .i64 (dz : Int))).cell? ⟨b, o + q, none⟩ = some (.int .i64 (z : Int)) ∧ (wr.drew.drew.setCell ⟨w.heap.size + 1, x, none⟩ (.int .i64 (dz : Int))).cell? ⟨w.heap.size + 1, z, none⟩ = some (.int .i64 (dz : Int)) ∧ (wr.drew.drew.setCell ⟨w.heap.size + 1, x, none⟩ (.int .i64 (dz : Int))).cell? ⟨lb, lo + k, none⟩ = some (.int .i64 (x : Int))) := by
              refine ⟨?_, ?_, HLc.out _ HG3.out⟩
              · obtain ⟨b', o', e, h1⟩ := HKc.out _ HG3.out q hlt3
                cases e
                rw [h1, hz]
              · have h1 := HU.out.cell hzn
                rw [if_neg hzx, dpF_mem (HOr.out z hzk), hd0] at h1
                exact h1
            clear hz hzn hks hkq hzk hsu hm0 hd0 hlt3 hq hmd hg2 hrw2 hzx
            go_wp2_with fail
            go_region_held3 (fun W' => W'.cell? ⟨b, o + q, none⟩ = some (.int .i64 (z : Int)) ∧ W'.cell? ⟨w.heap.size + 1, z, none⟩ = some (.int .i64 (dz : Int)) ∧ W'.cell? ⟨lb, lo + k, none⟩ = some (.int .i64 (x : Int)) ∧ W'.cell? ⟨w.heap.size + 1, x, none⟩ = some (.int .i64 (m0 : Int))) (go_keep) (first | fail)
            go_wp2_with fail
            go_region_held3 (fun W' => W'.cell? ⟨b, o + q, none⟩ = some (.int .i64 (z : Int)) ∧ W'.cell? ⟨w.heap.size + 1, z, none⟩ = some (.int .i64 (dz : Int)) ∧ W'.cell? ⟨lb, lo + k, none⟩ = some (.int .i64 (x : Int))) (first | exact HQ.out | go_keep) (first | fail)
            go_wp2_with fail
            first
              | exact ⟨⟨q + 1, Hlt3.out, by simp, HG3, HU⟩, hmz _ rfl⟩
              | exact ⟨⟨q + 1, Hlt3.out, congrArg (Value.int .i64) (HW.out.trans (by simp)), HG3, HU⟩, hmz _ HW.out⟩
          · have hmI : ¬ (m0 : Int) < (dz : Int) := by omega
            have hmN : decide (m0 < dz) = false := decide_eq_false hmd
            have HU : Hid (wr.drew.rowIs (w.heap.size + 1) 3 G.nodes.length fun y => .int .i64 ((if y = x then hmF (kidN G) (kidN G x) (q + 1) else dpF (kidN G) (D.take k) y : Nat) : Int)) := by
              refine (hrw2.out.of_block rfl).congr fun y _ => ?_
              by_cases e : y = x
              · subst e; simp only [if_true]; rw [hsu, hm0, Nat.max_eq_left (by omega)]
              · simp only [if_neg e]
            clear hz hzn hks hkq hzk hsu hm0 hd0 hlt3 hq hmd hg2 hrw2 hzx
            go_wp2_with fail
            go_region_held3 (fun W' => W'.cell? ⟨b, o + q, none⟩ = some (.int .i64 (z : Int)) ∧ W'.cell? ⟨w.heap.size + 1, z, none⟩ = some (.int .i64 (dz : Int)) ∧ W'.cell? ⟨lb, lo + k, none⟩ = some (.int .i64 (x : Int)) ∧ W'.cell? ⟨w.heap.size + 1, x, none⟩ = some (.int .i64 (m0 : Int))) (go_keep) (first | fail)
            go_wp2_with fail
            first
              | exact ⟨⟨q + 1, Hlt3.out, by simp, HG1, HU⟩, hmz _ rfl⟩
              | exact ⟨⟨q + 1, Hlt3.out, congrArg (Value.int .i64) (HW.out.trans (by simp)), HG1, HU⟩, hmz _ HW.out⟩
        · obtain rfl : q = kl.length := by omega
          have hd2 : ¬ (kl.length : Int) < (kl.length : Int) := by omega
          have hse := hmF_end HXa.out
          have hkl2 : (kidN G x).length = kl.length := by rw [HKN.out, List.length_map]
          rw [hkl2] at hse
          obtain ⟨m0, hm0⟩ : ∃ s, hmF (kidN G) (kidN G x) kl.length = s := ⟨_, rfl⟩
          rw [hm0] at hse hrx
          have hml : m0 ≤ 20000 := by
            rw [← hm0]
            exact Nat.le_trans (hmF_le (fun y hy => HD.out.deepOf (List.mem_of_mem_take (HOr.out y hy))) _) HDl.out
          have hw1 : wrap64 ((m0 : Int) + 1) = m0 + 1 := wrap_nat1 m0 (by omega)
          have HU : Hid ((wr.setCell ⟨w.heap.size + 1, x, none⟩ (.int .i64 ((m0 : Int) + 1))).rowIs (w.heap.size + 1) 3 G.nodes.length fun y => .int .i64 (dpF (kidN G) (D.take (k + 1)) y : Nat)) := by
            refine (hrw2.out.set x _).congr fun y _ => ?_
            rw [HTk.out, dpF_snoc]
            by_cases e : y = x
            · subst e; simp only [if_true]; rw [← hse]; simp
            · simp only [if_neg e]
          have HG3 : Hid (w3.grownBy (wr.setCell ⟨w.heap.size + 1, x, none⟩ (.int .i64 ((m0 : Int) + 1))) (some (w.heap.size + 1))) :=
            grown_trans hg2.out ⟨rfl, rfl, rfl, by simp, fun k _ hk => Below.heap_setCell wr ⟨w.heap.size + 1, x, none⟩ _ k (by intro e; exact hk (by simp [e]))⟩
          have hmz : ∀ y : Int, y = k + 1 → D.length - (intOf (.int .i64 y)).toNat < D.length - (intOf (.int .i64 (k : Int))).toNat := by intro y hy; subst hy; have := Hlt2.out; simp only [intOf]; omega
          have HW : Hid (wrap64 ((k : Int) + 1) = k + 1) := wrap_nat1 k (by have := Hlt2.out; have := HDl.out; omega)
          clear hq hlt3 hse hkl2 hm0 hg2 hrw2 hml
          go_wp2_with fail
          first
            | exact ⟨⟨k + 1, Hlt2.out, by simp, HG3, HU⟩, hmz _ rfl⟩
            | exact ⟨⟨k + 1, Hlt2.out, congrArg (Value.int .i64) (HW.out.trans (by simp)), HG3, HU⟩, hmz _ HW.out⟩
    · obtain rfl : k = D.length := by omega
      have hd2 : ¬ (D.length : Int) < (D.length : Int) := by omega
      have hrr := hrw.out.cell Hlt.out
      rw [List.take_length, dpF_mem (HD.out.empty rfl)] at hrr
      have HE := Lib.hid (HCw.out wr hg.out).2.1
      have hrI : (r : Int) < (G.nodes.length : Int) := by have := Hlt.out; omega
      clear hk hlt2 hg hrw
      go_wp2_with fail
      go_ret
      exact ⟨rfl, HE.out⟩
end Go.Proofs.YtdcbngimgpdjoaaDoor
