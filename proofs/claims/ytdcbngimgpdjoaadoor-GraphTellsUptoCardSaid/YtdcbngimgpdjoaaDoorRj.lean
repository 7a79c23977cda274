/- The reference's Uses (marginaliaref17). Conditions: as May's. -/
import Derived.Test.YtdcbngimgpdjoaaDoorRi
import Derived.Deep.RegionHeld3
namespace Go.Proofs.YtdcbngimgpdjoaaDoor
open Go.RowKit Go.Shelf Go.Deep
attribute [local go_sem] Oper.semAt_some
set_option maxRecDepth 100000 in
set_option maxHeartbeats 2000000 in
theorem RUses_any (G : Gr) (v : Value) (root : Int) (w : World) (hG : GrAt w w.heap.size G v) (hok : G.okR) :
    Calls Tryd.prog 26 #[v, .int .i64 root] w fun e w' => ∃ A c, e = .returned (.slice A (usesL G root).length c) ∧ IntsAt w' w'.heap.size A ((usesL G root).map Int.ofNat) ∧ (usesL G root).length ≤ c ∧ Below w.heap.size w w' := by
  have hM : Hid (∀ W, Below w.heap.size w W → Calls Tryd.prog 27 #[v, .int .i64 root] W fun r w' => r = .returned (.bool (isB G root)) ∧ Below W.heap.size W w') := fun W hW => RMay_any G v root W ((hG.below hW (Nat.le_refl _)).more hW.size) hok
  have hRr : Hid (∀ W, Below w.heap.size w W → Calls Tryd.prog 22 #[v, .int .i64 root] W fun e w' => ∃ A c, e = .returned (.slice A (reachL G root).length c) ∧ IntsAt w' w'.heap.size A ((reachL G root).map Int.ofNat) ∧ (reachL G root).length ≤ c ∧ Below W.heap.size W w' ∧ ∀ p, A = some p → W.heap.size ≤ p.block) := fun W hW => RReach_any G v root W ((hG.below hW (Nat.le_refl _)).more hW.size) hok
  have hr := isB_cases G root
  obtain ⟨NA, nc, RA, rc, rfl, hN, hR⟩ := hG.ex
  obtain ⟨V, hV, hbV, hrow, hsz⟩ := box2 w (.slice NA G.nodes.length nc) (.slice RA G.roots.length rc) 25
  have v0 : V.cell? ⟨w.heap.size, 0, none⟩ = some (.slice NA G.nodes.length nc) := Lib.cell_of_heap hrow 0
  have v1 : V.cell? ⟨w.heap.size, 1, none⟩ = some (.slice RA G.roots.length rc) := Lib.cell_of_heap hrow 1
  have HM := Lib.hid (hM.out V hbV)
  clear hM
  rcases hr with hr | ⟨hr, r, rfl, hlt, hRG⟩
  · rw [hr] at HM
    have HE : Hid (usesL G root = []) := by show _ = _; rw [usesL, hr]; rfl
    rw [HE.out]
    have HbV := Lib.hid hbV
    clear hsz hrow hG hN hR hok hr hbV hRr
    go_enter Tryd.func26, Tryd.ntmps26
    go_wp2_with (go_at_call 27; refine HM.out.mono ?_; rintro e w' ⟨rfl, hb⟩)
    go_ret
    exact ⟨none, 0, rfl, fun h => by simp at h, Nat.le_refl _, below_then HbV.out hb⟩
  · rw [hr] at HM
    have HL : Hid (usesL G r = (List.range G.nodes.length).map (usesF G r (metL G r))) := by show _ = _; rw [usesL, hr]; simp
    rw [HL.out]
    have HLr : Hid (reachL G r = metL G r) := by show _ = _; rw [reachL, hr]; simp
    rw [HLr.out] at hRr
    have hnn := hRG.nodes
    have hmet := hRG.met hlt
    have HG1 : Hid (∀ W, Below V.heap.size V W → W.cell? ⟨w.heap.size, 0, none⟩ = some (.slice NA G.nodes.length nc) ∧ W.cell? ⟨w.heap.size, 1, none⟩ = some (.slice RA G.roots.length rc) ∧ Below w.heap.size w W ∧ NdsAt W w.heap.size NA G.nodes) := fun W h => by
      have hr := (h.block w.heap.size (by omega)).trans hrow
      exact ⟨Lib.cell_of_heap hr 0, Lib.cell_of_heap hr 1, below_then hbV h, hN.below (below_then hbV h) (Nat.le_refl _)⟩
    have HRG := Lib.hid hRG
    have Hmet := Lib.hid hmet
    have Hlt := Lib.hid hlt
    have Hsz := Lib.hid hsz
    clear hsz hrow hG hN hR hok hr hbV hRG hmet
    go_enter Tryd.func26, Tryd.ntmps26
    go_wp2_with (first
      | (go_at_call 27; refine HM.out.mono ?_; rintro e w1 ⟨rfl, hb⟩
         have hmake := run_make_row' (P := Tryd.prog) 23 3 (.int .i64 0) 8 rfl Tryd.infoIntZ rfl .i64 .i64 G.nodes.length (by omega) (by omega) w1
         obtain ⟨g0, g1, _, _⟩ := HG1.out w1 hb
         obtain ⟨M, hM, hbM, hrM, hsM⟩ := rowM w1 (.int .i64 0) G.nodes.length 3
         rw [hM] at hmake
         obtain ⟨gM0, gM1, _, _⟩ := HG1.out M (below_then hb hbM)
         have HbM := Lib.hid (below_then hb hbM)
         have HrM := Lib.hid hrM
         have HsM := Lib.hid hsM
         have Hb := Lib.hid hb
         clear hbM hrM hsM hb)
      | (go_at_call 22; refine (hRr.out M (HG1.out M HbM.out).2.2.1).mono ?_; rintro e w3 ⟨LA, lc, rfl, hI, hc, hb3, hf3⟩
         obtain ⟨g2, g3, _, _⟩ := HG1.out w3 (below_then HbM.out hb3)
         have hr3 : w3.rowIs w1.heap.size 3 G.nodes.length fun _ => .int .i64 0 := HrM.out.of_block (hb3.block _ (by have := HsM.out; omega))
         have x0 := hr3.cell Hlt.out
         have x1 := hr3.frozen r
         have HI := Lib.hid hI
         have Hf3 := Lib.hid hf3
         have Hb3 := Lib.hid (below_then HbM.out hb3)
         have Hs3 := Lib.hid hb3.size
         have Hr3 := Lib.hid hr3
         clear hI hc hb3 hf3 hr3))
    have hDg : w3.grownBy (w3.setCell ⟨w1.heap.size, r, none⟩ (.int .i64 1)) (some w1.heap.size) := ⟨rfl, rfl, rfl, by simp, fun k _ hk => Below.heap_setCell w3 ⟨w1.heap.size, r, none⟩ _ k (by intro e; exact hk (by simp [e]))⟩
    have hDr : (w3.setCell ⟨w1.heap.size, r, none⟩ (.int .i64 1)).rowIs w1.heap.size 3 G.nodes.length fun k => .int .i64 (usesF G r [] k : Nat) := by
      refine (Hr3.out.set r (.int .i64 1)).congr fun k _ => ?_
      by_cases e : k = r <;> simp [usesF, usedBy, e]
    obtain ⟨L, hL⟩ : ∃ L, metL G r = L := ⟨_, rfl⟩
    have hmn := Hmet.out.nodup
    have hml := Hmet.out.lt
    rw [hL] at HI hmn hml
    have HLm : Hid (L.Nodup ∧ (∀ x ∈ L, x < G.nodes.length) ∧ L.length ≤ 20000) := ⟨hmn, hml, by have := nodup_short _ _ hmn hml; omega⟩
    have HCw : Hid (∀ W, w3.grownBy W (some w1.heap.size) → W.cell? ⟨w.heap.size, 0, none⟩ = some (.slice NA G.nodes.length nc) ∧ W.cell? ⟨w.heap.size, 1, none⟩ = some (.slice RA G.roots.length rc) ∧ Below w.heap.size w W ∧ NdsAt W w.heap.size NA G.nodes ∧ ∀ k, k < L.length → ∃ lb lo, LA = some ⟨lb, lo, none⟩ ∧ W.cell? ⟨lb, lo + k, none⟩ = some (.int .i64 (L.getD k 0 : Nat))) := fun W hW => by
      have h0 := HG1.out w3 Hb3.out
      have hV1 := Hb.out.size
      have hVz := Hsz.out
      have h3 := Hs3.out
      have hM := HsM.out
      have hb : ∀ g, g < w3.heap.size → g ≠ w1.heap.size → W.heap[g]? = w3.heap[g]? := fun g hg hne => hW.block g hg (by simpa using hne)
      have hbw : Below w.heap.size w W := ⟨hW.os.trans h0.2.2.1.os, hW.tape.trans h0.2.2.1.tape, hW.output.trans h0.2.2.1.output, Nat.le_trans h0.2.2.1.size hW.size, fun g hg => (hb g (by omega) (by omega)).trans (h0.2.2.1.block g hg)⟩
      have hbw3 : Below w.heap.size w3 W := ⟨hW.os, hW.tape, hW.output, hW.size, fun g hg => hb g (by omega) (by omega)⟩
      refine ⟨(World.cell?_of_block (hb w.heap.size (by omega) (by omega))).trans h0.1, (World.cell?_of_block (hb w.heap.size (by omega) (by omega))).trans h0.2.1, hbw, h0.2.2.2.below hbw3 (Nat.le_refl _), fun k hk => ?_⟩
      obtain ⟨lb, lo, hA, hlt3, hc⟩ := HI.out (by rw [List.length_map]; omega)
      have hf := Hf3.out _ hA
      simp only at hf
      refine ⟨lb, lo, hA, (World.cell?_of_block (hb lb hlt3 (by omega))).trans ((hc k (by rw [List.length_map]; exact hk)).trans ?_)⟩
      simp [nth, hk]
    have HLe := Lib.hid hL
    rw [hL]
    obtain ⟨W0, hW0⟩ : ∃ W0, w3.setCell ⟨w1.heap.size, r, none⟩ (.int .i64 1) = W0 := ⟨_, rfl⟩
    rw [hW0] at hDg hDr ⊢
    have HDg := Lib.hid hDg
    have HDr := Lib.hid hDr
    have Hfin : Hid (w.heap.size ≤ w1.heap.size ∧ w1.heap.size < w3.heap.size) := ⟨by have := Hb.out.size; have := Hsz.out; omega, by have := Hs3.out; have := HsM.out; omega⟩
    clear hDg hDr hW0 x0 x1 g0 g1 g2 g3 gM0 gM1 hmake hM hmn hml v0 v1 hV hRr hL HI Hf3
    go_loopw [7] (fun i wr => ∃ k : Nat, k ≤ L.length ∧ i = .int .i64 (k : Int) ∧ Hid (w3.grownBy wr (some w1.heap.size)) ∧ Hid (wr.rowIs w1.heap.size 3 G.nodes.length fun y => .int .i64 (usesF G r (L.take k) y : Nat))) (fun i _ => L.length - (intOf i).toNat)
    case atStart => exact ⟨0, Nat.zero_le _, rfl, HDg, HDr⟩
    case round =>
      obtain ⟨k, hk, rfl, hg, hrw⟩ := hrel
      by_cases hlt2 : k < L.length
      · obtain ⟨e0, e1, hbw, hnds, hli⟩ := HCw.out wr hg.out
        obtain ⟨lb, lo, rfl, hlk⟩ := hli k hlt2
        obtain ⟨x, hx⟩ : ∃ x, L.getD k 0 = x := ⟨_, rfl⟩
        have hxg : L[k] = x := by simpa [hlt2] using hx
        rw [hx] at hlk
        have hxn : x < G.nodes.length := HLm.out.2.1 x (hxg ▸ List.getElem_mem hlt2)
        have htk : L.take (k + 1) = L.take k ++ [x] := by rw [List.take_succ_eq_append_getElem hlt2, hxg]
        have HTk := Lib.hid htk
        have hlt' : (k : Int) < (L.length : Int) := by omega
        obtain ⟨bn, on, rfl, hbn, hnc⟩ := hnds (by omega)
        obtain ⟨K, kc, hnd⟩ := hnc x hxn
        obtain ⟨kl, hkl⟩ : ∃ l, (nd G.nodes x).kids = l := ⟨_, rfl⟩
        have HKN : Hid (kidN G x = kl.map Int.toNat) := by rw [← hkl]; rfl
        have HKr : Hid (∀ z ∈ kl, 0 ≤ z ∧ z < G.nodes.length) := by rw [← hkl]; exact HRG.out.kids x hxn
        have HKl : Hid (kl.length ≤ 20000) := by
          have h1 := restK_all (kids := kidN G) [x] [] (by simp) (by simpa using hxn)
          rw [restK_sum G _ (Nat.le_refl _), List.take_length] at h1
          have := HRG.out.sum
          simp [kidN, hkl] at h1
          show _ ≤ _; omega
        have c3 := hnd.c3
        have hk5 := hnd.kids
        rw [hkl] at c3 hk5
        have HKc : Hid (∀ W, w3.grownBy W (some w1.heap.size) → ∀ q, q < kl.length → ∃ b o, K = some ⟨b, o, none⟩ ∧ W.cell? ⟨b, o + q, none⟩ = some (.int .i64 (nth kl q))) := fun W hW q hq => by
          obtain ⟨b, o, hA, hb, hc⟩ := hk5 (by omega)
          have h1 := (HCw.out W hW).2.2.1
          refine ⟨b, o, hA, (World.cell?_of_block ((h1.block b hb).trans (hbw.block b hb).symm)).trans (hc q hq)⟩
        have HBd : Hid (∀ y, usesF G r (L.take k) y + (kidN G x).count y ≤ 20001) := fun y => by
          have h1 := HRG.out.uses (l := L.take (k + 1)) (List.Pairwise.sublist (List.take_sublist _ _) HLm.out.1) (fun z hz => HLm.out.2.1 z (List.mem_of_mem_take hz)) r y
          rw [htk] at h1
          unfold usesF at h1 ⊢
          rw [usedBy_snoc] at h1
          omega
        have Hlt2 := Lib.hid hlt2
        have hgd : w3.grownBy wr.drew (some w1.heap.size) := ⟨hg.out.os, hg.out.tape, hg.out.output, hg.out.size, hg.out.block⟩
        have HGd := Lib.hid hgd
        have HRd : Hid (wr.drew.rowIs w1.heap.size 3 G.nodes.length fun y => .int .i64 (usesF G r (L.take k) y + ((kl.take 0).map Int.toNat).count y : Nat)) := (hrw.out.of_block rfl).congr fun y _ => by simp
        clear hnds hnc hnd hli hbw hk5 htk hkl hx hxg hgd hlt2 hbn
        go_wp2_with fail
        go_region_held3 (fun W' => W'.cell? ⟨w.heap.size, 0, none⟩ = some (.slice (some ⟨bn, on, none⟩) G.nodes.length nc) ∧ W'.cell? ⟨lb, lo + k, none⟩ = some (.int .i64 (x : Int)) ∧ W'.cell? ⟨bn, on + x * 5 + 3, none⟩ = some (.slice K kl.length kc)) (go_keep) (first | fail)
        go_wp2_with fail
        obtain ⟨wd, hwd⟩ : ∃ wd, wr.drew = wd := ⟨_, rfl⟩
        rw [hwd] at HGd HRd ⊢
        clear hwd e0 e1 hlk c3 hg hrw
        go_loopw [9] (fun j w2 => ∃ q : Nat, q ≤ kl.length ∧ j = .int .i64 (q : Int) ∧ Hid (w3.grownBy w2 (some w1.heap.size)) ∧ Hid (w2.rowIs w1.heap.size 3 G.nodes.length fun y => .int .i64 (usesF G r (L.take k) y + ((kl.take q).map Int.toNat).count y : Nat))) (fun j _ => kl.length - (intOf j).toNat)
        case atStart => exact ⟨0, Nat.zero_le _, rfl, HGd, HRd⟩
        case round =>
          obtain ⟨q, hq, rfl, hg2, hrw2⟩ := hrel
          by_cases hlt3 : q < kl.length
          · obtain ⟨b, o, rfl, hcq⟩ := HKc.out wr hg2.out q hlt3
            obtain ⟨z, hz⟩ : ∃ z : Nat, nth kl q = (z : Int) := ⟨(nth kl q).toNat, by have := (HKr.out _ (nth_mem hlt3)).1; omega⟩
            have hzn : z < G.nodes.length := by have := (HKr.out _ (nth_mem hlt3)).2; omega
            rw [hz] at hcq
            have hrz := hrw2.out.cell hzn
            have hfz := hrw2.out.frozen z
            have hlt4 : (q : Int) < (kl.length : Int) := by omega
            have htq : (kl.take (q + 1)).map Int.toNat = (kl.take q).map Int.toNat ++ [z] := by rw [take_nth hlt3, hz]; simp
            obtain ⟨F, hF⟩ : ∃ F, usesF G r (L.take k) z + ((kl.take q).map Int.toNat).count z = F := ⟨_, rfl⟩
            have hFl : F ≤ 20001 := by
              have h1 := HBd.out z
              have h2 : ((kl.take q).map Int.toNat).count z ≤ (kidN G x).count z := by
                rw [HKN.out]
                exact List.Sublist.count_le _ ((List.take_sublist q kl).map _)
              omega
            rw [hF] at hrz
            have hw1 : wrap64 ((F : Int) + 1) = F + 1 := IntWalk.wrap64_in _ (by omega)
            have HU : Hid ((wr.setCell ⟨w1.heap.size, z, none⟩ (.int .i64 ((F : Int) + 1))).rowIs w1.heap.size 3 G.nodes.length fun y => .int .i64 (usesF G r (L.take k) y + ((kl.take (q + 1)).map Int.toNat).count y : Nat)) := by
              refine (hrw2.out.set z _).congr fun y _ => ?_
              rw [htq, List.count_append]
              by_cases e : y = z
              · subst e; simp only [if_true]; rw [← hF]; simp; omega
              · rw [if_neg e, List.count_eq_zero_of_not_mem (a := y) (l := [z]) (by simpa using e)]; simp
            have HG3 : Hid (w3.grownBy (wr.setCell ⟨w1.heap.size, z, none⟩ (.int .i64 ((F : Int) + 1))) (some w1.heap.size)) :=
              grown_trans hg2.out ⟨rfl, rfl, rfl, by simp, fun k _ hk => Below.heap_setCell wr ⟨w1.heap.size, z, none⟩ _ k (by intro e; exact hk (by simp [e]))⟩
            have Hlt3 := Lib.hid hlt3
            have hmz : ∀ y : Int, y = q + 1 → kl.length - (intOf (.int .i64 y)).toNat < kl.length - (intOf (.int .i64 (q : Int))).toNat := by intro y hy; subst hy; have := Hlt3.out; simp only [intOf]; omega
            have HW : Hid (wrap64 ((q : Int) + 1) = q + 1) := IntWalk.wrap64_in _ (by have := Hlt3.out; have := HKl.out; omega)
            clear hg2 hrw2 hz htq hF hlt3 hq
            go_wp2_with fail
            first
              | exact ⟨⟨q + 1, Hlt3.out, by simp, HG3, HU⟩, hmz _ rfl⟩
              | exact ⟨⟨q + 1, Hlt3.out, congrArg (Value.int .i64) (HW.out.trans (by simp)), HG3, HU⟩, hmz _ HW.out⟩
          · obtain rfl : q = kl.length := by omega
            have hd2 : ¬ (kl.length : Int) < (kl.length : Int) := by omega
            have HE : Hid (wr.rowIs w1.heap.size 3 G.nodes.length fun y => .int .i64 (usesF G r (L.take (k + 1)) y : Nat)) := hrw2.out.congr fun y _ => by
              rw [List.take_of_length_le (Nat.le_refl _), ← HKN.out, HTk.out]
              simp only [usesF, usedBy_snoc, Nat.add_assoc]
            have hmz : ∀ y : Int, y = k + 1 → L.length - (intOf (.int .i64 y)).toNat < L.length - (intOf (.int .i64 (k : Int))).toNat := by intro y hy; subst hy; have := Hlt2.out; simp only [intOf]; omega
            have HW : Hid (wrap64 ((k : Int) + 1) = k + 1) := IntWalk.wrap64_in _ (by have := Hlt2.out; have := HLm.out.2.2; omega)
            clear hq hlt3 hrw2
            go_wp2_with fail
            first
              | exact ⟨⟨k + 1, Hlt2.out, by simp, hg2, HE⟩, hmz _ rfl⟩
              | exact ⟨⟨k + 1, Hlt2.out, congrArg (Value.int .i64) (HW.out.trans (by simp)), hg2, HE⟩, hmz _ HW.out⟩
      · obtain rfl : k = L.length := by omega
        have hd2 : ¬ (L.length : Int) < (L.length : Int) := by omega
        have HE := Lib.hid (And.intro hg.out (And.intro hrw.out (HCw.out wr hg.out).2.2.1))
        clear hk hlt2 hg hrw
        go_wp2_with fail
        go_ret
        refine ⟨some ⟨w1.heap.size, 0, none⟩, G.nodes.length, by simp, fun _ => ⟨w1.heap.size, 0, rfl, by have := HE.out.1.size; have := Hfin.out; omega, fun y hy => ?_⟩, by simp, HE.out.2.2⟩
        simp only [List.length_map, List.length_range] at hy
        have h1 := HE.out.2.1.cell hy
        rw [List.take_of_length_le (Nat.le_refl _)] at h1
        rw [Nat.zero_add, HLe.out]
        simpa [nth, hy] using h1
end Go.Proofs.YtdcbngimgpdjoaaDoor
