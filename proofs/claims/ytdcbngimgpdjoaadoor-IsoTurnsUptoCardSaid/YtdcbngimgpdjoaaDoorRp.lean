/- The reference's Form (marginaliaref17): a graph by the order in which its nodes are met. Conditions: as May's. -/
import Derived.Test.YtdcbngimgpdjoaaDoorRo
namespace Go.Proofs.YtdcbngimgpdjoaaDoor
open Go.RowKit Go.Shelf Go.Deep
attribute [local go_sem] Oper.semAt_some
abbrev stillPost3 (A : Act) (w2 : World) : Exit → Act → World → Prop
  | .normal, a, w => a = A ∧ w = w2
  | _, _, _ => False
theorem wp_still3 {P : Program} {c : Code} {a A : Act} {w w2 : World} {Q : Exit → Act → World → Prop} (h : c.wp P (stillPost3 A w2) a w) (hq : Q .normal A w2) : c.wp P Q a w :=
  wp_mono h fun e a' w' h => by
    cases e <;> first | (obtain ⟨rfl, rfl⟩ := h; exact hq) | exact h.elim
theorem own_or {v v' : Value} {W1 wr : World} {o : Obj} {g : Nat} (h : v'.ownBlock = v.ownBlock ∨ v'.ownBlock = some (W1.alloc o).heap.size) (hg : v'.ownBlock = some g) (hs : W1.heap.size = wr.heap.size) : v.ownBlock = some g ∨ g = wr.heap.size + 1 := by
  rcases h with e | e
  · left; rw [← e, hg]
  · right; rw [hg] at e; simp at e; omega
set_option maxRecDepth 100000 in
set_option maxHeartbeats 4000000 in
theorem RForm_any (G : Gr) (v : Value) (w : World) (hG : GrAt w w.heap.size G v) (hok : G.okR) :
    Calls Tryd.prog 34 #[v] w fun e w' => ∃ nv rv L l, e = .returned (.agg #[nv, rv]) ∧ FmAt w w' (formB G) nv rv L l := by
  have hRt : ∀ W, Below w.heap.size w W → Calls Tryd.prog 19 #[v] W fun e w' => e = .returned (.bool (rightB G)) ∧ Below W.heap.size W w' := fun W hW => RRight_any G v W ((hG.below hW (Nat.le_refl _)).more hW.size) hok
  have hGw : Hid (∀ W, Below w.heap.size w W → GrAt W w.heap.size G v) := fun W hW => hG.below hW (Nat.le_refl _)
  obtain ⟨NA, nc, RA, rc, rfl, hN, hR⟩ := hG.ex
  obtain ⟨V, hV, hbV, hrow, hsz⟩ := box2 w (.slice NA G.nodes.length nc) (.slice RA G.roots.length rc) 25
  obtain ⟨U, hU, hbU, hrowU, hszU⟩ := box2 V (.slice none 0 0) (.slice none 0 0) 25
  obtain ⟨Z, hZ, hbZ, hrowZ, hszZ⟩ := box2 U (.slice none 0 0) (.slice none 0 0) 25
  have HRt := Lib.hid (hRt Z (below_then hbV (below_then hbU hbZ)))
  have HbZ := Lib.hid (below_then hbV (below_then hbU hbZ))
  have hr1 : Z.heap[w.heap.size]? = some (.cells #[.slice NA G.nodes.length nc, .slice RA G.roots.length rc] 25 (0, 0)) := (hbZ.block _ (by omega)).trans ((hbU.block _ (by omega)).trans hrow)
  have hr2 : Z.heap[V.heap.size]? = some (.cells #[.slice none 0 0, .slice none 0 0] 25 (0, 0)) := (hbZ.block _ (by omega)).trans hrowU
  have hr3 : Z.heap[U.heap.size]? = some (.cells #[.slice none 0 0, .slice none 0 0] 25 (0, 0)) := hrowZ
  have HC : Hid (∀ W, Below Z.heap.size Z W → W.heap[w.heap.size]? = some (.cells #[.slice NA G.nodes.length nc, .slice RA G.roots.length rc] 25 (0, 0)) ∧ W.heap[V.heap.size]? = some (.cells #[.slice none 0 0, .slice none 0 0] 25 (0, 0)) ∧ W.heap[U.heap.size]? = some (.cells #[.slice none 0 0, .slice none 0 0] 25 (0, 0))) := fun W h => ⟨(h.block _ (by omega)).trans hr1, (h.block _ (by omega)).trans hr2, (h.block _ (by omega)).trans hr3⟩
  have u0 : Z.cell? ⟨w.heap.size, 0, none⟩ = some (.slice NA G.nodes.length nc) := Lib.cell_of_heap hr1 0
  have u1 : Z.cell? ⟨w.heap.size, 1, none⟩ = some (.slice RA G.roots.length rc) := Lib.cell_of_heap hr1 1
  have HsU : Hid (Z.heap.size = w.heap.size + 3 ∧ U.heap.size = w.heap.size + 2 ∧ V.heap.size = w.heap.size + 1) := ⟨by omega, by omega, hsz⟩
  obtain ⟨rt, hrt⟩ : ∃ x, rightB G = x := ⟨_, rfl⟩
  rw [hrt] at HRt
  cases rt with
  | false =>
    have HF : Hid (formB G = ⟨[], []⟩) := by show _ = _; rw [formB, hrt]; rfl
    clear hrt hG hok hN hR hRt hbV hrow hsz hbU hrowU hszU hbZ hrowZ hszZ hr1 hr2 hr3 hGw
    go_enter Tryd.func34, Tryd.ntmps34
    go_wp2_with (go_at_call 19; refine HRt.out.mono ?_; rintro e w1 ⟨rfl, hb1⟩; have Hb1 := Lib.hid hb1; obtain ⟨_, k2, k3⟩ := HC.out w1 hb1; have k20 := Lib.cell_of_heap k2 0; have k21 := Lib.cell_of_heap k2 1; have k2f0 := Go.Joins.unfrozen_of_block k2 0; have k2f1 := Go.Joins.unfrozen_of_block k2 1; have k30 := Lib.cell_of_heap k3 0; have k31 := Lib.cell_of_heap k3 1; clear hb1)
    have HW : Hid (Below w.heap.size w w1) := below_then HbZ.out Hb1.out
    have hw2 := Go.Joins.block_setCell (i := 1) (Go.Joins.block_setCell (i := 0) k2 (.slice none 0 0)) (.slice none 0 0)
    refine bodyPost_ret (results_cell_row rfl _ _ V.heap.size _ #[.slice none 0 0, .slice none 0 0] (0, 0) _ rfl hw2 Tryd.underlying25 rfl (by kernel_rfl)) rfl ?_
    rw [HF.out]
    exact ⟨_, _, [], [], rfl, ⟨(HW.out.setCell (p := ⟨V.heap.size, 0, none⟩) (by have := HsU.out; show w.heap.size ≤ V.heap.size; omega) _).setCell (p := ⟨V.heap.size, 1, none⟩) (by have := HsU.out; show w.heap.size ≤ V.heap.size; omega) _, rfl, rfl, .empty _ _, ⟨rfl, .inl ⟨rfl, rfl⟩⟩, fun b hb => by cases hb⟩⟩
  | true =>
    have HF : Hid (formB G = formG G) := by show _ = _; rw [formB, hrt]; rfl
    have hRR := RightR.of hrt
    have hnn := hRR.nodes
    have hmm := hRR.many
    have HN := Lib.hid hN
    have HRo := Lib.hid hR
    clear hrt hG hok hN hR hRt hbV hrow hsz hbU hrowU hszU hbZ hrowZ hszZ hr1 hr2 hr3
    rw [HF.out]
    go_enter Tryd.func34, Tryd.ntmps34
    go_wp2_with (go_at_call 19; refine HRt.out.mono ?_; rintro e w1 ⟨rfl, hb1⟩
                 have hmake := run_make_row' (P := Tryd.prog) 23 3 (.int .i64 0) 8 rfl Tryd.infoIntZ rfl .i64 .i64 G.nodes.length (by omega) (by omega) w1
                 obtain ⟨M, hM, hbM, hrM, hsM⟩ := rowM w1 (.int .i64 0) G.nodes.length 3
                 rw [hM] at hmake
                 have hmake2 := run_make_row' (P := Tryd.prog) 68 4 (.bool false) 1 rfl Tryd.infoBoolM rfl .i64 .i64 G.nodes.length (by omega) (by omega) M
                 obtain ⟨X, hX, hbX, hrX, hsX⟩ := rowM M (.bool false) G.nodes.length 4
                 rw [hX, hsM] at hmake2
                 rw [hsM] at hrX
                 have hb1X := below_then hb1 (below_then hbM hbX)
                 have HX0 : Hid (RfSt X G.nodes.length w1.heap.size (visK G 0) (visK G 0) (.slice none 0 0) X) := by
                   rw [visK_zero]
                   exact ⟨by omega, Kept2.refl _ _ _, (hrM.of_block (hbX.block _ (by omega))).congr fun k _ => by simp [posF], hrX.congr fun k _ => by simp, ⟨rfl, .inl ⟨rfl, rfl⟩⟩⟩
                 obtain ⟨k1, _, _⟩ := HC.out w1 hb1
                 obtain ⟨k3, _, _⟩ := HC.out M (below_then hb1 hbM)
                 have HCX : Hid (Z.heap.size ≤ w1.heap.size ∧ w1.heap.size + 2 = X.heap.size ∧ Below Z.heap.size Z X) := ⟨hb1.size, by omega, hb1X⟩
                 have k10 := Lib.cell_of_heap k1 0
                 have k30 := Lib.cell_of_heap k3 0
                 clear hb1 hbM hrM hsM k1 k3 hbX hrX hsX hb1X)
    clear k10 k30 u0 u1 hmake hmake2 hM hU hV hZ HRt hX
    obtain ⟨T, hT⟩ : ∃ T, w1.heap.size = T := ⟨_, rfl⟩
    rw [hT] at HCX HX0
    rw [hT]
    obtain ⟨BR, hBR⟩ : ∃ B, V.heap.size = B := ⟨_, rfl⟩
    obtain ⟨BO, hBO⟩ : ∃ B, U.heap.size = B := ⟨_, rfl⟩
    rw [hBO, hBR] at HC HsU
    rw [hBO, hBR]
    clear hT hBO hBR
    have HCw : Hid (∀ W, Kept2 X W T (T + 1) → Below w.heap.size w W ∧ W.heap[w.heap.size]? = some (.cells #[.slice NA G.nodes.length nc, .slice RA G.roots.length rc] 25 (0, 0)) ∧ W.heap[BR]? = some (.cells #[.slice none 0 0, .slice none 0 0] 25 (0, 0)) ∧ W.heap[BO]? = some (.cells #[.slice none 0 0, .slice none 0 0] 25 (0, 0)) ∧ w.heap.size < BR ∧ BR < BO ∧ BO < T ∧ T + 2 ≤ W.heap.size) := fun W hW => by
      obtain ⟨l1, l2, l3⟩ := HCX.out
      obtain ⟨l4, l5, l6⟩ := HsU.out
      obtain ⟨c1, c2, c3⟩ := HC.out X l3
      have hs := hW.size
      have hs2 := l3.size
      exact ⟨hW.below (below_then HbZ.out l3) (by omega) (by omega), (hW.block _ (by omega) (by omega) (by omega)).trans c1, (hW.block _ (by omega) (by omega) (by omega)).trans c2, (hW.block _ (by omega) (by omega) (by omega)).trans c3, by omega, by omega, by omega, by omega⟩
    clear HC HsU HCX
    go_loopw [6, 7] (fun u i wr => ∃ k : Nat, k ≤ G.roots.length ∧ i = .int .i64 (k : Int) ∧ Hid (RfSt X G.nodes.length T (visK G k) (visK G k) u wr)) (fun _ i _ => G.roots.length - (intOf i).toNat)
    case atStart => exact ⟨0, Nat.zero_le _, rfl, HX0⟩
    case round =>
      obtain ⟨k, hk, rfl, hs⟩ := hrel
      obtain ⟨hbw, r0, _, _, q1, q2, q3, q4⟩ := HCw.out wr hs.out.keep
      have c0 := Lib.cell_of_heap r0 0
      have c1 := Lib.cell_of_heap r0 1
      by_cases hlt : k < G.roots.length
      · have hri := HRo.out.below hbw (Nat.le_refl _)
        obtain ⟨b, off, rfl, hbl, hc⟩ := hri (by omega)
        have hck := hc k hlt
        have hr0 := hRR.roots _ (nth_mem hlt)
        obtain ⟨r, hr⟩ : ∃ r : Nat, nth G.roots k = (r : Int) := ⟨(nth G.roots k).toNat, by omega⟩
        have hway := hRR.next hlt hr
        rw [hr] at hck
        have HRe : Hid (Calls Tryd.prog 50 #[.agg #[.slice NA G.nodes.length nc, .slice (some ⟨b, off, none⟩) G.roots.length rc], .slice (some ⟨T + 1, 0, none⟩) G.nodes.length G.nodes.length, .int .i64 (r : Int)] wr.drew fun e w' => ∃ A cc out, e = .returned (.slice A out.length cc) ∧ visK G k ++ out = visK G (k + 1) ∧ RfIn X G.nodes.length T (visK G (k + 1)) (visK G k) A out u6 w') := by
          refine (refreach_any G _ r (T + 1) G.nodes.length (visK G k) (visK G (k + 1)) wr.drew ((hGw.out wr.drew hbw.drew).more (by omega)) hRR.toRightG hs.out.drew.seen hway).mono ?_
          rintro e w' ⟨A, cc, out, rfl, he, hI, _, hseen, hg, hf⟩
          refine ⟨A, cc, out, rfl, he, hs.out.drew.reach hg hseen, hI, fun _ p hp => ?_⟩
          have h1 := hf p hp
          have h2 := hs.out.drew.keep.size
          refine ⟨by omega, fun e => ?_⟩
          have := (own_place hs.out.drew.row e).2.1
          omega
        obtain ⟨ho1, ho2, _, _, _⟩ := Way.all (fun i hi => hRR.lt hi) _ _ _ (hRR.wayK (k + 1)) (by simp)
        have HG3 : Hid (∀ W, Kept2 X W T (T + 1) → W.cell? ⟨w.heap.size, 0, none⟩ = some (.slice NA G.nodes.length nc) ∧ W.cell? ⟨w.heap.size, 1, none⟩ = some (.slice (some ⟨b, off, none⟩) G.roots.length rc) ∧ W.cell? ⟨b, off + k, none⟩ = some (.int .i64 (r : Int))) := fun W hW => by
          obtain ⟨z1, z2, _⟩ := HCw.out W hW
          refine ⟨Lib.cell_of_heap z2 0, Lib.cell_of_heap z2 1, ?_⟩
          obtain ⟨b', off', e, _, hc'⟩ := (HRo.out.below z1 (Nat.le_refl _)) (by omega)
          cases e
          rw [hc' k hlt, hr]
        have HV : Hid ((visK G (k + 1)).Nodup ∧ (∀ x ∈ visK G (k + 1), x < G.nodes.length) ∧ (visK G (k + 1)).length ≤ 20000) := by
          obtain ⟨_, hn, hl, _, _⟩ := Way.all (fun i hi => hRR.lt hi) _ _ _ (hRR.wayK (k + 1)) (by simp)
          have := nodup_short _ _ hn hl
          exact ⟨hn, hl, by omega⟩
        have Hlt := Lib.hid hlt
        have hlt' : (k : Int) < (G.roots.length : Int) := by omega
        obtain ⟨A6, c6, hu6, _⟩ := ints_row hs.out.row
        subst hu6
        clear ho1 ho2 hway hr hr0 hc hri hbl hs hbw r0 q1 q2 q3 q4 hlt hk
        go_wp2_with fail
        go_region_held3 (fun W' => W'.cell? ⟨w.heap.size, 0, none⟩ = some (.slice NA G.nodes.length nc) ∧ W'.cell? ⟨w.heap.size, 1, none⟩ = some (.slice (some ⟨b, off, none⟩) G.roots.length rc) ∧ W'.cell? ⟨b, off + k, none⟩ = some (.int .i64 (r : Int))) (go_keep) (first | (go_at_call 50; refine HRe.out.mono ?_; rintro e w2 ⟨A, cc, out, rfl, he, hin⟩; obtain ⟨g0, g1, g2⟩ := HG3.out w2 hin.st.keep))
        have He := Lib.hid he
        have Hin := Lib.hid hin
        clear he hin HRe c0 c1 hck g0 g1 g2 HG3
        have hmz : ∀ z : Int, z = k + 1 → G.roots.length - (intOf (.int .i64 z)).toNat < G.roots.length - (intOf (.int .i64 (k : Int))).toNat := by intro z hz; subst hz; have := Hlt.out; simp only [intOf]; omega
        have HW : Hid (wrap64 ((k : Int) + 1) = k + 1) := IntWalk.wrap64_in _ (by have := Hlt.out; omega)
        go_wp2_with fail
        go_loopw [6, 9] (fun u j wi => ∃ q : Nat, q ≤ out.length ∧ j = .int .i64 (q : Int) ∧ Hid (RfIn X G.nodes.length T (visK G (k + 1)) (visK G k ++ out.take q) A out u wi)) (fun _ j _ => out.length - (intOf j).toNat)
        case atStart =>
          refine ⟨0, Nat.zero_le _, rfl, ?_⟩
          have h := Hin
          rw [List.take_zero, List.append_nil]
          exact h
        case round =>
          obtain ⟨q, hq, rfl, hin⟩ := hrel
          obtain ⟨Aq, cq, huq, _⟩ := ints_row hin.out.st.row
          subst huq
          by_cases hlq : q < out.length
          · obtain ⟨b2, o2, rfl, hb2, hc2⟩ := hin.out.ints (by rw [List.length_map]; omega)
            have hcq : wr.cell? ⟨b2, o2 + q, none⟩ = some (.int .i64 (out[q] : Nat)) := by
              rw [hc2 q (by rw [List.length_map]; exact hlq)]
              simp [nth, hlq]
            have htk : out.take (q + 1) = out.take q ++ [out[q]] := List.take_succ_eq_append_getElem hlq
            have hxm : out[q] ∈ visK G (k + 1) := by rw [← He.out]; exact List.mem_append_right _ (List.getElem_mem hlq)
            obtain ⟨x, hx⟩ : ∃ x, out[q] = x := ⟨_, rfl⟩
            rw [hx] at hcq htk hxm
            have hxn := HV.out.2.1 x hxm
            obtain ⟨vq, hvq⟩ : ∃ l, visK G k ++ out.take q = l := ⟨_, rfl⟩
            have hvq1 : visK G k ++ out.take (q + 1) = vq ++ [x] := by rw [htk, ← List.append_assoc, hvq]
            have hnd : (vq ++ [x]).Nodup := by
              have h1 := HV.out.1
              rw [← He.out, ← List.take_append_drop (q + 1) out, ← List.append_assoc, hvq1] at h1
              exact (List.nodup_append.1 h1).1
            have hll : vq.length ≤ 1000000000 := by
              have h1 := HV.out.2.2
              rw [← He.out, List.length_append] at h1
              rw [← hvq, List.length_append, List.length_take]
              omega
            rw [hvq] at hin
            have HT : Hid (∀ v' w' (o : Obj) g, ((wr.setCell ⟨T, x, none⟩ (.int .i64 (vq.length : Nat))).alloc o).grownBy w' (Value.slice Aq vq.length cq).ownBlock → w'.ownsRow X.heap.size 3 1 v' (vq ++ [x]).length (ncells (vq ++ [x])) → v'.ownBlock = some g → ((Value.slice Aq vq.length cq).ownBlock = some g ∨ g = wr.heap.size + 1) →
                RfIn X G.nodes.length T (visK G (k + 1)) (visK G k ++ out.take (q + 1)) (some ⟨b2, o2, none⟩) out v' w') := fun v' w' o g a1 a2 a3 a4 => by
              rw [hvq1]
              exact hin.out.tell hnd a1 a2 a3 a4
            obtain ⟨W1, hW1⟩ : ∃ W1, wr.setCell ⟨T, x, none⟩ (.int .i64 (vq.length : Nat)) = W1 := ⟨_, rfl⟩
            have hb2T : b2 ≠ T := by
              have := (hin.out.own (by omega) _ rfl).1
              have := hin.out.st.hT
              simp only at *
              omega
            have hcq1 : W1.cell? ⟨b2, o2 + q, none⟩ = some (.int .i64 (x : Nat)) := by
              rw [← hW1]
              exact (World.cell?_of_block (Below.heap_setCell wr ⟨T, x, none⟩ _ b2 hb2T)).trans hcq
            have hrow1 : W1.ownsRow X.heap.size 3 1 (.slice Aq vq.length cq) vq.length (ncells vq) := by
              rw [← hW1]
              refine ownsRow_same hin.out.st.row fun g hg _ => Below.heap_setCell wr ⟨T, x, none⟩ _ g ?_
              have := (own_place hin.out.st.row hg).1
              have := hin.out.st.hT
              show g ≠ T
              omega
            have hs1 : W1.heap.size = wr.heap.size := by rw [← hW1]; simp
            have hs2 : X.heap.size ≤ W1.heap.size := by rw [hs1]; exact hin.out.st.keep.size
            have hrx := hin.out.st.tos.cell hxn
            have hfx := hin.out.st.tos.frozen x
            rw [hW1] at HT
            have hlt3 : (q : Int) < (out.length : Int) := by omega
            have Hlq := Lib.hid hlq
            have hmq : ∀ z : Int, z = q + 1 → out.length - (intOf (.int .i64 z)).toNat < out.length - (intOf (.int .i64 (q : Int))).toNat := by intro z hz; subst hz; have := Hlq.out; simp only [intOf]; omega
            have HWq : Hid (wrap64 ((q : Int) + 1) = q + 1) := IntWalk.wrap64_in _ (by
              have h1 := HV.out.2.2
              rw [← He.out, List.length_append] at h1
              have := Hlq.out
              omega)
            have Hrow := Lib.hid hrow1
            have HL : Hid (vq.length ≤ 1000000000 ∧ X.heap.size ≤ W1.heap.size ∧ W1.heap.size = wr.heap.size) := ⟨hll, hs2, hs1⟩
            clear hin hc2 htk hxm hx hll hrow1 hs1 hs2 hb2T hb2 hq hlq hnd
            rw [hvq]
            clear hvq1
            clear hvq
            go_wp2_with (at_builtin; refine wpList_appO2 rfl _ _ _ rfl rfl (.slice Aq vq.length cq) _ x rfl (Hrow.out.alloc _) W1.heap.size rfl (by simp) HL.out.1 (by have := HL.out.2.1; simp; omega) ?_; intro v' w' r1 r2 r3 r4; obtain ⟨g, r4⟩ := r4; have HE := Lib.hid (HT.out v' w' _ g r2 r1 r4 (own_or r3 r4 HL.out.2.2)); clear r1 r2 r3 r4)
            first
              | exact ⟨⟨q + 1, Hlq.out, by simp, HE⟩, hmq _ rfl⟩
              | exact ⟨⟨q + 1, Hlq.out, congrArg (Value.int .i64) (HWq.out.trans (by simp)), HE⟩, hmq _ HWq.out⟩
          · obtain rfl : q = out.length := by omega
            have HE : Hid (RfSt X G.nodes.length T (visK G (k + 1)) (visK G (k + 1)) (.slice Aq (visK G k ++ out.take out.length).length cq) wr) := by
              have h := hin.out.st
              rw [List.take_of_length_le (Nat.le_refl _)] at h
              rw [List.take_of_length_le (Nat.le_refl _)]
              rw [He.out] at h ⊢
              exact h
            have hd2 : ¬ (out.length : Int) < (out.length : Int) := by omega
            clear hin hlq hq
            go_wp2_with fail
            first
              | exact ⟨⟨k + 1, Hlt.out, by simp, HE⟩, hmz _ rfl⟩
              | exact ⟨⟨k + 1, Hlt.out, congrArg (Value.int .i64) (HW.out.trans (by simp)), HE⟩, hmz _ HW.out⟩
      · obtain rfl : k = G.roots.length := by omega
        have hd2 : ¬ (G.roots.length : Int) < (G.roots.length : Int) := by omega
        have hs2 := hs.out
        rw [visK_end] at hs2
        obtain ⟨A6, c6, hu6, hI6, _⟩ := ints_row hs2.row
        subst hu6
        obtain ⟨Y, rfl⟩ : ∃ Y, Y = wr := ⟨_, rfl⟩
        have hO := hRR.ord
        have hol : (orderL G).length ≤ 20000 := by have := nodup_short _ _ hO.nodup hO.lt; omega
        have HO := Lib.hid hO
        have Hol := Lib.hid hol
        have hXY := hs2.keep.size
        have hTX := hs2.hT
        have HY : Hid (∀ W, Kept2 Y W BO BO → Below w.heap.size w W ∧ W.heap[w.heap.size]? = some (.cells #[.slice NA G.nodes.length nc, .slice RA G.roots.length rc] 25 (0, 0)) ∧ W.heap[BR]? = some (.cells #[.slice none 0 0, .slice none 0 0] 25 (0, 0)) ∧
            W.rowIs T 3 G.nodes.length (fun k => .int .i64 (posF (orderL G) k : Nat)) ∧ IntsAt W Y.heap.size A6 ((orderL G).map Int.ofNat) ∧ NdsAt W w.heap.size NA G.nodes ∧ IntsAt W w.heap.size RA G.roots) := fun W hW => by
          have hwW := hW.below hbw (by omega) (by omega)
          refine ⟨hwW, (hW.block _ (by omega) (by omega) (by omega)).trans r0, (hW.block _ (by omega) (by omega) (by omega)).trans (HCw.out Y hs2.keep).2.2.1, hs2.tos.of_block (hW.block _ (by omega) (by omega) (by omega)), fun hz => ?_, HN.out.below hwW (Nat.le_refl _), HRo.out.below hwW (Nat.le_refl _)⟩
          obtain ⟨b, off, rfl, hlt2, hc2⟩ := hI6 hz
          have hX := (own_place hs2.row (b := b) rfl).1
          exact ⟨b, off, rfl, hlt2, fun j hj => (World.cell?_of_block (hW.block b hlt2 (by omega) (by omega))).trans (hc2 j hj)⟩
        have HL5 : Hid (w.heap.size < BR ∧ BR < BO ∧ BO < T ∧ T + 2 ≤ Y.heap.size) := ⟨q1, q2, q3, q4⟩
        have HG0 : Hid (GoSt Y BO (.slice none 0 0) (.slice none 0 0) [] [] Y) := ⟨by omega, Kept2.refl _ _ _, (HCw.out Y hs2.keep).2.2.2.1, .empty _ _, ⟨rfl, .inl ⟨rfl, rfl⟩⟩, fun b hb => by cases hb⟩
        clear hs hs2 hI6 hXY hTX hO hol r0 hbw q1 q2 q3 q4 hlt hk HCw HX0
        go_wp2_with fail
        go_loopw [10] (fun j wz => ∃ (k : Nat) (nv : Value) (L : List NdK), k ≤ (orderL G).length ∧ j = .int .i64 (k : Int) ∧ Hid (GoSt Y BO nv (.slice none 0 0) L [] wz) ∧ Hid (L.map (·.1) = ((orderL G).take k).map fun i => formN G (nd G.nodes i))) (fun j _ => (orderL G).length - (intOf j).toNat)
        case atStart => exact ⟨0, _, [], Nat.zero_le _, rfl, HG0, rfl⟩
        case round =>
          obtain ⟨k, nv, L, hk, rfl, hst, hL⟩ := hrel
          obtain ⟨p0, p1, p2, p3, p4, p5, p6⟩ := HY.out wr hst.out.keep
          have g0 := Lib.cell_of_heap p1 0
          have g1 := Lib.cell_of_heap p1 1
          by_cases hlt : k < (orderL G).length
          · obtain ⟨b, off, rfl, hbw, hcc⟩ := p4 (by rw [List.length_map]; omega)
            have hck : wr.cell? ⟨b, off + k, none⟩ = some (.int .i64 ((orderL G)[k] : Nat)) := by
              rw [hcc k (by rw [List.length_map]; exact hlt)]
              simp [nth, hlt]
            have hxO := HO.out
            obtain ⟨x, hx⟩ : ∃ x, (orderL G)[k] = x := ⟨_, rfl⟩
            have hxm : x ∈ orderL G := hx ▸ List.getElem_mem hlt
            have hxn : x < G.nodes.length := hxO.lt x hxm
            have htk : (orderL G).take (k + 1) = (orderL G).take k ++ [x] := by rw [List.take_succ_eq_append_getElem hlt, hx]
            rw [hx] at hck
            obtain ⟨bn, on, rfl, hbn, hnds⟩ := p5 (by omega)
            obtain ⟨K, kc, hnd⟩ := hnds x hxn
            obtain ⟨e, he⟩ : ∃ e, nd G.nodes x = e := ⟨_, rfl⟩
            rw [he] at hnd
            have d0 := hnd.c0
            have d1 := hnd.c1
            have d2 := hnd.c2
            have d3 := hnd.c3
            have d4 := hnd.c4
            have hlt' : (k : Int) < ((orderL G).length : Int) := by omega
            have hxi : (x : Int) < (G.nodes.length : Int) := by omega
            have hkN := kidsNat hRR.toRightG hxn
            rw [he] at hkN
            obtain ⟨ks, hks⟩ : ∃ ks, kidN G x = ks := ⟨_, rfl⟩
            rw [hks] at hkN
            have hkl : e.kids.length = ks.length := by rw [← hkN]; simp
            rw [hkl] at d3
            have hkm : ∀ y ∈ ks, y ∈ orderL G := fun y hy => hxO.kids x hxm y (by rw [hks]; exact hy)
            have hk20 : ks.length ≤ 1000000 := by
              have h1 := sum_order (G := G) (l := [x]) (by simp) (by simpa using hxn)
              have := hRR.sum
              simp [he] at h1
              omega
            have HKn : Hid ((∀ y ∈ ks, y < G.nodes.length) ∧ ks.length ≤ 1000000) := ⟨fun y hy => hxO.lt y (hkm y hy), hk20⟩
            have hke : (formN G e).kids = (ks.map (posF (orderL G))).map Int.ofNat := by
              simp only [formN]
              rw [← hkN, List.map_map, List.map_map]
              refine List.map_congr_left fun y hy => ?_
              simp only [Function.comp, toI, posF]
              rw [if_pos (hkm y hy)]
              simp
            obtain ⟨V1, hV1, hbV1, hrV1, hsV1⟩ := boxCs wr #[.int .i64 e.kind, .string e.tag, .string e.text, .slice K ks.length kc, .bool e.plain] 33
            have s6 := Lib.cell_of_heap hrV1 3
            have hsY := hst.out.keep.size
            have hl5 := HL5.out
            have hkI : IntsAt V1 V1.heap.size K (ks.map Int.ofNat) := by
              rw [hkN]; exact (hnd.kids.below hbV1 (by omega)).more (by omega)
            have HV1 : Hid (∀ W, Below V1.heap.size V1 W → W.cell? ⟨wr.heap.size, 3, none⟩ = some (.slice K ks.length kc) ∧ IntsAt W V1.heap.size K (ks.map Int.ofNat) ∧ W.rowIs T 3 G.nodes.length (fun k => .int .i64 (posF (orderL G) k : Nat))) := fun W hW =>
              ⟨Lib.cell_of_heap ((hW.block _ (by omega)).trans hrV1) 3, hkI.below hW (Nat.le_refl _), p3.of_block ((hW.block _ (by omega)).trans (hbV1.block _ (by omega)))⟩
            obtain ⟨Av, cv, hv⟩ := hst.out.nds.shape
            subst hv
            have hLl : L.length ≤ 1000000 := by
              have h1 := congrArg List.length hL.out
              have := Hol.out
              simp at h1; omega
            have HLl := Lib.hid hLl
            have HL2 : Hid (∀ A' c', (L ++ [((formN G e, A', c') : NdK)]).map (·.1) = ((orderL G).take (k + 1)).map fun i => formN G (nd G.nodes i)) := fun A' c' => by
              rw [htk, List.map_append, List.map_append, hL.out]; simp [he]
            have HQ : Hid (∀ w' v', ZOwn w' V1.heap.size v' ((ks.map (posF (orderL G))).map Int.ofNat) → Below V1.heap.size V1 w' → ∃ A' c', v' = .slice A' (formN G e).kids.length c' ∧ w'.cell? ⟨wr.heap.size, 3, none⟩ = some (.slice K ks.length kc) ∧ w'.frozen? ⟨wr.heap.size, 3, none⟩ = false ∧
                ∃ S, w'.setCell ⟨wr.heap.size, 3, none⟩ (.slice A' (formN G e).kids.length c') = S ∧ S.cell? ⟨wr.heap.size, 0, none⟩ = some (.int .i64 e.kind) ∧ S.cell? ⟨wr.heap.size, 1, none⟩ = some (.string e.tag) ∧ S.cell? ⟨wr.heap.size, 2, none⟩ = some (.string e.text) ∧
                  S.cell? ⟨wr.heap.size, 3, none⟩ = some (.slice A' (formN G e).kids.length c') ∧ S.cell? ⟨wr.heap.size, 4, none⟩ = some (.bool e.plain) ∧ S.cell? ⟨BO, 0, none⟩ = some (.slice Av L.length cv) ∧ GoSt Y BO (.slice Av L.length cv) (.slice none 0 0) L [] S ∧ KidOk S Y.heap.size (.slice Av L.length cv) (formN G e, A', c')) := fun w' v' hz hb => by
              rw [← hke] at hz
              obtain ⟨A', c', rfl, _⟩ := hz.form
              rw [hsV1] at hz hb
              rw [← hV1] at hb
              obtain ⟨r1, r2, r3, r4⟩ := hst.out.kid hb hz
              exact ⟨A', c', rfl, Lib.cell_of_heap r1 3, Go.Joins.unfrozen_of_block r1 3, _, rfl, Lib.cell_of_heap r2 0, Lib.cell_of_heap r2 1, Lib.cell_of_heap r2 2, Lib.cell_of_heap r2 3, Lib.cell_of_heap r2 4, Lib.cell_of_heap r3.out 0, r3, r4⟩
            have y0 := (hbV1.cell (p := ⟨w.heap.size, 0, none⟩) (by show w.heap.size < _; omega)).trans g0
            have y1 := (hbV1.cell (p := ⟨b, off + k, none⟩) (by show b < _; omega)).trans hck
            have e0 := (hbV1.cell (p := ⟨bn, on + x * 5, none⟩) (by show bn < _; omega)).trans d0
            have e1 := (hbV1.cell (p := ⟨bn, on + x * 5 + 1, none⟩) (by show bn < _; omega)).trans d1
            have e2 := (hbV1.cell (p := ⟨bn, on + x * 5 + 2, none⟩) (by show bn < _; omega)).trans d2
            have e3 := (hbV1.cell (p := ⟨bn, on + x * 5 + 3, none⟩) (by show bn < _; omega)).trans d3
            have e4 := (hbV1.cell (p := ⟨bn, on + x * 5 + 4, none⟩) (by show bn < _; omega)).trans d4
            have Hlt := Lib.hid hlt
            have hmz : ∀ z : Int, z = k + 1 → (orderL G).length - (intOf (.int .i64 z)).toNat < (orderL G).length - (intOf (.int .i64 (k : Int))).toNat := by intro z hz; subst hz; have := Hlt.out; simp only [intOf]; omega
            have HWr : Hid (wrap64 ((k : Int) + 1) = k + 1) := IntWalk.wrap64_in _ (by have := Hol.out; omega)
            clear hcc hnds hxO hnd hkN hks hkl hkm hk20 hke hbV1 hrV1 hsV1 hkI htk hx hxm hbn hk hlt hbw p0 p1 p2 p3 p4 p5 p6 hst hL hsY hl5 he hLl
            go_wp2_with fail
            go_region_held3 (fun W' => W'.cell? ⟨w.heap.size, 0, none⟩ = some (.slice (some ⟨bn, on, none⟩) G.nodes.length nc) ∧ W'.cell? ⟨b, off + k, none⟩ = some (.int .i64 (x : Nat)) ∧ W'.cell? ⟨bn, on + x * 5, none⟩ = some (.int .i64 e.kind) ∧ W'.cell? ⟨bn, on + x * 5 + 1, none⟩ = some (.string e.tag) ∧ W'.cell? ⟨bn, on + x * 5 + 2, none⟩ = some (.string e.text) ∧ W'.cell? ⟨bn, on + x * 5 + 3, none⟩ = some (.slice K ks.length kc) ∧ W'.cell? ⟨bn, on + x * 5 + 4, none⟩ = some (.bool e.plain)) (go_keep) (fail)
            clear y0 y1 e0 e1 e2 e3 e4 d0 d1 d2 d3 d4 g0 g1 hck s6 hxi hlt'
            go_wp2_with fail
            obtain ⟨xb, hxb⟩ : ∃ b, wr.heap.size = b := ⟨_, rfl⟩
            rw [hxb] at HV1 HQ
            rw [hxb]
            clear hxb hV1
            go_loopw [12, 13] (fun kv j wi => ∃ q : Nat, q ≤ ks.length ∧ j = .int .i64 (q : Int) ∧ Hid (ZOwn wi V1.heap.size kv (((ks.take q).map (posF (orderL G))).map Int.ofNat)) ∧ Hid (Below V1.heap.size V1 wi)) (fun _ j _ => ks.length - (intOf j).toNat)
            case atStart => exact ⟨0, Nat.zero_le _, rfl, .empty _ _, (Below.refl _ V1).drew⟩
            case round =>
              obtain ⟨q, hq, rfl, hz, hb⟩ := hrel
              obtain ⟨t3, t4, t5⟩ := HV1.out wr hb.out
              by_cases hlq : q < ks.length
              · obtain ⟨b2, o2, rfl, hb2, hc2⟩ := t4 (by rw [List.length_map]; omega)
                have hcq : wr.cell? ⟨b2, o2 + q, none⟩ = some (.int .i64 (ks[q] : Nat)) := by
                  rw [hc2 q (by rw [List.length_map]; exact hlq)]
                  simp [nth, hlq]
                have hyn := HKn.out.1 ks[q] (List.getElem_mem hlq)
                have htk : ks.take (q + 1) = ks.take q ++ [ks[q]] := List.take_succ_eq_append_getElem hlq
                have HTk : Hid ((((ks.take q).map (posF (orderL G))).map Int.ofNat) ++ [((posF (orderL G) ks[q] : Nat) : Int)] = ((ks.take (q + 1)).map (posF (orderL G))).map Int.ofNat) := by show _ = _; rw [htk, List.map_append, List.map_append]; rfl
                obtain ⟨y, hy⟩ : ∃ y, ks[q] = y := ⟨_, rfl⟩
                rw [hy] at hcq hyn HTk
                have hry := t5.cell hyn
                obtain ⟨z, hz2⟩ : ∃ z : Nat, posF (orderL G) y = z := ⟨_, rfl⟩
                rw [hz2] at hry HTk
                have hlt3 : (q : Int) < (ks.length : Int) := by omega
                have hll : (((ks.take q).map (posF (orderL G))).map Int.ofNat).length ≤ 1000000000 := by have := HKn.out.2; simp; omega
                have hsz := hb.out.size
                have hz' := hz.out
                obtain ⟨lz, hlz⟩ : ∃ l, ((ks.take q).map (posF (orderL G))).map Int.ofNat = l := ⟨_, rfl⟩
                rw [hlz] at hz' hll HTk
                have Hlq := Lib.hid hlq
                have hmq : ∀ z : Int, z = q + 1 → ks.length - (intOf (.int .i64 z)).toNat < ks.length - (intOf (.int .i64 (q : Int))).toNat := by intro z hz; subst hz; have := Hlq.out; simp only [intOf]; omega
                have HWq : Hid (wrap64 ((q : Int) + 1) = q + 1) := IntWalk.wrap64_in _ (by have := Hlq.out; have := HKn.out.2; omega)
                have Hb := Lib.hid hb.out
                clear hc2 htk hy hz2 hlz hz hb hq hlq hb2 t4 t5
                go_wp2_with (at_builtin; refine wpList_appZ rfl _ _ _ rfl rfl V1.heap.size u12 _ z rfl hz' _ rfl rfl hll hsz ?_; intro v' w' hz2 hb2; rw [HTk.out] at hz2; have HZ := Lib.hid hz2; have HB := Lib.hid (Hb.out.trans hb2); clear hz2 hb2)
                first
                  | exact ⟨⟨q + 1, Hlq.out, by simp, HZ, HB⟩, hmq _ rfl⟩
                  | exact ⟨⟨q + 1, Hlq.out, congrArg (Value.int .i64) (HWq.out.trans (by simp)), HZ, HB⟩, hmq _ HWq.out⟩
              · obtain rfl : q = ks.length := by omega
                have hd3 : ¬ (ks.length : Int) < (ks.length : Int) := by omega
                have hzz := hz.out
                rw [List.take_of_length_le (Nat.le_refl _)] at hzz
                obtain ⟨A', c', rfl, f3, f3f, S, hS, y0, y1, y2, y3, y4, y5, hO2, hK2⟩ := HQ.out wr _ hzz hb.out
                have HO2 := Lib.hid hO2
                have HK2 := Lib.hid hK2
                have HsS : Hid (Y.heap.size ≤ S.heap.size) := hO2.keep.size
                clear hzz hO2 hK2 hz hb hlq hq t4 t5
                go_wp2_with (at_builtin; refine wpList_appN rfl _ _ _ rfl rfl _ L (formN G e, A', c') rfl HO2.out.nds HK2.out _ rfl rfl HLl.out HsS.out ?_; intro v2 w2 g n1 n4 n5 n6; obtain ⟨A2, c2, hv2⟩ := n1.shape; subst hv2; obtain ⟨⟨z1, z2⟩, hE⟩ := HO2.out.store n1 n4 n5 n6; have HE := Lib.hid hE; clear n1 n4 n5 n6 hE)
                have HE2 : Hid (GoSt Y BO (.slice A2 (L.length + 1) c2) (.slice none 0 0) (L ++ [(formN G e, A', c')]) [] (w2.setCell ⟨BO, 0, none⟩ (.slice A2 (L.length + 1) c2))) := by
                  have h := HE.out
                  rw [List.length_append] at h
                  exact h
                first
                  | exact ⟨⟨k + 1, _, _, Hlt.out, by simp, HE2, Lib.hid (HL2.out A' c')⟩, hmz _ rfl⟩
                  | exact ⟨⟨k + 1, _, _, Hlt.out, congrArg (Value.int .i64) (HWr.out.trans (by simp)), HE2, Lib.hid (HL2.out A' c')⟩, hmz _ HWr.out⟩
          · obtain rfl : k = (orderL G).length := by omega
            have hd2 : ¬ ((orderL G).length : Int) < ((orderL G).length : Int) := by omega
            have hLn : L.map (·.1) = (formG G).nodes := by
              have := hL.out
              rw [List.take_of_length_le (Nat.le_refl _)] at this
              exact this
            have HLn := Lib.hid hLn
            have HG1 : Hid (GoSt Y BO nv (.slice none 0 0) L ((((rootN G).take 0).map (posF (orderL G)))) wr ∧ ∀ e ∈ L, ∀ p, e.2.1 = some p → (Value.slice none 0 0).ownBlock ≠ some p.block) := ⟨hst.out, fun _ _ _ _ h => by cases h⟩
            clear hLn hst hL p0 p1 p2 p3 p4 p5 p6 hlt hk HG0
            go_wp2_with fail
            clear g0 g1
            go_loopw [14] (fun j wz => ∃ (k : Nat) (rv : Value), k ≤ G.roots.length ∧ j = .int .i64 (k : Int) ∧ Hid (GoSt Y BO nv rv L (((rootN G).take k).map (posF (orderL G))) wz ∧ ∀ e ∈ L, ∀ p, e.2.1 = some p → rv.ownBlock ≠ some p.block)) (fun j _ => G.roots.length - (intOf j).toNat)
            case atStart => exact ⟨0, _, Nat.zero_le _, rfl, HG1⟩
            case round =>
              obtain ⟨k, rv, hk, rfl, hst⟩ := hrel
              obtain ⟨p0, p1, p2, p3, p4, p5, p6⟩ := HY.out wr hst.out.1.keep
              have g0 := Lib.cell_of_heap p1 0
              have g1 := Lib.cell_of_heap p1 1
              have hrl : (rootN G).length = G.roots.length := by simp [rootN]
              by_cases hlt : k < G.roots.length
              · obtain ⟨b, off, rfl, hbw, hcc⟩ := p6 (by omega)
                have hck := hcc k hlt
                have hr0 := hRR.roots _ (nth_mem hlt)
                obtain ⟨r, hr⟩ : ∃ r : Nat, nth G.roots k = (r : Int) := ⟨(nth G.roots k).toNat, by omega⟩
                rw [hr] at hck
                have hrn : r < G.nodes.length := by omega
                have htk : (rootN G).take (k + 1) = (rootN G).take k ++ [r] := by
                  have h1 : k < (rootN G).length := by omega
                  rw [List.take_succ_eq_append_getElem h1]
                  congr 2
                  rw [nth_eq hlt] at hr
                  simp [rootN, hr]
                have hry := p3.cell hrn
                obtain ⟨z, hz2⟩ : ∃ z : Nat, posF (orderL G) r = z := ⟨_, rfl⟩
                rw [hz2] at hry
                obtain ⟨lz, hlz⟩ : ∃ l, ((rootN G).take k).map (posF (orderL G)) = l := ⟨_, rfl⟩
                have hlz1 : ((rootN G).take (k + 1)).map (posF (orderL G)) = lz ++ [z] := by rw [htk, List.map_append, hlz]; simp [hz2]
                have HLz := Lib.hid hlz1
                rw [hlz] at hst
                have hll : lz.length ≤ 1000000000 := by
                  have h1 := congrArg List.length hlz
                  simp at h1; omega
                obtain ⟨Ar, cr, hrv, _⟩ := ints_row hst.out.1.rts
                subst hrv
                have b1 := Lib.cell_of_heap hst.out.1.out 1
                have Hst := Lib.hid hst.out
                have hsY : Y.heap.size ≤ wr.heap.size := hst.out.1.keep.size
                have HS : Hid (∀ v' w' (o : Obj) g, (wr.alloc o).grownBy w' (Value.slice Ar lz.length cr).ownBlock → w'.ownsRow Y.heap.size 3 1 v' (lz ++ [z]).length (ncells (lz ++ [z])) → v'.ownBlock = some g → ((Value.slice Ar lz.length cr).ownBlock = some g ∨ g = wr.heap.size + 1) →
                    (w'.cell? ⟨BO, 1, none⟩ = some (.slice Ar lz.length cr) ∧ w'.frozen? ⟨BO, 1, none⟩ = false) ∧ GoSt Y BO nv v' L (((rootN G).take (k + 1)).map (posF (orderL G))) (w'.setCell ⟨BO, 1, none⟩ v') ∧ ∀ e ∈ L, ∀ p, e.2.1 = some p → v'.ownBlock ≠ some p.block) := fun v' w' o g a1 a2 a3 a4 => by
                  rw [HLz.out]
                  exact hst.out.1.root a2 a1 a3 a4 hst.out.2
                have hlt3 : (k : Int) < (G.roots.length : Int) := by omega
                have Hlt := Lib.hid hlt
                have hmz : ∀ z : Int, z = k + 1 → G.roots.length - (intOf (.int .i64 z)).toNat < G.roots.length - (intOf (.int .i64 (k : Int))).toNat := by intro z hz; subst hz; have := Hlt.out; simp only [intOf]; omega
                have HWr : Hid (wrap64 ((k : Int) + 1) = k + 1) := IntWalk.wrap64_in _ (by have := Hlt.out; omega)
                have hal : ∀ b, b < wr.heap.size → ((wr.alloc (.cells #[.int .i64 (z : Int)] 3)).drew).heap[b]? = wr.heap[b]? := fun b hb => Below.heap_alloc wr _ b hb
                have hbo : BO < wr.heap.size := (Array.getElem?_eq_some_iff.1 hst.out.1.out).1
                have hl5 := HL5.out
                have hcl : ∀ (p : Addr) u, p.block < wr.heap.size → wr.cell? p = some u → ((wr.alloc (.cells #[.int .i64 (z : Int)] 3)).drew).cell? p = some u := fun p u hp hu => (World.cell?_of_block (hal p.block hp)).trans hu
                have f0 := hcl ⟨w.heap.size, 1, none⟩ _ (by show w.heap.size < _; omega) g1
                have f1 := hcl ⟨b, off + k, none⟩ _ (by show b < _; omega) hck
                have f2 := hcl ⟨T, r, none⟩ _ (by show T < _; omega) hry
                have f3 := hcl ⟨BO, 1, none⟩ _ hbo b1
                obtain ⟨v', w', hrun, r1, r2, r3, g, r4⟩ := run_appR ((wr.alloc (.cells #[.int .i64 (z : Int)] 3)).drew) (.slice Ar lz.length cr) lz z ((hst.out.1.rts.alloc _).drew) wr.heap.size (by simp) hll (by simp; omega)
                obtain ⟨A2, m2, c2, hv2⟩ : ∃ A m c, v' = .slice A m c := by obtain ⟨A, c, h, _⟩ := ints_row r1; exact ⟨A, _, c, h⟩
                subst hv2
                obtain ⟨⟨z1, z2⟩, hE⟩ := HS.out _ w' (.cells #[.int .i64 (z : Int)] 3) g ⟨r2.os, r2.tape, r2.output, r2.size, r2.block⟩ r1 r4 (own_or (W1 := wr) (o := .cells #[.int .i64 (z : Int)] 3) r3 r4 rfl)
                have HE := Lib.hid hE
                clear hcc hr0 hr htk hz2 hlz hlz1 hst p0 p1 p2 p3 p4 p5 p6 hrl hlt hk hbw hal hcl hbo hl5 r1 r2 r3 r4 hE HS
                go_wp2_with fail
                apply wp_still3 (w2 := w'.setCell ⟨BO, 1, none⟩ (.slice A2 m2 c2))
                · go_region_law (first | (refine step_appRun rfl _ _ rfl (.slice Ar lz.length cr) _ rfl rfl hrun ?_))
                  all_goals exact ⟨rfl, rfl⟩
                obtain ⟨W5, hW5⟩ : ∃ W5, w'.setCell ⟨BO, 1, none⟩ (.slice A2 m2 c2) = W5 := ⟨_, rfl⟩
                rw [hW5] at HE ⊢
                clear hW5 hrun f0 f1 f2 f3 z1 z2 b1 hck hry g0 g1
                go_wp2_with fail
                first
                  | exact ⟨⟨k + 1, _, Hlt.out, by simp, HE⟩, hmz _ rfl⟩
                  | exact ⟨⟨k + 1, _, Hlt.out, congrArg (Value.int .i64) (HWr.out.trans (by simp)), HE⟩, hmz _ HWr.out⟩
              · obtain rfl : k = G.roots.length := by omega
                have hd2 : ¬ (G.roots.length : Int) < (G.roots.length : Int) := by omega
                clear hlt hk
                have htk : (rootN G).take G.roots.length = rootN G := List.take_of_length_le (by omega)
                rw [htk] at hst
                obtain ⟨lr, hlr⟩ : ∃ l, (rootN G).map (posF (orderL G)) = l := ⟨_, rfl⟩
                rw [hlr] at hst
                have b0 := Lib.cell_of_heap hst.out.1.out 0
                have b1 := Lib.cell_of_heap hst.out.1.out 1
                have p20 := Go.Joins.unfrozen_of_block p2 0
                have p21 := Go.Joins.unfrozen_of_block p2 1
                have p22 := Lib.cell_of_heap p2 0
                have p23 := Lib.cell_of_heap p2 1
                have hw2 := Go.Joins.block_setCell (i := 1) (Go.Joins.block_setCell (i := 0) p2 nv) rv
                obtain ⟨NA2, nc2, hnv⟩ := hst.out.1.nds.shape
                obtain ⟨RA2, rc2, hrv, _⟩ := ints_row hst.out.1.rts
                have HF : Hid (FmAt w ((wr.setCell ⟨BR, 0, none⟩ nv).setCell ⟨BR, 1, none⟩ rv) (formG G) nv rv L lr) := by
                  obtain ⟨m1, m2, m3, m4⟩ := HL5.out
                  have hs := hst.out.1.keep.size
                  have hst2 : ∀ b, b ≠ BR → ((wr.setCell ⟨BR, 0, none⟩ nv).setCell ⟨BR, 1, none⟩ rv).heap[b]? = wr.heap[b]? := fun b hl => (Below.heap_setCell _ ⟨BR, 1, none⟩ _ b hl).trans (Below.heap_setCell wr ⟨BR, 0, none⟩ _ b hl)
                  have hrt := hst.out.1.rts
                  have hne := hst.out.1.ne
                  refine ⟨(p0.setCell (p := ⟨BR, 0, none⟩) (by show w.heap.size ≤ BR; omega) _).setCell (p := ⟨BR, 1, none⟩) (by show w.heap.size ≤ BR; omega) _, HLn.out, ?_, (hst.out.1.nds.keep (by simp) fun g hg _ => hst2 g (by omega)).less (by omega), ownsRow_less (ownsRow_same hrt fun b hb _ => hst2 b (by have := (own_place hrt hb).1; omega)) (by omega), hne⟩
                  show lr.map Int.ofNat = G.roots.map (toI G)
                  rw [← hlr]
                  have hkN := rootsNat hRR
                  rw [← hkN, List.map_map, List.map_map]
                  refine List.map_congr_left fun y hy => ?_
                  simp only [Function.comp, toI, posF]
                  rw [if_pos (HO.out.base y hy)]
                  simp
                subst hnv hrv
                clear hst p0 p1 p3 p4 p5 p6 hrl htk hlr
                go_wp2_with fail
                refine bodyPost_ret (results_cell_row rfl _ _ BR _ _ (0, 0) _ rfl hw2 Tryd.underlying25 rfl (by kernel_rfl)) rfl ?_
                first
                  | exact ⟨_, _, L, _, rfl, HF.out⟩
                  | exact ⟨_, _, rfl, L, _, HF.out⟩
end Go.Proofs.YtdcbngimgpdjoaaDoor
