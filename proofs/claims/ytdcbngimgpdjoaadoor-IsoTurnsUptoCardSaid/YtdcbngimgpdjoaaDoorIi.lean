/- iso.met: the nodes that are met from a graph's roots, handed to any body. Conditions: the graph is right; the caller's own cells lie apart from the iterator's. -/
import Derived.Test.YtdcbngimgpdjoaaDoorIw
namespace Go.Proofs.YtdcbngimgpdjoaaDoor
open Go.RowKit Go.Shelf Go.Deep
attribute [local go_sem] Oper.semAt_some
set_option maxRecDepth 100000 in
theorem imet_any (NA : Option Addr) (n nc : Nat) (RA : Option Addr) (m rc : Nat) (w : World) : Calls Tryd.prog 56 #[.agg #[.slice NA n nc, .slice RA m rc]] w fun e w' =>
    e = .returned (.func (.func 71) #[] #[.pointer (some ⟨w.heap.size, 0, none⟩)]) ∧ w.alloc (.cells #[.slice NA n nc, .slice RA m rc] 25) = w' := by
  go_enter Tryd.func56, Tryd.ntmps56
  go_wp2
  go_ret
  exact ⟨rfl, rfl⟩
/-- The iterator's rows: what was met, and the way that is yet to be gone. -/
structure IsSt (N kO gs n : Nat) (vis stk : List Nat) (wv : Value) (W : World) : Prop where
  seen : W.rowIs gs 4 n fun j => .bool (decide (j ∈ vis))
  lo : N ≤ gs
  ne : gs ≠ kO
  way : W.ownsRow N 3 1 wv stk.length (ncells stk.reverse)
  wne : wv.ownBlock ≠ some kO
  wgs : wv.ownBlock ≠ some gs
theorem IsSt.kept {N kO kO' gs n : Nat} {vis stk : List Nat} {wv : Value} {W W' : World} (h : IsSt N kO gs n vis stk wv W) (hb : ∀ g, N ≤ g → g < W.heap.size → g ≠ kO → W'.heap[g]? = W.heap[g]?) (hk : kO' = kO ∨ W.heap.size ≤ kO') : IsSt N kO' gs n vis stk wv W' := by
  have hg := h.seen.lt
  refine ⟨h.seen.of_block (hb gs h.lo hg h.ne), h.lo, ?_, ownsRow_same h.way fun g hg' hlt => hb g (own_place h.way hg').1 hlt (by rintro rfl; exact h.wne hg'), ?_, h.wgs⟩
  · rcases hk with rfl | hk
    · exact h.ne
    · omega
  · rcases hk with rfl | hk
    · exact h.wne
    · intro e; have := (own_place h.way e).2.1; omega
theorem IsSt.pop {N kO gs n i c : Nat} {A : Option Addr} {vis stk : List Nat} {W : World} (h : IsSt N kO gs n vis (i :: stk) (.slice A (i :: stk).length c) W) :
    IsSt N kO gs n vis stk (.slice A stk.length c) W ∧ ∃ g, A = some ⟨g, 0, none⟩ ∧ W.cell? ⟨g, stk.length, none⟩ = some (.int .i64 i) ∧ stk.length + 1 ≤ c := by
  have hf := h.way
  rcases hf.2 with ⟨h0, _⟩ | ⟨g, cap, cur, hv, hb, hg, hn, _⟩
  · cases h0
  · cases hv
    refine ⟨⟨h.seen, h.lo, h.ne, ownsRow_pop (last := ncells [i]) (by simp [ncells]) (by simpa [ncells] using hf), h.wne, h.wgs⟩, g, rfl, ?_, by simpa using hn⟩
    have := hf.cellAt stk.length (by simp)
    rw [this]
    simp [ncells]
theorem IsSt.mark {N kO gs n i : Nat} {vis stk : List Nat} {wv : Value} {W : World} (h : IsSt N kO gs n vis stk wv W) : IsSt N kO gs n (vis ++ [i]) stk wv (W.setCell ⟨gs, i, none⟩ (.bool true)) := by
  refine ⟨(h.seen.set i (.bool true)).congr fun j _ => ?_, h.lo, h.ne, ownsRow_same h.way fun g hg' hlt => Below.heap_setCell W ⟨gs, i, none⟩ _ g (by rintro rfl; exact h.wgs hg'), h.wne, h.wgs⟩
  by_cases e : j = i <;> simp [e]
theorem IsSt.shape {N kO gs n : Nat} {vis stk : List Nat} {wv : Value} {W : World} (h : IsSt N kO gs n vis stk wv W) : ∃ A c, wv = .slice A stk.length c := by
  obtain ⟨A, c, hu, _⟩ := ints_row (l := stk.reverse) (by simpa using h.way)
  exact ⟨A, c, by simpa using hu⟩
/-- Behind 'append': the Kids stand on the way. -/
theorem IsSt.push {N kO gs n : Nat} {vis stk ks : List Nat} {wv v' : Value} {W w' : World} (h : IsSt N kO gs n vis stk wv W) (hk : kO < W.heap.size) (hg : W.grownBy w' wv.ownBlock)
    (hv : w'.ownsRow N 3 1 v' (stk.reverse ++ ks.reverse).length (ncells (stk.reverse ++ ks.reverse))) (hg2 : v'.ownBlock = wv.ownBlock ∨ v'.ownBlock = some W.heap.size) : IsSt N kO gs n vis (ks ++ stk) v' w' ∧ Frm N kO W w' := by
  have hgs := h.seen.lt
  refine ⟨⟨h.seen.of_block (hg.block gs hgs fun e => h.wgs e.symm), h.lo, h.ne, by simpa [Nat.add_comm] using hv, ?_, ?_⟩, ⟨hg.os, hg.tape, hg.output, hg.size, fun g hlt hk2 => hg.block g hlt fun e => ?_⟩⟩
  · rcases hg2 with e | e
    · rw [e]; exact h.wne
    · rw [e]; intro e2; cases e2; omega
  · rcases hg2 with e | e
    · rw [e]; exact h.wgs
    · rw [e]; intro e2; cases e2; omega
  · have := (own_place h.way e.symm).1
    rcases hk2 with h2 | rfl
    · omega
    · exact h.wne e.symm
/-- A caller's state, by what was told, with a block of its own. -/
structure CalI (C : List Nat → Nat → World → Prop) (N : Nat) (G : Gr) (NA RA : Option Addr) (nc rc B1 : Nat) : Prop where
  frm : ∀ vis kO W W', C vis kO W → Frm N kO W W' → C vis kO W'
  lt : ∀ vis kO W, C vis kO W → kO < W.heap.size ∧ N ≤ W.heap.size
  cells : ∀ vis kO W, C vis kO W → W.cell? ⟨B1, 0, none⟩ = some (.slice NA G.nodes.length nc) ∧ W.cell? ⟨B1, 1, none⟩ = some (.slice RA G.roots.length rc)
  nodes : ∀ vis kO W, C vis kO W → NdsAt W N NA G.nodes
  roots : ∀ vis kO W, C vis kO W → IntsAt W N RA G.roots
theorem keeps_own {W W' : World} {N s n : Nat} {e : TypeId} {v : Value} {xs : List Value} (ho : W.ownsRow N e s v n xs) (hg : W.grownBy W' v.ownBlock) : KeepsOthers W W' :=
  KeepsOthers.of_grownBy hg fun j o ej hj => by
    rcases ho.2 with ⟨rfl, _⟩ | ⟨g, cap, cur, rfl, _, hg', _⟩
    · cases ej
    · cases ej; rw [hg'] at hj; cases hj; rfl
/-- Behind a clone that was turned round. -/
theorem below_turned {W X Y : World} {v : Value} {n : Nat} {xs : List Value} (hb : Below W.heap.size W X) (ho : X.ownsRow W.heap.size 3 1 v n xs) (hg : X.grownBy Y v.ownBlock) : Below W.heap.size W Y :=
  Below.grown hb hg hb.size fun _ hj => (own_place ho hj).1
structure IsTold where
  i : Nat
  vis : List Nat
  gs : Nat
  wv : Value
  stk : List Nat
structure IsRd (C : List Nat → Nat → World → Prop) (N : Nat) (G : Gr) (s : IsTold) (W : World) : Prop where
  st : ∃ kO, C s.vis kO W ∧ IsSt N kO s.gs G.nodes.length (s.vis ++ [s.i]) s.stk s.wv W
  nd : (s.vis ++ [s.i]).Nodup
  lt : ∀ x ∈ s.vis ++ [s.i], x < G.nodes.length
def IsAf (C : List Nat → Nat → World → Prop) (N : Nat) (G : Gr) (s : IsTold) (W : World) : Prop := ∃ kO, C (s.vis ++ [s.i]) kO W ∧ IsSt N kO s.gs G.nodes.length (s.vis ++ [s.i]) s.stk s.wv W
theorem kidsNat {G : Gr} (h : RightG G) {i : Nat} (hi : i < G.nodes.length) : (kidN G i).map Int.ofNat = (nd G.nodes i).kids := by
  unfold kidN
  rw [List.map_map]
  conv => rhs; rw [← List.map_id (nd G.nodes i).kids]
  refine List.map_congr_left fun z hz => ?_
  have := (h.kids i hi z hz).1
  simp [Function.comp]; omega
theorem rootsNat {G : Gr} (h : RightR G) : (rootN G).map Int.ofNat = G.roots := by
  unfold rootN
  rw [List.map_map]
  conv => rhs; rw [← List.map_id G.roots]
  refine List.map_congr_left fun z hz => ?_
  have := (h.roots z hz).1
  simp [Function.comp]; omega
set_option maxRecDepth 100000 in
set_option maxHeartbeats 2000000 in
theorem isoIter (G : Gr) (NA RA : Option Addr) (nc rc lp B1 N : Nat) (C : List Nat → Nat → World → Prop) (W : World) (hR : RightR G) (hC : CalI C N G NA RA nc rc B1)
    (k0 : Nat) (h0 : C [] k0 W) (hN : N = W.heap.size)
    (Bk : World → Prop) (Bx : Code → World → Prop) (keep : ∀ A B, KeepsOthers A B → Bk A → Bk B)
    (hY : ∀ (s : IsTold) (W1 : World), IsRd C N G s W1 → Bk W1 → YieldAt Fence.wide (3 - 1 - 1) Tryd.prog lp #[.int .i64 (s.i : Int)] W1 fun e W' =>
      (e = .returned (.bool true) ∧ IsAf C N G s W' ∧ Bk W') ∨ (e = .returned (.bool false) ∧ ∃ cd, False ∧ Bx cd W'))
    (hk : Bk W) :
    CallsIn Fence.wide (3 - 1) Tryd.prog 71 #[.func (.yield lp) #[] #[], .pointer (some ⟨B1, 0, none⟩)] W fun e W' => (∃ v, e = .returned v) ∧
      (((∃ kO, C (orderL G) kO W') ∧ Bk W') ∨ (∃ cd, False ∧ Bx cd W')) := by
  obtain ⟨c0, c1⟩ := hC.cells _ _ _ h0
  have hn := hR.nodes
  have hm := hR.many
  have hmake := run_make_row' (P := Tryd.prog) 68 4 (.bool false) 1 rfl Tryd.infoBoolM rfl .i64 .i64 G.nodes.length (by omega) (by omega) W
  obtain ⟨V, hV⟩ : ∃ V, W.alloc (.cells (madeCells #[.bool false] G.nodes.length) 4) = V := ⟨_, rfl⟩
  rw [hV] at hmake
  have hWV : Below W.heap.size W V := by rw [← hV]; exact (Below.refl _ W).alloc (Nat.le_refl _) _
  have hsV : V.heap.size = W.heap.size + 1 := by rw [← hV]; simp
  have hrow : V.rowIs N 4 G.nodes.length fun _ => .bool false := by rw [hN, ← hV]; exact World.rowIs_made _ _ _ _
  have hCV : C [] k0 V := hC.frm _ _ _ _ h0 (.of_below hWV)
  obtain ⟨d0, d1⟩ := hC.cells _ _ _ hCV
  have hk0 := (hC.lt _ _ _ h0).1
  have hkV : Bk V := keep _ _ (keeps_of_below hWV) hk
  have hIR : IntsAt V V.heap.size RA ((rootN G).map Int.ofNat) := by rw [rootsNat hR]; exact (hC.roots _ _ _ hCV).more (by omega)
  have hrl : (rootN G).length = G.roots.length := by simp [rootN]
  have hCl := Clone_any RA rc (rootN G) V (by omega) hIR
  rw [hrl] at hCl
  have HCl := Lib.hid hCl
  have HCV := Lib.hid hCV
  have HkV := Lib.hid hkV
  have HRow : Hid (V.rowIs N 4 G.nodes.length fun j => .bool (decide (j ∈ ([] : List Nat)))) := hrow.congr fun j _ => by simp
  have HRl := Lib.hid hrl
  have HLT : Hid (V.heap.size = N + 1 ∧ k0 < N ∧ (rootN G).length ≤ 20000) := ⟨by omega, by omega, by omega⟩
  have HWay : Hid (Way (kidN G) G.nodes.length (orderL G) 40001 [] (rootN G)) := hR.way
  clear hIR hrl hCl hkV hCV hrow hsV hWV hV hk h0 hk0
  rw [← hN] at hmake
  clear hN hm hn
  refine callsIn_of_wp Tryd.func71 rfl trivial ?_ rfl
  simp only [Tryd.ntmps71, List.size_toArray, List.length_cons, List.length_nil, Nat.reduceAdd, Nat.reduceSub, Array.replicate_succ, Array.replicate_zero, List.push_toArray, List.append_toArray, List.nil_append, List.cons_append]
  have HRev : Hid (∀ X v, V.heap.size ≤ X.heap.size → X.ownsRow V.heap.size 3 1 v (rootN G).length (ncells (rootN G)) → Calls Tryd.prog 73 #[v] X fun e w' => e = .returned (.tuple #[]) ∧ w'.ownsRow V.heap.size 3 1 v (rootN G).reverse.length (ncells (rootN G).reverse) ∧ X.grownBy w' v.ownBlock) := fun X v hX h => Reverse_any _ v (rootN G) X (by have := HLT.out; omega) h
  gi_wp2_with (first
    | (refine ⟨trivial, ?_⟩; gi_at_call 73; refine (callsIn_wide.2 HX.out).mono ?_; rintro e Y ⟨rfl, ho2, hg2⟩
       have Ho2 := Lib.hid ho2
       have HbY := Lib.hid (below_turned HbX.out HoX.out hg2)
       clear ho2 hg2)
    | (refine ⟨trivial, ?_⟩; gi_at_call 72; refine (callsIn_wide.2 HCl.out).mono ?_; rintro e X ⟨v1, rfl, ho, hbX⟩
       rw [← HRl.out] at ho
       have HoX := Lib.hid ho
       have HbX := Lib.hid hbX
       have HX := Lib.hid (HRev.out X v1 hbX.size ho)
       clear ho hbX))
  have HIs : Hid (IsSt N k0 N G.nodes.length [] (rootN G) v1 Y) := by
    have hL := HLT.out
    have hb := HbY.out
    have ho := Ho2.out
    refine ⟨HRow.out.of_block (hb.block N (by omega)), Nat.le_refl _, by omega, ?_, ?_, ?_⟩
    · have := Go.Joins.ownsRow_le ho (show N ≤ V.heap.size by omega)
      rwa [List.length_reverse] at this
    · intro e; have := (own_place ho e).1; omega
    · intro e; have := (own_place ho e).1; omega
  have HCY : Hid (C [] k0 Y) := hC.frm _ _ _ _ HCV.out (.of_below HbY.out)
  have HkY : Hid (Bk Y) := keep _ _ (keeps_of_below HbY.out) HkV.out
  obtain ⟨A1, cw1, hv1⟩ := HIs.out.shape
  subst hv1
  clear HCl HRev HX HoX HbX Ho2 HbY HRow HCV HkV d0 d1 c0 c1 hmake HRl
  gi_loopg [4] 40001 (fun gk way wr => gk ≤ 40001 ∧ ∃ (vis stk : List Nat) (kO : Nat) (A : Option Addr) (cw : Nat), way = .slice A stk.length cw ∧ Hid (Way (kidN G) G.nodes.length (orderL G) gk vis stk) ∧ Hid (IsSt N kO N G.nodes.length vis stk (.slice A stk.length cw) wr) ∧ Hid (C vis kO wr) ∧ Hid (Bk wr))
  case atStart => exact ⟨Nat.le_refl _, [], rootN G, k0, A1, cw1, rfl, HWay, HIs, HCY, HkY⟩
  case round =>
    obtain ⟨hgk, vis, stk, kO, A, cw, rfl, hw, hit, hc, hbk⟩ := hrel
    obtain ⟨e0, e1⟩ := hC.cells _ _ _ hc.out
    clear HIs HCY HkY HWay
    cases stk with
    | nil =>
      have HT : Hid (vis = orderL G) := hw.out.fin
      clear hC hY
      gi_wp2
      refine bodyPost_end (results_none rfl _ _ _) rfl ?_
      exact ⟨⟨_, rfl⟩, .inl ⟨⟨kO, HT.out ▸ hc.out⟩, hbk.out⟩⟩
    | cons i stk =>
      obtain ⟨hpop, gw, rfl, htop, hcw⟩ := hit.out.pop
      have hsl : (stk.length : Int) + 1 - 1 = stk.length := by omega
      have hil : i < G.nodes.length := hw.out.slt i List.mem_cons_self
      have hsee := hit.out.seen.cell hil
      have hroom := hw.out.room
      have HSl : Hid (stk.length < 40001) := by unfold room at hroom; simp at hroom; show _ < _; omega
      have hw64 : wrap64 (stk.length : Int) = stk.length := IntWalk.wrap64_in _ (by have := HSl.out; omega)
      have Hit := Lib.hid hpop
      clear hroom hsl hpop hit
      simp only [List.length_cons]
      by_cases hv : i ∈ vis
      · obtain ⟨g, rfl, hw2⟩ := hw.out.pop hv
        have HW2 := Lib.hid hw2
        clear hw2 hw
        gi_wp2
        gi_roundg g
        case rel => exact ⟨by omega, vis, stk, kO, _, cw, rfl, HW2, Hit, hc, hbk⟩
        case measure => omega
      · obtain ⟨g, rfl, hw2⟩ := hw.out.push hv (hR.lt hil)
        have HW2 := Lib.hid hw2
        have hfz := Hit.out.seen.frozen i
        have HM : Hid (IsSt N kO N G.nodes.length (vis ++ [i]) stk (.slice (some ⟨gw, 0, none⟩) stk.length cw) (wr.setCell ⟨N, i, none⟩ (.bool true))) := Hit.out.mark
        have HCm : Hid (C vis kO (wr.setCell ⟨N, i, none⟩ (.bool true))) := hC.frm _ _ _ _ hc.out (.setCell _ _ (Nat.le_refl _) Hit.out.ne)
        have HBm : Hid (Bk (wr.setCell ⟨N, i, none⟩ (.bool true))) := keep _ _ (KeepsOthers.setCell _ _ _) hbk.out
        have HYd := Lib.hid (hY ⟨i, vis, N, .slice (some ⟨gw, 0, none⟩) stk.length cw, stk⟩ _ ⟨⟨kO, HCm.out, HM.out⟩, hw2.nd, hw2.vlt⟩ HBm.out)
        have HC := Lib.hid hC
        have HK := Lib.hid (fun A B => keep A B)
        clear hw2 hY hC
        obtain ⟨fn, tmps, assign, body, hy, hR3⟩ := HYd.out
        have HRr := Lib.hid hR3
        clear hR3 HYd
        gi_wp2
        refine HRr.out.mono ?_
        rintro e W3 (⟨rfl, haf, hk3⟩ | ⟨rfl, cd, hF, _⟩)
        · obtain ⟨kO3, hc3, hit3⟩ := haf
          simp only at hc3 hit3
          obtain ⟨f0, f1⟩ := HC.out.cells _ _ _ hc3
          obtain ⟨b, off, rfl, hbl, hnds⟩ := HC.out.nodes _ _ _ hc3 (by omega)
          obtain ⟨K, kc, hnd⟩ := hnds i hil
          have hkN := kidsNat hR.toRightG hil
          have hkI : IntsAt W3 W3.heap.size K ((kidN G i).map Int.ofNat) := by rw [hkN]; exact hnd.kids.more (HC.out.lt _ _ _ hc3).2
          have hkl : (nd G.nodes i).kids.length = (kidN G i).length := by rw [← hkN]; simp
          have hc3' := hnd.c3
          rw [hkl] at hc3'
          obtain ⟨ks, hks⟩ : ∃ ks, kidN G i = ks := ⟨_, rfl⟩
          have HKL : Hid (ks.length + stk.length ≤ 40001) := by
            have := HW2.out.room
            unfold room at this
            rw [hks] at this
            simp at this
            show _ ≤ _; omega
          rw [hks] at hkI hc3' HW2
          have HCl := Lib.hid (Clone_any K kc ks W3 (by have := HKL.out; omega) hkI)
          have HRv : Hid (∀ X v, X.ownsRow W3.heap.size 3 1 v ks.length (ncells ks) → Calls Tryd.prog 73 #[v] X fun e w' => e = .returned (.tuple #[]) ∧ w'.ownsRow W3.heap.size 3 1 v ks.reverse.length (ncells ks.reverse) ∧ X.grownBy w' v.ownBlock) := fun X v h => Reverse_any _ v ks X (by have := HKL.out; omega) h
          have HNx : Hid (∀ Z, Below W3.heap.size W3 Z → C (vis ++ [i]) kO3 Z ∧ IsSt N kO3 N G.nodes.length (vis ++ [i]) stk (.slice (some ⟨gw, 0, none⟩) stk.length cw) Z ∧ Bk Z ∧ kO3 < Z.heap.size ∧ N ≤ Z.heap.size) := fun Z hZ => by
            have h1 := HC.out.lt _ _ _ hc3
            exact ⟨HC.out.frm _ _ _ _ hc3 (.of_below hZ), hit3.kept (fun g _ hg _ => hZ.block g hg) (.inl rfl), HK.out _ _ (keeps_of_below hZ) hk3, by have := hZ.size; omega, by have := hZ.size; omega⟩
          have HFm : Hid (∀ Z w', C (vis ++ [i]) kO3 Z → Frm N kO3 Z w' → C (vis ++ [i]) kO3 w') := fun Z w' h h' => HC.out.frm _ _ _ _ h h'
          clear hnd hnds hkl hkN hkI hit3 hc3 hk3 e0 e1 htop hsee hfz HM HCm HBm hbk hc Hit HRr hy hks
          gi_wp2_with (first
            | (gi_at_builtin; refine wpListIn_appL rfl _ _ _ rfl rfl _ _ stk.reverse ks.reverse rfl HQ.out.1 rfl HQ.out.2.1 HQ.out.2.2.1 HQ.out.2.2.2 ?_; intro v' w' r1 r2 r3; have HE := Lib.hid (HP.out v' w' r1 r2 r3); clear r1 r2 r3)
            | (refine ⟨trivial, ?_⟩; gi_at_call 73; refine (callsIn_wide.2 (HRv.out _ _ HoX.out)).mono ?_; rintro e Y ⟨rfl, ho2, hg2⟩
               have hbY := below_turned HbX.out HoX.out hg2
               obtain ⟨n1, n2, n3, n4, n5⟩ := HNx.out Y hbY
               have HQ : Hid (Y.ownsRow N 3 1 (.slice (some ⟨gw, 0, none⟩) stk.length cw) stk.reverse.length (ncells stk.reverse) ∧ Y.ownsRow W3.heap.size 3 1 v1 ks.reverse.length (ncells ks.reverse) ∧ stk.reverse.length + ks.reverse.length ≤ 1000000000 ∧ N ≤ Y.heap.size) := ⟨by rw [List.length_reverse]; exact n2.way, ho2, by have := HKL.out; simp; omega, n5⟩
               have HP : Hid (∀ v' w', w'.ownsRow N 3 1 v' (stk.reverse ++ ks.reverse).length (ncells (stk.reverse ++ ks.reverse)) → Y.grownBy w' (Value.slice (some ⟨gw, 0, none⟩) stk.length cw).ownBlock → (v'.ownBlock = (Value.slice (some ⟨gw, 0, none⟩) stk.length cw).ownBlock ∨ v'.ownBlock = some Y.heap.size) → (∃ A' c', v' = .slice A' (ks ++ stk).length c') ∧ IsSt N kO3 N G.nodes.length (vis ++ [i]) (ks ++ stk) v' w' ∧ C (vis ++ [i]) kO3 w' ∧ Bk w') := fun v' w' r1 r2 r3 => by
                 obtain ⟨q1, q2⟩ := n2.push n4 r2 r1 r3
                 exact ⟨q1.shape, q1, HFm.out _ _ n1 q2, HK.out _ _ (keeps_own n2.way r2) n3⟩
               clear ho2 hg2 hbY n1 n2 n3 n4 n5)
            | (refine ⟨trivial, ?_⟩; gi_at_call 72; refine (callsIn_wide.2 HCl.out).mono ?_; rintro e X ⟨v1, rfl, ho, hbX⟩
               have HoX := Lib.hid ho
               have HbX := Lib.hid hbX
               clear ho hbX))
          obtain ⟨⟨A', c', rfl⟩, q1, q2, q3⟩ := HE.out
          gi_roundg g
          case rel => exact ⟨by omega, vis ++ [i], ks ++ stk, kO3, A', c', rfl, HW2, Lib.hid q1, Lib.hid q2, Lib.hid q3⟩
          case measure => omega
        · exact hF.elim
end Go.Proofs.YtdcbngimgpdjoaaDoor
