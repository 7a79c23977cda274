/- The reference's Same (marginaliaref17). Conditions: as May's. -/
import Derived.Test.YtdcbngimgpdjoaaDoorJg
import Derived.Test.YtdcbngimgpdjoaaDoorRp
namespace Go.Proofs.YtdcbngimgpdjoaaDoor
open Go.RowKit Go.Shelf Go.Deep
def bareK (e : NdK) : NdK := (bareN e.1, e.2)
def bk (L : List NdK) (k : Nat) : List NdK := (L.take k).map bareK ++ L.drop k
theorem bk_len (L : List NdK) (k : Nat) : (bk L k).length = L.length := by simp [bk]; omega
theorem bk_at {L : List NdK} {k j : Nat} (h : j < L.length) : (bk L k)[j]'(by rw [bk_len]; exact h) = if j < k then bareK L[j] else L[j] := by
  simp only [bk]
  by_cases hj : j < k
  · rw [List.getElem_append_left (by simp; omega)]; simp [hj]
  · rw [List.getElem_append_right (by simp; omega)]
    simp only [List.getElem_drop, List.length_map, List.length_take, if_neg hj]
    congr 1
    omega
theorem bk_succ {L : List NdK} {k : Nat} (h : k < L.length) : bk L (k + 1) = (bk L k).set k (bareK L[k]) := by
  apply List.ext_getElem
  · simp [bk_len]
  · intro j h1 h2
    have hj : j < L.length := by rw [bk_len] at h1; exact h1
    rw [bk_at hj, List.getElem_set]
    by_cases e : k = j
    · subst e; simp
    · rw [if_neg e, bk_at hj]
      by_cases h3 : j < k
      · rw [if_pos h3, if_pos (by omega)]
      · rw [if_neg h3, if_neg (by omega)]
theorem bk_zero (L : List NdK) : bk L 0 = L := by simp [bk]
theorem bk_full (L : List NdK) : bk L L.length = L.map bareK := by simp [bk]
theorem nrow_len (e : NdK) : (nrow e).length = 5 := rfl
theorem nrows_len (L : List NdK) : (nrows L).length = L.length * 5 := by
  induction L with
  | nil => rfl
  | cons a L ih => simp only [nrows, List.flatMap_cons, List.length_append, nrow_len, List.length_cons] at *; omega
theorem nrows_bare {L : List NdK} {k : Nat} (h : k < L.length) : nrows (L.set k (bareK L[k])) = (nrows L).set (k * 5 + 4) (.bool false) := by
  apply List.ext_getElem?
  intro j
  by_cases hj : j < L.length * 5
  · obtain ⟨q, r, hr, rfl⟩ : ∃ q r, r < 5 ∧ j = q * 5 + r := ⟨j / 5, j % 5, Nat.mod_lt _ (by omega), by omega⟩
    have hq : q < L.length := by omega
    rw [nrows_get _ q r (by rw [List.length_set]; exact hq) hr, List.getElem?_set, List.getElem_set]
    by_cases e : k = q
    · subst e
      rw [if_pos rfl]
      match r, hr with
      | 0, _ => rw [if_neg (by omega), nrows_get L k 0 hq (by omega)]; rfl
      | 1, _ => rw [if_neg (by omega), nrows_get L k 1 hq (by omega)]; rfl
      | 2, _ => rw [if_neg (by omega), nrows_get L k 2 hq (by omega)]; rfl
      | 3, _ => rw [if_neg (by omega), nrows_get L k 3 hq (by omega)]; rfl
      | 4, _ => rw [if_pos rfl, if_pos (by rw [nrows_len]; omega)]; rfl
    · rw [if_neg e, if_neg (by omega), nrows_get L q r hq hr]
  · rw [List.getElem?_eq_none (by rw [nrows_len, List.length_set]; omega), List.getElem?_eq_none (by rw [List.length_set, nrows_len]; omega)]
/-- A row of nodes is written, and nothing else. -/
structure BkSt (X : World) (N : Nat) (nv : Value) (L : List NdK) (W : World) : Prop where
  os : W.os = X.os
  tape : W.tape = X.tape
  output : W.output = X.output
  size : W.heap.size = X.heap.size
  block : ∀ b, nv.ownBlock ≠ some b → W.heap[b]? = X.heap[b]?
  nds : NdsOwn W N nv L
theorem BkSt.set {X W : World} {N g c k n : Nat} {L : List NdK} (h : BkSt X N (.slice (some ⟨g, 0, none⟩) n c) L W) (hn : L.length = n) (hk : k < L.length) :
    BkSt X N (.slice (some ⟨g, 0, none⟩) n c) (L.set k (bareK L[k])) (W.setCell ⟨g, k * 5 + 4, none⟩ (.bool false)) := by
  subst hn
  have hb : ∀ b, b ≠ g → (W.setCell ⟨g, k * 5 + 4, none⟩ (.bool false)).heap[b]? = W.heap[b]? := fun b hl => Below.heap_setCell W ⟨g, k * 5 + 4, none⟩ _ b hl
  refine ⟨h.os, h.tape, h.output, by simp [h.size], fun b hn => (hb b (fun e => hn (by rw [e]; rfl))).trans (h.block b hn), ?_, fun e he => ?_⟩
  · have := (h.nds.own.stored (k * 5 + 4) (.bool false)).1
    rw [← nrows_bare hk] at this
    rw [List.length_set]
    exact this
  · have key : ∀ e0 ∈ L, KidOk (W.setCell ⟨g, k * 5 + 4, none⟩ (.bool false)) N (.slice (some ⟨g, 0, none⟩) L.length c) e0 := fun e0 h0 => (h.nds.kids e0 h0).keep (by simp) fun b _ _ hn => hb b (fun e => hn (by rw [e]; rfl))
    rcases List.mem_or_eq_of_mem_set he with h0 | rfl
    · exact key e h0
    · have := key L[k] (List.getElem_mem hk)
      exact ⟨this.ints, this.room, this.nil, this.own⟩
/-- The next node is stripped. -/
theorem BkSt.next {X W : World} {N c k : Nat} {A : Option Addr} {L : List NdK} (h : BkSt X N (.slice A L.length c) (bk L k) W) (hk : k < L.length) :
    ∃ g, A = some ⟨g, 0, none⟩ ∧ (∃ b, W.cell? ⟨g, k * 5 + 4, none⟩ = some (.bool b)) ∧ W.frozen? ⟨g, k * 5 + 4, none⟩ = false ∧ BkSt X N (.slice A L.length c) (bk L (k + 1)) (W.setCell ⟨g, k * 5 + 4, none⟩ (.bool false)) := by
  have hl := bk_len L k
  have ho := h.nds.own
  obtain ⟨g, rfl⟩ : ∃ g, A = some ⟨g, 0, none⟩ := by
    rcases ho.2 with ⟨e, h0⟩ | ⟨g, cap, cur, e, _⟩
    · omega
    · exact ⟨g, (Value.slice.inj e).1⟩
  rw [hl] at ho
  have hkb : k < (bk L k).length := by omega
  have hc := ho.cellAt (k * 5 + 4) (by omega)
  rw [nrows_get _ k 4 hkb (by omega)] at hc
  have hs := h.set hl hkb
  have hg : (bk L k)[k] = L[k] := by rw [bk_at hk]; simp
  rw [hg, ← bk_succ hk] at hs
  exact ⟨g, rfl, ⟨_, hc⟩, ho.frozenAt _, hs⟩
theorem NdsOwn.off {W W' : World} {N : Nat} {v : Value} {L : List NdK} (h : NdsOwn W N v L) (hs : W.heap.size ≤ W'.heap.size) (h1 : ∀ b, v.ownBlock = some b → W'.heap[b]? = W.heap[b]?) (h2 : ∀ e ∈ L, ∀ p, e.2.1 = some p → W'.heap[p.block]? = W.heap[p.block]?) : NdsOwn W' N v L :=
  ⟨ownsRow_same h.own fun g hg _ => h1 g hg, fun e he => ⟨ints_keep (h.kids e he).ints hs fun p hp => h2 e he p hp, (h.kids e he).room, (h.kids e he).nil, fun p hp => ⟨((h.kids e he).own p hp).1, Nat.lt_of_lt_of_le ((h.kids e he).own p hp).2.1 hs, ((h.kids e he).own p hp).2.2⟩⟩⟩
theorem BkSt.below {B : Nat} {w X W : World} {N : Nat} {nv : Value} {L : List NdK} (h : BkSt X N nv L W) (hw : Below B w X) (hn : ∀ b, nv.ownBlock = some b → B ≤ b) : Below B w W :=
  ⟨h.os.trans hw.os, h.tape.trans hw.tape, h.output.trans hw.output, by rw [h.size]; exact hw.size, fun b hb => (h.block b (fun e => by have := hn b e; omega)).trans (hw.block b hb)⟩
set_option maxRecDepth 100000 in
set_option maxHeartbeats 4000000 in
theorem RSame_any (G H : Gr) (u v : Value) (w : World) (hG : GrAt w w.heap.size G u) (hH : GrAt w w.heap.size H v) (okG : G.okR) (okH : H.okR) :
    Calls Tryd.prog 31 #[u, v] w fun e w' => e = .returned (.bool (sameB G H)) ∧ Below w.heap.size w w' := by
  have HR1 : Hid (∀ W, Below w.heap.size w W → Calls Tryd.prog 19 #[u] W fun e w' => e = .returned (.bool (rightB G)) ∧ Below W.heap.size W w') := fun W hW => RRight_any G u W ((hG.below hW (Nat.le_refl _)).more hW.size) okG
  have HR2 : Hid (∀ W, Below w.heap.size w W → Calls Tryd.prog 19 #[v] W fun e w' => e = .returned (.bool (rightB H)) ∧ Below W.heap.size W w') := fun W hW => RRight_any H v W ((hH.below hW (Nat.le_refl _)).more hW.size) okH
  have HF1 : Hid (∀ W, Below w.heap.size w W → Calls Tryd.prog 34 #[u] W fun e w' => ∃ nv rv L l, e = .returned (.agg #[nv, rv]) ∧ FmAt W w' (formB G) nv rv L l) := fun W hW => RForm_any G u W ((hG.below hW (Nat.le_refl _)).more hW.size) okG
  have HF2 : Hid (∀ W, Below w.heap.size w W → Calls Tryd.prog 34 #[v] W fun e w' => ∃ nv rv L l, e = .returned (.agg #[nv, rv]) ∧ FmAt W w' (formB H) nv rv L l) := fun W hW => RForm_any H v W ((hH.below hW (Nat.le_refl _)).more hW.size) okH
  obtain ⟨NA, nc, RA, rc, rfl, _, _⟩ := hG.ex
  obtain ⟨NB, mc, RB, sc, rfl, _, _⟩ := hH.ex
  obtain ⟨U, hU, hbU, hrU, hsU⟩ := boxCs w #[.slice NA G.nodes.length nc, .slice RA G.roots.length rc] 25
  obtain ⟨V, hV, hbV, hrV, hsV⟩ := boxCs U #[.slice NB H.nodes.length mc, .slice RB H.roots.length sc] 25
  have hrU2 := (hbV.block w.heap.size (by omega)).trans hrU
  rw [hsU] at hrV
  have HbV := Lib.hid (below_then hbU hbV)
  have HC : Hid (∀ W, Below V.heap.size V W → W.cell? ⟨w.heap.size, 0, none⟩ = some (.slice NA G.nodes.length nc) ∧ W.cell? ⟨w.heap.size, 1, none⟩ = some (.slice RA G.roots.length rc) ∧ W.cell? ⟨w.heap.size + 1, 0, none⟩ = some (.slice NB H.nodes.length mc) ∧ W.cell? ⟨w.heap.size + 1, 1, none⟩ = some (.slice RB H.roots.length sc) ∧ Below w.heap.size w W) := fun W hW => by
    have a := (hW.block w.heap.size (by omega)).trans hrU2
    have b := (hW.block (w.heap.size + 1) (by omega)).trans hrV
    exact ⟨Lib.cell_of_heap a 0, Lib.cell_of_heap a 1, Lib.cell_of_heap b 0, Lib.cell_of_heap b 1, below_then HbV.out hW⟩
  obtain ⟨v0, v1, v2, v3, _⟩ := HC.out V (Below.refl _ _)
  obtain ⟨R, hR⟩ : ∃ R, sameB G H = R := ⟨_, rfl⟩
  have HR : Hid (R = (rightB G && rightB H && decide (bareG (formG G) = bareG (formG H)))) := by show _ = _; rw [← hR]; rfl
  rw [hR]
  obtain ⟨r1, h1⟩ : ∃ b, rightB G = b := ⟨_, rfl⟩
  obtain ⟨r2, h2⟩ : ∃ b, rightB H = b := ⟨_, rfl⟩
  rw [h1] at HR1 HR
  rw [h2] at HR2 HR
  cases r1 with
  | false =>
    have HE : Hid (R = false) := by show _ = _; rw [HR.out]; rfl
    clear hG hH okG okH hR h1 h2 HF1 HF2 HR hbU hrU hbV hrV hsV hrU2
    go_enter Tryd.func31, Tryd.ntmps31
    go_wp2_with (go_at_call 19; refine (HR1.out V HbV.out).mono ?_; rintro e w1 ⟨rfl, hb1⟩; obtain ⟨x0, x1, x2, x3, x4⟩ := HC.out w1 hb1; have X4 := Lib.hid x4; clear hb1 x4)
    go_ret
    exact ⟨ret_bool HE.out.symm, X4.out⟩
  | true =>
    cases r2 with
    | false =>
      have HE : Hid (R = false) := by show _ = _; rw [HR.out]; rfl
      clear hG hH okG okH hR h1 h2 HF1 HF2 HR hbU hrU hbV hrV hsV hrU2
      go_enter Tryd.func31, Tryd.ntmps31
      go_wp2_with (first
        | (go_at_call 19; refine (HR2.out w1 (HC.out w1 Hb1.out).2.2.2.2).mono ?_; rintro e w2 ⟨rfl, hb2⟩; have Hb2 := Lib.hid (below_then (HC.out w1 Hb1.out).2.2.2.2 hb2); clear hb2)
        | (go_at_call 19; refine (HR1.out V HbV.out).mono ?_; rintro e w1 ⟨rfl, hb1⟩; obtain ⟨x0, x1, x2, x3, _⟩ := HC.out w1 hb1; have Hb1 := Lib.hid hb1; clear hb1))
      go_ret
      exact ⟨ret_bool HE.out.symm, Hb2.out⟩
    | true =>
      have hf1 : formB G = formG G := by rw [formB, h1]; rfl
      have hf2 : formB H = formG H := by rw [formB, h2]; rfl
      have g1 := formG_right (RightR.of h1)
      have g2 := formG_right (RightR.of h2)
      rw [hf1] at HF1
      rw [hf2] at HF2
      obtain ⟨P, hP⟩ : ∃ P, formG G = P := ⟨_, rfl⟩
      obtain ⟨Q, hQ⟩ : ∃ Q, formG H = Q := ⟨_, rfl⟩
      rw [hP] at HF1 g1 HR
      rw [hQ] at HF2 g2 HR
      have HE : Hid (R = decide (bareG P = bareG Q)) := by show _ = _; rw [HR.out]; rfl
      have Hg1 := Lib.hid g1
      have Hg2 := Lib.hid g2
      clear hG hH okG okH hR h1 h2 HR hf1 hf2 hP hQ g1 g2 hbU hrU hbV hrV hsV hrU2
      go_enter Tryd.func31, Tryd.ntmps31
      go_wp2_with (first
        | (go_at_call 19; refine (HR2.out w1 (HC.out w1 Hb1.out).2.2.2.2).mono ?_; rintro e w2 ⟨rfl, hb2⟩; have Hb2 := Lib.hid (below_then Hb1.out hb2); obtain ⟨y0, y1, y2, y3, _⟩ := HC.out w2 Hb2.out; clear hb2)
        | (go_at_call 19; refine (HR1.out V HbV.out).mono ?_; rintro e w1 ⟨rfl, hb1⟩; obtain ⟨x0, x1, x2, x3, _⟩ := HC.out w1 hb1; have Hb1 := Lib.hid hb1; clear hb1))
      have HVw2 := Hb2
      clear x0 x1 x2 x3 v0 v1 v2 v3
      go_wp2_with (first
        | (go_at_call 34; with_reducible refine (HF1.out w2 (HC.out w2 Hb2.out).2.2.2.2).mono ?_; rintro e w3 ⟨nv, rv, L, l, rfl, hm⟩
           obtain ⟨NA1, nc1, hnv⟩ := hm.nds.shape
           obtain ⟨RA1, rc1, hrv, _⟩ := ints_row hm.rts
           subst hnv hrv
           obtain ⟨X1, hX1, hbX1, hrX1, hsX1⟩ := boxCs w3 #[.slice NA1 L.length nc1, .slice RA1 l.length rc1] 25
           have hVX1 : Below V.heap.size V X1 := below_then (Below.trans Hb2.out (hm.below.mono Hb2.out.size)) hbX1
           obtain ⟨z0, z1, z2, z3, _⟩ := HC.out X1 hVX1
           have Hm := Lib.hid hm
           have HbX1 := Lib.hid hbX1
           have HrX1 := Lib.hid hrX1
           have HsX1 := Lib.hid hsX1
           have HVX1 := Lib.hid hVX1
           clear hm hbX1 hrX1 hVX1 hsX1)
        | (go_at_call 34; with_reducible refine (HF2.out X1 (HC.out X1 HVX1.out).2.2.2.2).mono ?_; rintro e w4 ⟨nv, rv, L2, l2, rfl, hm⟩
           obtain ⟨NA2, nc2, hnv⟩ := hm.nds.shape
           obtain ⟨RA2, rc2, hrv, _⟩ := ints_row hm.rts
           subst hnv hrv
           obtain ⟨X2, hX2, hbX2, hrX2, hsX2⟩ := boxCs w4 #[.slice NA2 L2.length nc2, .slice RA2 l2.length rc2] 25
           have Hm2 := Lib.hid hm
           have HbX2 := Lib.hid hbX2
           have HrX2 := Lib.hid hrX2
           have HsX2 := Lib.hid hsX2
           clear hm hbX2 hrX2 hsX2))
      have hs1 := HsX1.out
      have hs2 := HsX2.out
      have hmm1 := Hm.out
      have hmm2 := Hm2.out
      have hb34 := hmm2.below
      have hz1 := hb34.size
      have hz0 := hmm1.below.size
      -- what lies where
      have hbX12 : Below X1.heap.size X1 X2 := below_then hb34 HbX2.out
      have HA : Hid ((∀ b, (Value.slice NA1 L.length nc1).ownBlock = some b → w2.heap.size ≤ b ∧ b < w3.heap.size) ∧ (∀ e ∈ L, ∀ p, e.2.1 = some p → p.block < w3.heap.size) ∧ (∀ b, (Value.slice RA1 l.length rc1).ownBlock = some b → b < w3.heap.size) ∧
          (∀ b, (Value.slice NA2 L2.length nc2).ownBlock = some b → X1.heap.size ≤ b ∧ b < w4.heap.size)) :=
        ⟨fun b hb => ⟨(own_place hmm1.nds.own hb).1, (own_place hmm1.nds.own hb).2.1⟩, fun e he p hp => ((hmm1.nds.kids e he).own p hp).2.1, fun b hb => (own_place hmm1.rts hb).2.1, fun b hb => ⟨(own_place hmm2.nds.own hb).1, (own_place hmm2.nds.own hb).2.1⟩⟩
      have HSz : Hid (X1.heap.size = w3.heap.size + 1 ∧ X2.heap.size = w4.heap.size + 1 ∧ X1.heap.size ≤ w4.heap.size) := ⟨hs1, hs2, hz1⟩
      have HX : Hid (X2.heap[w3.heap.size]? = some (.cells #[.slice NA1 L.length nc1, .slice RA1 l.length rc1] 25 (0, 0)) ∧ X2.heap[w4.heap.size]? = some (.cells #[.slice NA2 L2.length nc2, .slice RA2 l2.length rc2] 25 (0, 0))) :=
        ⟨(hbX12.block _ (by omega)).trans HrX1.out, HrX2.out⟩
      have HwX2 : Hid (Below w.heap.size w X2) := below_then HbV.out (below_then HVX1.out hbX12)
      have HB0 : Hid (BkSt X2 w2.heap.size (.slice NA1 L.length nc1) (bk L 0) X2) := by
        rw [bk_zero]
        refine ⟨rfl, rfl, rfl, rfl, fun _ _ => rfl, (hmm1.nds.below HbX1.out).below hbX12⟩
      have HB1 : Hid (∀ Y, BkSt X2 w2.heap.size (.slice NA1 L.length nc1) (bk L L.length) Y → BkSt Y X1.heap.size (.slice NA2 L2.length nc2) (bk L2 0) Y) := fun Y hY => by
        rw [bk_zero]
        refine ⟨rfl, rfl, rfl, rfl, fun _ _ => rfl, ?_⟩
        refine (hmm2.nds.below HbX2.out).keep (by rw [hY.size]; exact Nat.le_refl _) fun b hb _ => hY.block b fun e => ?_
        have := (HA.out.1 b e).2
        omega
      have HFin : Hid (∀ Y Z, BkSt X2 w2.heap.size (.slice NA1 L.length nc1) (bk L L.length) Y → BkSt Y X1.heap.size (.slice NA2 L2.length nc2) (bk L2 L2.length) Z →
          Below w.heap.size w Z ∧ GrAt Z Z.heap.size (bareG P) (.agg #[.slice NA1 L.length nc1, .slice RA1 l.length rc1]) ∧ GrAt Z Z.heap.size (bareG Q) (.agg #[.slice NA2 L2.length nc2, .slice RA2 l2.length rc2])) := fun Y Z hY hZ => by
        obtain ⟨q1, q2, q3, q4⟩ := HA.out
        have hwV := HbV.out.size
        have hVw2 := Hb2.out.size
        have hnot : ∀ b, b < w3.heap.size → (Value.slice NA2 L2.length nc2).ownBlock ≠ some b := fun b hb e => by have := (q4 b e).1; omega
        have hnot2 : ∀ b, X1.heap.size ≤ b → (Value.slice NA1 L.length nc1).ownBlock ≠ some b := fun b hb e => by have := (q1 b e).2; omega
        have hYX : X2.heap.size = Y.heap.size := hY.size.symm
        have hZY : Y.heap.size = Z.heap.size := hZ.size.symm
        have hn1 : NdsOwn Z w2.heap.size (.slice NA1 L.length nc1) (bk L L.length) := by
          refine hY.nds.off (by omega) (fun b hb => hZ.block b (hnot b (q1 b hb).2)) fun e he p hp => hZ.block _ (hnot _ ?_)
          rw [bk_full] at he
          obtain ⟨e0, he0, rfl⟩ := List.mem_map.1 he
          exact q2 e0 he0 p hp
        have hn2 := hZ.nds
        have hr1 : Z.ownsRow w2.heap.size 3 1 (.slice RA1 l.length rc1) l.length (ncells l) := by
          have h0 := ownsRow_same (W' := X2) hmm1.rts fun b hb hlt => ((hbX12.block b (by omega)).trans (HbX1.out.block b hlt))
          refine ownsRow_same (ownsRow_same h0 fun b hb hlt => hY.block b fun e => hmm1.ne b e hb) fun b hb hlt => hZ.block b (hnot b (q3 b hb))
        have hr2 : Z.ownsRow X1.heap.size 3 1 (.slice RA2 l2.length rc2) l2.length (ncells l2) := by
          have h0 := ownsRow_same (W' := X2) hmm2.rts fun b hb hlt => HbX2.out.block b hlt
          refine ownsRow_same (ownsRow_same h0 fun b hb hlt => hY.block b (hnot2 b (own_place hmm2.rts hb).1)) fun b hb hlt => hZ.block b fun e => hmm2.ne b e hb
        rw [bk_full] at hn1 hn2
        have e1 : (L.map bareK).map (·.1) = (bareG P).nodes := by
          rw [List.map_map]
          show L.map (fun e => bareN e.1) = P.nodes.map bareN
          rw [← hmm1.nodes, List.map_map]; rfl
        have e2 : (L2.map bareK).map (·.1) = (bareG Q).nodes := by
          rw [List.map_map]
          show L2.map (fun e => bareN e.1) = Q.nodes.map bareN
          rw [← hmm2.nodes, List.map_map]; rfl
        refine ⟨hZ.below (hY.below HwX2.out fun b hb => by have := (q1 b hb).1; omega) fun b hb => by have := (q4 b hb).1; omega, ?_, ?_⟩
        · obtain ⟨RA, rc, hrv, hI, _⟩ := ints_row hr1
          cases hrv
          have hl1 : (L.map bareK).length = L.length := List.length_map _
          rw [← hl1] at hn1 ⊢
          refine ⟨NA1, nc1, RA1, rc1, ?_, e1 ▸ hn1.at, by rw [show (bareG P).roots = l.map Int.ofNat from hmm1.roots.symm]; exact hI⟩
          rw [← e1, show (bareG P).roots = l.map Int.ofNat from hmm1.roots.symm]; simp only [List.length_map]
        · obtain ⟨RA, rc, hrv, hI, _⟩ := ints_row hr2
          cases hrv
          have hl2 : (L2.map bareK).length = L2.length := List.length_map _
          rw [← hl2] at hn2 ⊢
          refine ⟨NA2, nc2, RA2, rc2, ?_, e2 ▸ hn2.at, by rw [show (bareG Q).roots = l2.map Int.ofNat from hmm2.roots.symm]; exact hI⟩
          rw [← e2, show (bareG Q).roots = l2.map Int.ofNat from hmm2.roots.symm]; simp only [List.length_map]
      have HLL : Hid (L.length ≤ 20000 ∧ L2.length ≤ 20000) := by
        have h1 := congrArg List.length hmm1.nodes
        have h2 := congrArg List.length hmm2.nodes
        have h3 := Hg1.out.nodes
        have h4 := Hg2.out.nodes
        simp at h1 h2
        exact ⟨by omega, by omega⟩
      have Hb5 : Hid (∀ W, BkSt X2 w2.heap.size (.slice NA1 L.length nc1) (bk L 0) W ∨ (∃ k, BkSt X2 w2.heap.size (.slice NA1 L.length nc1) (bk L k) W) → W.heap[w3.heap.size]? = some (.cells #[.slice NA1 L.length nc1, .slice RA1 l.length rc1] 25 (0, 0)) ∧ W.heap[w4.heap.size]? = some (.cells #[.slice NA2 L2.length nc2, .slice RA2 l2.length rc2] 25 (0, 0))) := fun W hW => by
        obtain ⟨k, hW⟩ : ∃ k, BkSt X2 w2.heap.size (.slice NA1 L.length nc1) (bk L k) W := hW.elim (fun h => ⟨0, h⟩) id
        obtain ⟨q1, _, _, _⟩ := HA.out
        have hz := HSz.out
        exact ⟨(hW.block _ (fun e => by have := (q1 _ e).2; omega)).trans HX.out.1, (hW.block _ (fun e => by have := (q1 _ e).2; omega)).trans HX.out.2⟩
      have Hb6 : Hid (∀ Y Z k, BkSt X2 w2.heap.size (.slice NA1 L.length nc1) (bk L L.length) Y → BkSt Y X1.heap.size (.slice NA2 L2.length nc2) (bk L2 k) Z → Z.heap[w3.heap.size]? = some (.cells #[.slice NA1 L.length nc1, .slice RA1 l.length rc1] 25 (0, 0)) ∧ Z.heap[w4.heap.size]? = some (.cells #[.slice NA2 L2.length nc2, .slice RA2 l2.length rc2] 25 (0, 0))) := fun Y Z k hY hZ => by
        obtain ⟨h1, h2⟩ := Hb5.out Y (.inr ⟨_, hY⟩)
        obtain ⟨_, _, _, q4⟩ := HA.out
        have hz := HSz.out
        exact ⟨(hZ.block _ (fun e => by have := (q4 _ e).1; omega)).trans h1, (hZ.block _ (fun e => by have := (q4 _ e).2; omega)).trans h2⟩
      clear hs1 hs2 hmm1 hmm2 hb34 hz1 hz0 hbX12 z0 z1 z2 z3 y0 y1 y2 y3 hX1 hX2
      obtain ⟨B5, hB5⟩ : ∃ b, w3.heap.size = b := ⟨_, rfl⟩
      obtain ⟨B6, hB6⟩ : ∃ b, w4.heap.size = b := ⟨_, rfl⟩
      rw [hB5, hB6] at Hb5 Hb6
      rw [hB5, hB6]
      clear hB5 hB6 HX HA HSz HrX1 HrX2 HbX1 HbX2 HsX1 HsX2 Hm Hm2 HVX1 HVw2 HF1 HF2 HC
      go_loopw [7] (fun j wz => ∃ k : Nat, k ≤ L.length ∧ j = .int .i64 (k : Int) ∧ Hid (BkSt X2 w2.heap.size (.slice NA1 L.length nc1) (bk L k) wz)) (fun j _ => L.length - (intOf j).toNat)
      case atStart => exact ⟨0, Nat.zero_le _, rfl, HB0⟩
      case round =>
        obtain ⟨k, hk, rfl, hst⟩ := hrel
        obtain ⟨r5, _⟩ := Hb5.out wr (.inr ⟨k, hst.out⟩)
        have c0 := Lib.cell_of_heap r5 0
        by_cases hlt : k < L.length
        · obtain ⟨g, rfl, ⟨pb, hpb⟩, hfz, hnx⟩ := hst.out.next hlt
          have hlt' : (k : Int) < (L.length : Int) := by omega
          have HN := Lib.hid hnx
          have Hlt := Lib.hid hlt
          have hmz : ∀ z : Int, z = k + 1 → L.length - (intOf (.int .i64 z)).toNat < L.length - (intOf (.int .i64 (k : Int))).toNat := by intro z hz; subst hz; have := Hlt.out; simp only [intOf]; omega
          have HW : Hid (wrap64 ((k : Int) + 1) = k + 1) := IntWalk.wrap64_in _ (by have := HLL.out; have := Hlt.out; omega)
          clear hst hnx r5 hk hlt
          go_wp2_with fail
          first
            | exact ⟨⟨k + 1, Hlt.out, by simp, HN⟩, hmz _ rfl⟩
            | exact ⟨⟨k + 1, Hlt.out, congrArg (Value.int .i64) (HW.out.trans (by simp)), HN⟩, hmz _ HW.out⟩
        · obtain rfl : k = L.length := by omega
          have hd2 : ¬ (L.length : Int) < (L.length : Int) := by omega
          obtain ⟨Y, rfl⟩ : ∃ Y, Y = wr := ⟨_, rfl⟩
          have HY := hst
          have HB2 := Lib.hid (HB1.out Y hst.out)
          clear hst r5 hk hlt
          go_wp2_with fail
          clear c0
          go_loopw [8] (fun j wz => ∃ k : Nat, k ≤ L2.length ∧ j = .int .i64 (k : Int) ∧ Hid (BkSt Y X1.heap.size (.slice NA2 L2.length nc2) (bk L2 k) wz)) (fun j _ => L2.length - (intOf j).toNat)
          case atStart => exact ⟨0, Nat.zero_le _, rfl, HB2⟩
          case round =>
            obtain ⟨k, hk, rfl, hst⟩ := hrel
            obtain ⟨r5, r6⟩ := Hb6.out Y wr k HY.out hst.out
            have c0 := Lib.cell_of_heap r6 0
            by_cases hlt : k < L2.length
            · obtain ⟨g, rfl, ⟨pb, hpb⟩, hfz, hnx⟩ := hst.out.next hlt
              have hlt' : (k : Int) < (L2.length : Int) := by omega
              have HN := Lib.hid hnx
              have Hlt := Lib.hid hlt
              have hmz : ∀ z : Int, z = k + 1 → L2.length - (intOf (.int .i64 z)).toNat < L2.length - (intOf (.int .i64 (k : Int))).toNat := by intro z hz; subst hz; have := Hlt.out; simp only [intOf]; omega
              have HW : Hid (wrap64 ((k : Int) + 1) = k + 1) := IntWalk.wrap64_in _ (by have := HLL.out; have := Hlt.out; omega)
              clear hst hnx r5 r6 hk hlt
              go_wp2_with fail
              first
                | exact ⟨⟨k + 1, Hlt.out, by simp, HN⟩, hmz _ rfl⟩
                | exact ⟨⟨k + 1, Hlt.out, congrArg (Value.int .i64) (HW.out.trans (by simp)), HN⟩, hmz _ HW.out⟩
            · obtain rfl : k = L2.length := by omega
              have hd3 : ¬ (L2.length : Int) < (L2.length : Int) := by omega
              obtain ⟨f1, f2, f3⟩ := HFin.out Y wr HY.out hst.out
              have c5 := Lib.cell_of_heap r5 0
              have c6 := Lib.cell_of_heap r5 1
              have c7 := Lib.cell_of_heap r6 1
              have HSG := Lib.hid (SameGraph_any (bareG P) (bareG Q) _ _ wr f2 f3 ⟨by have := Hg1.out.nodes; simp [bareG]; omega, by have := Hg1.out.many; simp [bareG]; omega, fun e he => by
                obtain ⟨e0, he0, rfl⟩ := List.mem_map.1 (show e ∈ P.nodes.map bareN from he)
                exact Hg1.out.toRightG.kidsLen e0 he0⟩)
              have HB := Lib.hid f1
              rw [← HE.out] at HSG
              clear f1 f2 f3 hst r5 r6 hk hlt HFin HB1 Hb6 Hb5 HB0 HB2
              go_wp2_with (go_at_call 32; refine HSG.out.mono ?_; rintro e w9 ⟨rfl, hb9⟩; have Hb9 := Lib.hid (below_then HB.out hb9); clear hb9)
              go_ret
              exact ⟨rfl, Hb9.out⟩
end Go.Proofs.YtdcbngimgpdjoaaDoor
