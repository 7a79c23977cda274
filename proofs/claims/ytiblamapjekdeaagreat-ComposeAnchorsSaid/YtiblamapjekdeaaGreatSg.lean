/- The reference's SameInts and SameGraph: are two graphs one, number by number? Conditions: rows no longer than 10^12. -/
import Derived.Test.YtiblamapjekdeaaGreatFb
import Derived.Lib.Strings
namespace Go.Proofs.YtiblamapjekdeaaGreat
open Go.RowKit
deriving instance DecidableEq for Nd
deriving instance DecidableEq for Gr
theorem boxCs (w : World) (cs : Array Value) (t : TypeId) : ∃ V, w.alloc (.cells cs t) = V ∧ Below w.heap.size w V ∧ V.heap[w.heap.size]? = some (.cells cs t (0, 0)) ∧ V.heap.size = w.heap.size + 1 :=
  ⟨_, rfl, (Below.refl _ w).alloc (Nat.le_refl _) _, heap_alloc_new w _, by simp⟩
theorem toList_inj {s s' : ByteArray} (h : s.toList = s'.toList) : s = s' := by
  rw [Lib.toList_data, Lib.toList_data] at h
  cases s; cases s'
  congr
  exact Array.toList_inj.1 h
theorem toList_ne {s s' : ByteArray} (h : s ≠ s') : (s.toList == s'.toList) = false := beq_eq_false_iff_ne.2 fun e => h (toList_inj e)
theorem nth_take_eq {a b : List Int} {k : Nat} (h : a.take k = b.take k) (ha : k < a.length) (hb : k < b.length) (he : nth a k = nth b k) : a.take (k + 1) = b.take (k + 1) := by
  rw [take_nth ha, take_nth hb, h, he]
set_option maxRecDepth 100000 in
set_option maxHeartbeats 1000000 in
theorem SameInts_any (A1 A2 : Option Addr) (c1 c2 : Nat) (a b : List Int) (w : World) (hl : a.length ≤ 1000000000000) (h1 : IntsAt w w.heap.size A1 a) (h2 : IntsAt w w.heap.size A2 b) :
    Calls Tryz.prog 15 #[.slice A1 a.length c1, .slice A2 b.length c2] w fun e w' => e = .returned (.bool (decide (a = b))) ∧ Below w.heap.size w w' := by
  by_cases hlen : a.length = b.length
  · obtain ⟨m, hm⟩ : ∃ m, b.length = m := ⟨_, rfl⟩
    rw [hm] at hlen ⊢
    have hne : ((a.length : Int) != (m : Int)) = false := by rw [hlen]; simp
    go_enter Tryz.func15, Tryz.ntmps15
    have HL := Lib.hid hlen
    have Hm := Lib.hid hm
    clear hlen hm
    go_wp2_with fail
    clear hne
    go_loopw [5] (fun i wr => ∃ k : Nat, k ≤ a.length ∧ i = .int .i64 k ∧ Hid (a.take k = b.take k) ∧ Below w.heap.size w wr) (fun i _ => a.length - (intOf i).toNat)
    case atStart => exact ⟨0, Nat.zero_le _, rfl, rfl, Below.refl _ _⟩
    case round =>
      obtain ⟨k, hk, rfl, ht, hb⟩ := hrel
      by_cases hlt : k < a.length
      · obtain ⟨b1, o1, rfl, hb1, hc1⟩ := h1 (by omega)
        obtain ⟨b2, o2, rfl, hb2, hc2⟩ := h2 (by have := HL.out; have := Hm.out; omega)
        have e1 := (hb.cell (p := ⟨b1, o1 + k, none⟩) hb1).trans (hc1 k hlt)
        have e2 := (hb.cell (p := ⟨b2, o2 + k, none⟩) hb2).trans (hc2 k (by have := HL.out; have := Hm.out; omega))
        have hlt1 : (k : Int) < (a.length : Int) := by omega
        have hlt2 : (k : Int) < (m : Int) := by have := HL.out; omega
        have hlt3 : k < m := by have := HL.out; omega
        have Hlt := Lib.hid hlt
        have Hltb : Hid (k < b.length) := by have := HL.out; have := Hm.out; show _ < _; omega
        have HW : Hid (wrap64 ((k : Int) + 1) = k + 1) := IntWalk.wrap64_in _ (by have := Hlt.out; omega)
        have hmz : ∀ z : Int, z = k + 1 → a.length - (intOf (.int .i64 z)).toNat < a.length - (intOf (.int .i64 (k : Int))).toNat := by intro z hz; subst hz; have := Hlt.out; simp only [intOf]; omega
        have Hb := Lib.hid hb
        clear hc1 hc2 hk hl hb hb1 hb2
        by_cases he : nth a k = nth b k
        · rw [← he] at e2
          have hne2 : (nth a k != nth a k) = false := by simp
          have HT : Hid (a.take (k + 1) = b.take (k + 1)) := nth_take_eq ht.out Hlt.out Hltb.out he
          clear he
          go_wp2_with fail
          go_region
          all_goals go_wp2_with fail
          all_goals first
            | exact ⟨⟨k + 1, Hlt.out, by simp, HT, Hb.out.drew⟩, hmz _ rfl⟩
            | exact ⟨⟨k + 1, Hlt.out, congrArg (Value.int .i64) (HW.out.trans (by simp)), HT, Hb.out.drew⟩, hmz _ HW.out⟩
        · have hne2 : (nth a k != nth b k) = true := bne_iff_ne.2 he
          have HE : Hid (decide (a = b) = false) := decide_eq_false fun e => he (by rw [e])
          clear he
          go_wp2_with fail
          go_region
          all_goals go_wp2_with fail
          all_goals (go_ret; exact ⟨ret_bool HE.out.symm, Hb.out.drew⟩)
      · obtain rfl : k = a.length := by omega
        have hd : ¬ (a.length : Int) < (a.length : Int) := by omega
        have HE : Hid (decide (a = b) = true) := decide_eq_true (by
          have := ht.out
          rwa [List.take_length, HL.out, ← Hm.out, List.take_length] at this)
        have Hb := Lib.hid hb
        clear hk hlt hb
        go_wp2_with fail
        go_ret
        exact ⟨ret_bool HE.out.symm, Hb.out⟩
  · have hne : ((a.length : Int) != (b.length : Int)) = true := bne_iff_ne.2 (by omega)
    have HE : Hid (decide (a = b) = false) := decide_eq_false fun e => hlen (by rw [e])
    rw [HE.out]
    clear hlen h1 h2 hl
    go_enter Tryz.func15, Tryz.ntmps15
    go_wp2_with fail
    go_ret
    exact ⟨rfl, Below.refl _ _⟩
theorem RSameInts_any (A1 A2 : Option Addr) (c1 c2 : Nat) (a b : List Int) (w : World) (hl : a.length ≤ 1000000000000) (h1 : IntsAt w w.heap.size A1 a) (h2 : IntsAt w w.heap.size A2 b) :
    Calls Tryz.prog 22 #[.slice A1 a.length c1, .slice A2 b.length c2] w fun e w' => e = .returned (.bool (decide (a = b))) ∧ Below w.heap.size w w' := by
  have HS := Lib.hid (SameInts_any A1 A2 c1 c2 a b w hl h1 h2)
  obtain ⟨R, hR⟩ : ∃ R, decide (a = b) = R := ⟨_, rfl⟩
  rw [hR] at HS ⊢
  clear hR hl h1 h2
  go_enter Tryz.func22, Tryz.ntmps22
  go_wp2_with (go_at_call 15; refine HS.out.mono ?_; rintro e w' ⟨rfl, hb⟩)
  go_ret
  exact ⟨rfl, hb⟩
theorem take_same {L M : List Nd} {k : Nat} (h1 : k < L.length) (h2 : k < M.length) : L.take (k + 1) = M.take (k + 1) ↔ L.take k = M.take k ∧ nd L k = nd M k := by
  rw [List.take_succ_eq_append_getElem h1, List.take_succ_eq_append_getElem h2, nd_eq h1, nd_eq h2]
  constructor
  · intro h
    have := List.append_inj h (by simp; omega)
    exact ⟨this.1, by simpa using this.2⟩
  · rintro ⟨h, h'⟩
    rw [h]; simp [h']
theorem nds_differ {L M : List Nd} {k : Nat} (h : nd L k ≠ nd M k) : L ≠ M := fun e => h (by rw [e])
structure Gr.okS (G : Gr) : Prop where
  nodes : G.nodes.length ≤ 1000000000000
  roots : G.roots.length ≤ 1000000000000
  kids : ∀ e ∈ G.nodes, e.kids.length ≤ 1000000000000
set_option maxRecDepth 100000 in
set_option maxHeartbeats 2000000 in
theorem SameGraph_any (G H : Gr) (u v : Value) (w : World) (hG : GrAt w w.heap.size G u) (hH : GrAt w w.heap.size H v) (okG : G.okS) :
    Calls Tryz.prog 11 #[u, v] w fun e w' => e = .returned (.bool (decide (G = H))) ∧ Below w.heap.size w w' := by
  obtain ⟨NA, nc, RA, rc, rfl, hN1, hR1⟩ := hG.ex
  obtain ⟨NB, mc, RB, sc, rfl, hN2, hR2⟩ := hH.ex
  have hkl := Lib.hid okG
  obtain ⟨U, hU, hbU, hrU, hsU⟩ := boxCs w #[.slice NA G.nodes.length nc, .slice RA G.roots.length rc] 28
  obtain ⟨V, hV, hbV, hrV, hsV⟩ := boxCs U #[.slice NB H.nodes.length mc, .slice RB H.roots.length sc] 28
  have hrU2 := (hbV.block w.heap.size (by omega)).trans hrU
  rw [hsU] at hrV
  have hbwV := below_then hbU hbV
  have HC : Hid (∀ W, Below V.heap.size V W → W.cell? ⟨w.heap.size, 0, none⟩ = some (.slice NA G.nodes.length nc) ∧ W.cell? ⟨w.heap.size, 1, none⟩ = some (.slice RA G.roots.length rc) ∧ W.cell? ⟨w.heap.size + 1, 0, none⟩ = some (.slice NB H.nodes.length mc) ∧ W.cell? ⟨w.heap.size + 1, 1, none⟩ = some (.slice RB H.roots.length sc) ∧ Below w.heap.size w W ∧ NdsAt W w.heap.size NA G.nodes ∧ NdsAt W w.heap.size NB H.nodes) := fun W hW => by
    have a := (hW.block w.heap.size (by omega)).trans hrU2
    have b := (hW.block (w.heap.size + 1) (by omega)).trans hrV
    have hwW := below_then hbwV hW
    exact ⟨Lib.cell_of_heap a 0, Lib.cell_of_heap a 1, Lib.cell_of_heap b 0, Lib.cell_of_heap b 1, hwW, hN1.below hwW (Nat.le_refl _), hN2.below hwW (Nat.le_refl _)⟩
  have HV : Hid (V.heap.size = w.heap.size + 2) := by show _ = _; omega
  have HS : Hid (Calls Tryz.prog 22 #[.slice RA G.roots.length rc, .slice RB H.roots.length sc] V fun e w' => e = .returned (.bool (decide (G.roots = H.roots))) ∧ Below V.heap.size V w') :=
    RSameInts_any RA RB rc sc G.roots H.roots V okG.roots ((hR1.below hbwV (Nat.le_refl _)).more hbwV.size) ((hR2.below hbwV (Nat.le_refl _)).more hbwV.size)
  obtain ⟨v0, v1, v2, v3, _⟩ := HC.out V (Below.refl _ _)
  have Hres : Hid (∀ b, (b = true ↔ G.nodes = H.nodes ∧ G.roots = H.roots) → decide (G = H) = b) := fun b hb => by
    rw [Bool.eq_iff_iff, decide_eq_true_iff, hb]
    cases G; cases H; simp
  have HbV := Lib.hid hbwV
  by_cases hl : G.nodes.length = H.nodes.length
  · have hd : ((G.nodes.length : Int) != (H.nodes.length : Int)) = false := by rw [bne_eq_false_iff_eq]; omega
    have Hl := Lib.hid hl
    obtain ⟨rr, hrr⟩ : ∃ b, decide (G.roots = H.roots) = b := ⟨_, rfl⟩
    rw [hrr] at HS
    clear hl hG hH okG hN1 hN2 hR1 hR2 hbU hrU hbV hrV hsV hrU2 hbwV
    cases rr with
    | false =>
      have HF : Hid (decide (G = H) = false) := Hres.out false (by simp at hrr ⊢; exact fun _ => hrr)
      clear hrr Hres
      go_enter Tryz.func11, Tryz.ntmps11
      go_wp2_with (go_at_call 22; refine HS.out.mono ?_; rintro e w1 ⟨rfl, hb1⟩; obtain ⟨x0, x1, x2, x3, x4, _⟩ := HC.out w1 hb1; have X4 := Lib.hid x4; clear hb1 x4)
      go_ret
      exact ⟨ret_bool HF.out.symm, X4.out⟩
    | true =>
      have Hrr : Hid (G.roots = H.roots) := by simpa using Lib.hid (of_decide_eq_true hrr)
      clear hrr
      go_enter Tryz.func11, Tryz.ntmps11
      go_wp2_with (go_at_call 22; refine HS.out.mono ?_; rintro e w1 ⟨rfl, hb1⟩; obtain ⟨x0, x1, x2, x3, _⟩ := HC.out w1 hb1; have Hb1 := Lib.hid hb1; clear hb1)
      clear x0 x1 x2 x3 v0 v1 v2 v3 HS
      go_loopw [5] (fun j wr => ∃ k : Nat, k ≤ G.nodes.length ∧ j = .int .i64 (k : Int) ∧ Hid (G.nodes.take k = H.nodes.take k) ∧ Hid (Below V.heap.size V wr)) (fun j _ => G.nodes.length - (intOf j).toNat)
      case atStart => exact ⟨0, Nat.zero_le _, rfl, rfl, Hb1.out⟩
      case round =>
        obtain ⟨k, hk, rfl, hp, hb⟩ := hrel
        obtain ⟨y0, y1, y2, y3, y4, y5, y6⟩ := HC.out wr hb.out
        by_cases hlt : k < G.nodes.length
        · have hlt2 : k < H.nodes.length := by have := Hl.out; omega
          have hlt' : (k : Int) < (G.nodes.length : Int) := by omega
          have hlt2' : (k : Int) < (H.nodes.length : Int) := by omega
          obtain ⟨b1, o1, rfl, hbl1, hc1⟩ := y5 (by omega)
          obtain ⟨K1, kc1, hn1⟩ := hc1 k hlt
          obtain ⟨b2, o2, rfl, hbl2, hc2⟩ := y6 (by omega)
          obtain ⟨K2, kc2, hn2⟩ := hc2 k hlt2
          have HX : Hid (nd G.nodes k = nd H.nodes k → G.nodes.take (k + 1) = H.nodes.take (k + 1)) := fun e => (take_same hlt hlt2).2 ⟨hp.out, e⟩
          have HY : Hid (nd G.nodes k ≠ nd H.nodes k → decide (G = H) = false) := fun e => decide_eq_false fun h => nds_differ e (by rw [h])
          have hxk := hkl.out.kids _ (nd_mem hlt)
          obtain ⟨x, hx⟩ : ∃ x, nd G.nodes k = x := ⟨_, rfl⟩
          obtain ⟨y, hy⟩ : ∃ y, nd H.nodes k = y := ⟨_, rfl⟩
          rw [hx] at hn1 hxk HX HY
          rw [hy] at hn2 HX HY
          have a0 := hn1.c0
          have a1 := hn1.c1
          have a2 := hn1.c2
          have a3 := hn1.c3
          have a4 := hn1.c4
          have hwr := y4.size
          have hb1 : b1 < wr.heap.size := Nat.lt_of_lt_of_le hbl1 hwr
          have hb2 : b2 < wr.heap.size := Nat.lt_of_lt_of_le hbl2 hwr
          obtain ⟨W1, hW1, hbW1, hrW1, hsW1⟩ := boxCs wr #[.int .i64 x.kind, .string x.tag, .string x.text, .slice K1 x.kids.length kc1, .bool x.plain] 46
          have hn2' := hn2.below hbW1 hwr hbl2
          have d0 := hn2'.c0
          have d1 := hn2'.c1
          have d2 := hn2'.c2
          have d3 := hn2'.c3
          have d4 := hn2'.c4
          obtain ⟨_, _, z2, _⟩ := HC.out W1 (below_then hb.out hbW1)
          obtain ⟨W2, hW2, hbW2, hrW2, hsW2⟩ := boxCs W1 #[.int .i64 y.kind, .string y.tag, .string y.text, .slice K2 y.kids.length kc2, .bool y.plain] 46
          have hrW1' := (hbW2.block wr.heap.size (by omega)).trans hrW1
          rw [hsW1] at hrW2
          have hb12 := below_then hbW1 hbW2
          have hbV2 : Below V.heap.size V W2 := below_then hb.out hb12
          have HSk : Hid (Calls Tryz.prog 22 #[.slice K1 x.kids.length kc1, .slice K2 y.kids.length kc2] W2 fun e w' => e = .returned (.bool (decide (x.kids = y.kids))) ∧ Below W2.heap.size W2 w') := by
            have hw2 : w.heap.size ≤ W2.heap.size := by have := hb12.size; omega
            exact RSameInts_any K1 K2 kc1 kc2 x.kids y.kids W2 hxk ((hn1.kids.below hb12 hwr).more hw2) ((hn2.kids.below hb12 hwr).more hw2)
          have H12 : Hid (∀ W, Below W2.heap.size W2 W → W.cell? ⟨wr.heap.size, 0, none⟩ = some (.int .i64 x.kind) ∧ W.cell? ⟨wr.heap.size, 1, none⟩ = some (.string x.tag) ∧ W.cell? ⟨wr.heap.size, 2, none⟩ = some (.string x.text) ∧ W.cell? ⟨wr.heap.size, 3, none⟩ = some (.slice K1 x.kids.length kc1) ∧ W.cell? ⟨wr.heap.size, 4, none⟩ = some (.bool x.plain) ∧
              W.cell? ⟨wr.heap.size + 1, 0, none⟩ = some (.int .i64 y.kind) ∧ W.cell? ⟨wr.heap.size + 1, 1, none⟩ = some (.string y.tag) ∧ W.cell? ⟨wr.heap.size + 1, 2, none⟩ = some (.string y.text) ∧ W.cell? ⟨wr.heap.size + 1, 3, none⟩ = some (.slice K2 y.kids.length kc2) ∧ W.cell? ⟨wr.heap.size + 1, 4, none⟩ = some (.bool y.plain) ∧ Below V.heap.size V W) := fun W hW => by
            have a := (hW.block wr.heap.size (by omega)).trans hrW1'
            have b := (hW.block (wr.heap.size + 1) (by omega)).trans hrW2
            exact ⟨Lib.cell_of_heap a 0, Lib.cell_of_heap a 1, Lib.cell_of_heap a 2, Lib.cell_of_heap a 3, Lib.cell_of_heap a 4, Lib.cell_of_heap b 0, Lib.cell_of_heap b 1, Lib.cell_of_heap b 2, Lib.cell_of_heap b 3, Lib.cell_of_heap b 4, below_then hbV2 hW⟩
          obtain ⟨f0, f1, f2, f3, f4, g0, g1, g2, g3, g4, _⟩ := H12.out W2 (Below.refl _ _)
          have Hlt := Lib.hid hlt
          have hmz : ∀ z : Int, z = k + 1 → G.nodes.length - (intOf (.int .i64 z)).toNat < G.nodes.length - (intOf (.int .i64 (k : Int))).toNat := by intro z hz; subst hz; have := Hlt.out; simp only [intOf]; omega
          have HW : Hid (wrap64 ((k : Int) + 1) = k + 1) := IntWalk.wrap64_in _ (by have := hkl.out.nodes; have := Hlt.out; omega)
          clear hc1 hc2 hn1 hn2 hn2' hxk hx hy hrW1 hrW2 hrW1' hbW1 hbW2 hb12 hbV2 hk hlt hlt2 hp hb hbl1 hbl2 hwr hsW2 y4 y5 y6
          obtain ⟨kx, tx, sx, lx, px⟩ := x
          obtain ⟨ky, ty, sy, ly, py⟩ := y
          simp only at a0 a1 a2 a3 a4 d0 d1 d2 d3 d4 f0 f1 f2 f3 f4 g0 g1 g2 g3 g4 hW1 hW2 HSk H12
          have hcs : (kx ≠ ky ∧ (kx != ky) = true) ∨ (kx = ky ∧ tx ≠ ty ∧ (tx.toList == ty.toList) = false) ∨ (kx = ky ∧ tx = ty ∧ sx ≠ sy ∧ (sx.toList == sy.toList) = false) ∨ (kx = ky ∧ tx = ty ∧ sx = sy ∧ px ≠ py ∧ (px == py) = false) ∨ (kx = ky ∧ tx = ty ∧ sx = sy ∧ px = py) := by
            by_cases e1 : kx = ky
            · by_cases e2 : tx = ty
              · by_cases e3 : sx = sy
                · by_cases e4 : px = py
                  · exact .inr (.inr (.inr (.inr ⟨e1, e2, e3, e4⟩)))
                  · exact .inr (.inr (.inr (.inl ⟨e1, e2, e3, e4, beq_eq_false_iff_ne.2 e4⟩)))
                · exact .inr (.inr (.inl ⟨e1, e2, e3, toList_ne e3⟩))
              · exact .inr (.inl ⟨e1, e2, toList_ne e2⟩)
            · exact .inl ⟨e1, bne_iff_ne.2 e1⟩
          rcases hcs with ⟨e1, q1⟩ | ⟨rfl, e2, q2⟩ | ⟨rfl, rfl, e3, q3⟩ | ⟨rfl, rfl, rfl, e4, q4⟩ | ⟨rfl, rfl, rfl, rfl⟩
          · have HN : Hid (decide (G = H) = false) := HY.out (fun e => e1 (congrArg Nd.kind e))
            have HB := Lib.hid (H12.out W2 (Below.refl _ _)).2.2.2.2.2.2.2.2.2.2
            clear HY HX e1 H12 HSk
            go_wp2_with fail
            go_ret
            exact ⟨ret_bool HN.out.symm, below_then HbV.out HB.out⟩
          · have HN : Hid (decide (G = H) = false) := HY.out (fun e => e2 (congrArg Nd.tag e))
            have HB := Lib.hid (H12.out W2 (Below.refl _ _)).2.2.2.2.2.2.2.2.2.2
            clear HY HX e2 H12 HSk
            go_wp2_with fail
            go_ret
            exact ⟨ret_bool HN.out.symm, below_then HbV.out HB.out⟩
          · have HN : Hid (decide (G = H) = false) := HY.out (fun e => e3 (congrArg Nd.text e))
            have HB := Lib.hid (H12.out W2 (Below.refl _ _)).2.2.2.2.2.2.2.2.2.2
            clear HY HX e3 H12 HSk
            go_wp2_with fail
            go_ret
            exact ⟨ret_bool HN.out.symm, below_then HbV.out HB.out⟩
          · have HN : Hid (decide (G = H) = false) := HY.out (fun e => e4 (congrArg Nd.plain e))
            have HB := Lib.hid (H12.out W2 (Below.refl _ _)).2.2.2.2.2.2.2.2.2.2
            clear HY HX H12 HSk
            have q5 : (px != py) = true := bne_iff_ne.2 e4
            clear e4
            go_wp2_with fail
            go_ret
            exact ⟨ret_bool HN.out.symm, below_then HbV.out HB.out⟩
          · obtain ⟨ek, hek⟩ : ∃ b, decide (lx = ly) = b := ⟨_, rfl⟩
            rw [hek] at HSk
            cases ek with
            | false =>
              have HN : Hid (decide (G = H) = false) := HY.out (fun e => by have := congrArg Nd.kids e; simp at hek; exact hek this)
              clear HY HX hek
              go_wp2_with (go_at_call 22; refine HSk.out.mono ?_; rintro e w3 ⟨rfl, hb3⟩; have Hb3 := Lib.hid (H12.out w3 hb3).2.2.2.2.2.2.2.2.2.2; clear hb3)
              go_ret
              exact ⟨ret_bool HN.out.symm, below_then HbV.out Hb3.out⟩
            | true =>
              have HN := Lib.hid (HX.out (by simp at hek; rw [hek]))
              clear HY HX hek
              go_wp2_with (go_at_call 22; refine HSk.out.mono ?_; rintro e w3 ⟨rfl, hb3⟩; have Hb3 := Lib.hid (H12.out w3 hb3).2.2.2.2.2.2.2.2.2.2; clear hb3)
              first
                | exact ⟨⟨k + 1, Hlt.out, by simp, HN, Hb3⟩, hmz _ rfl⟩
                | exact ⟨⟨k + 1, Hlt.out, congrArg (Value.int .i64) (HW.out.trans (by simp)), HN, Hb3⟩, hmz _ HW.out⟩
        · obtain rfl : k = G.nodes.length := by omega
          have hd2 : ¬ (G.nodes.length : Int) < (G.nodes.length : Int) := by omega
          have HN : Hid (decide (G = H) = true) := Hres.out true ⟨fun _ => ⟨by
            have h := hp.out
            have h2 := Hl.out
            rw [List.take_of_length_le (Nat.le_refl _), List.take_of_length_le (by omega)] at h
            exact h, Hrr.out⟩, fun _ => rfl⟩
          have HB := Lib.hid y4
          clear hp hk hlt hb y4 y5 y6
          go_wp2_with fail
          go_ret
          exact ⟨ret_bool HN.out.symm, HB.out⟩
  · have hd : ((G.nodes.length : Int) != (H.nodes.length : Int)) = true := bne_iff_ne.2 (by omega)
    have HF : Hid (decide (G = H) = false) := Hres.out false (by simp; exact fun e => absurd (by rw [e]) hl)
    clear hl hG hH okG hN1 hN2 hR1 hR2 hbU hrU hbV hrV hsV hrU2 hbwV HS
    go_enter Tryz.func11, Tryz.ntmps11
    go_wp2_with fail
    go_ret
    exact ⟨ret_bool HF.out.symm, HbV.out⟩
end Go.Proofs.YtiblamapjekdeaaGreat
