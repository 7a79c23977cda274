/- iso.Same: are two graphs one but for their numbers? Conditions: as Form's. -/
import Derived.Test.YtdcbngimgpdjoaaDoorIf
import Derived.Deep.RegionHeld3
namespace Go.Proofs.YtdcbngimgpdjoaaDoor
open Go.RowKit Go.Shelf Go.Deep
theorem drewN_below (w : World) (n : Nat) : Below w.heap.size w (w.drewN n) := ⟨rfl, rfl, rfl, Nat.le_refl _, fun _ _ => rfl⟩
theorem Equal_any (A1 A2 : Option Addr) (c d : Nat) (xs ys : List Int) (w : World) (hx : xs.length ≤ 1000000000000) (hy : ys.length ≤ 1000000000000) (h1 : IntsAt w w.heap.size A1 xs) (h2 : IntsAt w w.heap.size A2 ys) :
    Calls Tryd.prog 52 #[.slice A1 xs.length c, .slice A2 ys.length d] w fun e w' => e = .returned (.bool (decide (xs = ys))) ∧ Below w.heap.size w w' := by
  by_cases hl : xs.length = ys.length
  · by_cases h0 : xs.length = 0
    · have hx0 : xs = [] := List.eq_nil_of_length_eq_zero h0
      have hy0 : ys = [] := List.eq_nil_of_length_eq_zero (by omega)
      subst hx0 hy0
      refine (slices_Equal_int_empty A1 A2 c 0 d w (by omega)).mono ?_
      rintro e w' ⟨rfl, rfl⟩
      exact ⟨by simp, Below.refl _ _⟩
    · obtain ⟨b1, o1, rfl, _, hc1⟩ := h1 (by omega)
      obtain ⟨b2, o2, rfl, _, hc2⟩ := h2 (by omega)
      refine (slices_Equal_int b1 o1 xs.length c b2 o2 ys.length d xs ys w (Nat.le_refl _) (Nat.le_refl _) (by omega) (by omega) hc1 hc2).mono ?_
      rintro e w' ⟨rfl, q, rfl⟩
      refine ⟨?_, drewN_below _ _⟩
      rw [List.take_of_length_le (Nat.le_refl _), List.take_of_length_le (Nat.le_refl _)]
      congr 2
      rw [Bool.eq_iff_iff]; simp
  · refine (slices_Equal_int_lens A1 A2 xs.length c ys.length d w hl).mono ?_
    rintro e w' ⟨rfl, rfl⟩
    refine ⟨?_, Below.refl _ _⟩
    rw [decide_eq_false (fun e => hl (by rw [e]))]
theorem bare_iff (x y : Nd) : bareN x = bareN y ↔ x.kind = y.kind ∧ x.tag = y.tag ∧ x.text = y.text ∧ x.kids = y.kids := by
  cases x; cases y; simp [bareN]
theorem toList_inj {s s' : ByteArray} (h : s.toList = s'.toList) : s = s' := by
  rw [Lib.toList_data, Lib.toList_data] at h
  cases s; cases s'
  congr
  exact Array.toList_inj.1 h
theorem toList_ne {s s' : ByteArray} (h : s ≠ s') : (s.toList == s'.toList) = false := beq_eq_false_iff_ne.2 fun e => h (toList_inj e)
theorem box55 (w : World) (a0 a1 a2 a3 a4 b0 b1 b2 b3 b4 : Value) (t : TypeId) : ∃ V, (w.alloc (.cells #[a0, a1, a2, a3, a4] t)).alloc (.cells #[b0, b1, b2, b3, b4] t) = V ∧ Below w.heap.size w V ∧
    V.cell? ⟨w.heap.size, 0, none⟩ = some a0 ∧ V.cell? ⟨w.heap.size, 1, none⟩ = some a1 ∧ V.cell? ⟨w.heap.size, 2, none⟩ = some a2 ∧ V.cell? ⟨w.heap.size, 3, none⟩ = some a3 ∧
    V.cell? ⟨w.heap.size + 1, 0, none⟩ = some b0 ∧ V.cell? ⟨w.heap.size + 1, 1, none⟩ = some b1 ∧ V.cell? ⟨w.heap.size + 1, 2, none⟩ = some b2 ∧ V.cell? ⟨w.heap.size + 1, 3, none⟩ = some b3 := by
  obtain ⟨U, hU, hbU, hrU, hsU⟩ := boxCs w #[a0, a1, a2, a3, a4] t
  obtain ⟨V, hV, hbV, hrV, hsV⟩ := boxCs U #[b0, b1, b2, b3, b4] t
  rw [hU, hV]
  have h1 := (hbV.block w.heap.size (by omega)).trans hrU
  rw [hsU] at hrV
  exact ⟨V, rfl, below_then hbU hbV, Lib.cell_of_heap h1 0, Lib.cell_of_heap h1 1, Lib.cell_of_heap h1 2, Lib.cell_of_heap h1 3, Lib.cell_of_heap hrV 0, Lib.cell_of_heap hrV 1, Lib.cell_of_heap hrV 2, Lib.cell_of_heap hrV 3⟩
set_option maxRecDepth 100000 in
set_option maxHeartbeats 1000000 in
theorem same1_any (x y : Nd) (K1 K2 : Option Addr) (c1 c2 : Nat) (w : World) (hx : x.kids.length ≤ 1000000000000) (hy : y.kids.length ≤ 1000000000000) (h1 : IntsAt w w.heap.size K1 x.kids) (h2 : IntsAt w w.heap.size K2 y.kids) :
    Calls Tryd.prog 54 #[.agg #[.int .i64 x.kind, .string x.tag, .string x.text, .slice K1 x.kids.length c1, .bool x.plain], .agg #[.int .i64 y.kind, .string y.tag, .string y.text, .slice K2 y.kids.length c2, .bool y.plain]] w
      fun e w' => e = .returned (.bool (decide (bareN x = bareN y))) ∧ Below w.heap.size w w' := by
  have HE : Hid (∀ W, Below w.heap.size w W → Calls Tryd.prog 52 #[.slice K1 x.kids.length c1, .slice K2 y.kids.length c2] W fun e w' => e = .returned (.bool (decide (x.kids = y.kids))) ∧ Below W.heap.size W w') := fun W hW => Equal_any K1 K2 c1 c2 x.kids y.kids W hx hy ((h1.below hW (Nat.le_refl _)).more hW.size) ((h2.below hW (Nat.le_refl _)).more hW.size)
  obtain ⟨R, hR⟩ : ∃ R, decide (bareN x = bareN y) = R := ⟨_, rfl⟩
  have HR : Hid (R = decide (x.kind = y.kind ∧ x.tag = y.tag ∧ x.text = y.text ∧ x.kids = y.kids)) := by
    show _ = _
    rw [← hR, Bool.eq_iff_iff, decide_eq_true_iff, decide_eq_true_iff, bare_iff]
  rw [hR]
  obtain ⟨k, tg, tx, ks, pl⟩ := x
  obtain ⟨k', tg', tx', ks', pl'⟩ := y
  simp only at HE HR hx hy h1 h2 ⊢
  obtain ⟨V, hV, hbV, a0, a1, a2, a3, b0, b1, b2, b3⟩ := box55 w (.int .i64 k) (.string tg) (.string tx) (.slice K1 ks.length c1) (.bool pl) (.int .i64 k') (.string tg') (.string tx') (.slice K2 ks'.length c2) (.bool pl') 33
  have HbV := Lib.hid hbV
  have HEV := Lib.hid (HE.out V hbV)
  clear hx hy h1 h2 hR HE hbV
  have hcs : (k ≠ k' ∧ (k == k') = false) ∨ (k = k' ∧ tg ≠ tg' ∧ (tg.toList == tg'.toList) = false) ∨ (k = k' ∧ tg = tg' ∧ tx ≠ tx' ∧ (tx.toList == tx'.toList) = false) ∨ (k = k' ∧ tg = tg' ∧ tx = tx') := by
    by_cases e1 : k = k'
    · by_cases e2 : tg = tg'
      · by_cases e3 : tx = tx'
        · exact .inr (.inr (.inr ⟨e1, e2, e3⟩))
        · exact .inr (.inr (.inl ⟨e1, e2, e3, toList_ne e3⟩))
      · exact .inr (.inl ⟨e1, e2, toList_ne e2⟩)
    · exact .inl ⟨e1, beq_eq_false_iff_ne.2 e1⟩
  rcases hcs with ⟨e1, f1⟩ | ⟨rfl, e2, f2⟩ | ⟨rfl, rfl, e3, f3⟩ | ⟨rfl, rfl, rfl⟩
  · have HF : Hid (R = false) := by show _ = _; rw [HR.out]; simp [e1]
    clear HR e1
    go_enter Tryd.func54, Tryd.ntmps54
    go_wp2_with fail
    go_ret
    exact ⟨ret_bool HF.out.symm, HbV.out⟩
  · have HF : Hid (R = false) := by show _ = _; rw [HR.out]; simp [e2]
    clear HR e2
    go_enter Tryd.func54, Tryd.ntmps54
    go_wp2_with fail
    go_ret
    exact ⟨ret_bool HF.out.symm, HbV.out⟩
  · have HF : Hid (R = false) := by show _ = _; rw [HR.out]; simp [e3]
    clear HR e3
    go_enter Tryd.func54, Tryd.ntmps54
    go_wp2_with fail
    go_ret
    exact ⟨ret_bool HF.out.symm, HbV.out⟩
  · have HF : Hid (R = decide (ks = ks')) := by show _ = _; rw [HR.out]; simp
    clear HR
    go_enter Tryd.func54, Tryd.ntmps54
    go_wp2_with (go_at_call 52; refine HEV.out.mono ?_; rintro e w1 ⟨rfl, hb1⟩; have Hb1 := Lib.hid hb1; clear hb1)
    go_ret
    exact ⟨ret_bool HF.out.symm, below_then HbV.out Hb1.out⟩
theorem rows_same_take {L M : List Nd} {k : Nat} (h1 : k < L.length) (h2 : k < M.length) : (L.take (k + 1)).map bareN = (M.take (k + 1)).map bareN ↔ (L.take k).map bareN = (M.take k).map bareN ∧ bareN (nd L k) = bareN (nd M k) := by
  rw [List.take_succ_eq_append_getElem h1, List.take_succ_eq_append_getElem h2, List.map_append, List.map_append, nd_eq h1, nd_eq h2]
  constructor
  · intro h
    have := List.append_inj h (by simp; omega)
    exact ⟨this.1, by simpa using this.2⟩
  · rintro ⟨h, h'⟩
    rw [h]; simp [h']
theorem rows_differ {L M : List Nd} {k : Nat} (h1 : k < L.length) (h2 : k < M.length) (h : bareN (nd L k) ≠ bareN (nd M k)) : L.map bareN ≠ M.map bareN := fun e => by
  have e1 := congrArg (·[k]?) e
  simp only [List.getElem?_map, List.getElem?_eq_getElem h1, List.getElem?_eq_getElem h2, Option.map_some] at e1
  rw [nd_eq h1, nd_eq h2] at h
  exact h (Option.some.inj e1)
set_option maxRecDepth 100000 in
set_option maxHeartbeats 1000000 in
theorem equalFunc_any (A1 A2 : Option Addr) (c1 c2 : Nat) (L M : List Nd) (w : World) (hl : L.length ≤ 1000000) (_ : M.length ≤ 1000000) (hk : ∀ e ∈ L, e.kids.length ≤ 1000000000000) (hk2 : ∀ e ∈ M, e.kids.length ≤ 1000000000000) (h1 : NdsAt w w.heap.size A1 L) (h2 : NdsAt w w.heap.size A2 M) :
    Calls Tryd.prog 53 #[.slice A1 L.length c1, .slice A2 M.length c2, .func (.func 54) #[] #[]] w fun e w' => e = .returned (.bool (decide (L.map bareN = M.map bareN))) ∧ Below w.heap.size w w' := by
  by_cases hlm : L.length = M.length
  · have hd : ((L.length : Int) != (M.length : Int)) = false := by rw [bne_eq_false_iff_eq]; omega
    have Hlm := Lib.hid hlm
    clear hlm
    go_enter Tryd.func53, Tryd.ntmps53
    go_wp2_with fail
    have H1 : Hid (∀ W, Below w.heap.size w W → NdsAt W w.heap.size A1 L ∧ NdsAt W w.heap.size A2 M) := fun W hW => ⟨h1.below hW (Nat.le_refl _), h2.below hW (Nat.le_refl _)⟩
    have Hk : Hid ((∀ e ∈ L, e.kids.length ≤ 1000000000000) ∧ (∀ e ∈ M, e.kids.length ≤ 1000000000000)) := ⟨hk, hk2⟩
    have Hl := Lib.hid hl
    clear hk hk2 h1 h2
    go_loopw [17] (fun j wr => ∃ k : Nat, k ≤ L.length ∧ j = .int .i64 (k : Int) ∧ Hid ((L.take k).map bareN = (M.take k).map bareN) ∧ Hid (Below w.heap.size w wr)) (fun j _ => L.length - (intOf j).toNat)
    case atStart => exact ⟨0, Nat.zero_le _, rfl, by show _ = _; simp, Below.refl _ _⟩
    case round =>
      obtain ⟨k, hk, rfl, hp, hb⟩ := hrel
      by_cases hlt : k < L.length
      · have hlt2 : k < M.length := by have := Hlm.out; omega
        have hlt' : (k : Int) < (L.length : Int) := by omega
        have hlt2' : (k : Int) < (M.length : Int) := by omega
        obtain ⟨b1, o1, rfl, hbl1, hc1⟩ := (H1.out wr hb.out).1 (by omega)
        obtain ⟨K1, kc1, hn1⟩ := hc1 k hlt
        have HX : Hid (bareN (nd L k) = bareN (nd M k) → (L.take (k + 1)).map bareN = (M.take (k + 1)).map bareN) := fun e => (rows_same_take hlt hlt2).2 ⟨hp.out, e⟩
        have HY : Hid (bareN (nd L k) ≠ bareN (nd M k) → decide (L.map bareN = M.map bareN) = false) := fun e => decide_eq_false (rows_differ hlt hlt2 e)
        have hxk := Hk.out.1 _ (nd_mem hlt)
        have hyk := Hk.out.2 _ (nd_mem hlt2)
        obtain ⟨x, hx⟩ : ∃ x, nd L k = x := ⟨_, rfl⟩
        obtain ⟨y, hy⟩ : ∃ y, nd M k = y := ⟨_, rfl⟩
        rw [hx] at hn1 hxk HX HY
        rw [hy] at hyk HX HY
        have a0 := hn1.c0
        have a1 := hn1.c1
        have a2 := hn1.c2
        have a3 := hn1.c3
        have a4 := hn1.c4
        obtain ⟨U, hU, hbU, hrU, hsU⟩ := boxCs wr #[.int .i64 x.kind, .string x.tag, .string x.text, .slice K1 x.kids.length kc1, .bool x.plain] 33
        obtain ⟨b2, o2, rfl, hbl2, hc2⟩ := (H1.out U (below_then hb.out hbU)).2 (by omega)
        obtain ⟨K2, kc2, hn2⟩ := hc2 k hlt2
        rw [hy] at hn2
        have d0 := hn2.c0
        have d1 := hn2.c1
        have d2 := hn2.c2
        have d3 := hn2.c3
        have d4 := hn2.c4
        obtain ⟨V, hV, hbV, hrV, hsV⟩ := boxCs U #[.int .i64 y.kind, .string y.tag, .string y.text, .slice K2 y.kids.length kc2, .bool y.plain] 33
        have hrU2 := (hbV.block wr.heap.size (by omega)).trans hrU
        have f0 := Lib.cell_of_heap hrU2 0
        have f1 := Lib.cell_of_heap hrU2 1
        have f2 := Lib.cell_of_heap hrU2 2
        have f3 := Lib.cell_of_heap hrU2 3
        have f4 := Lib.cell_of_heap hrU2 4
        rw [hsU] at hrV
        have g0 := Lib.cell_of_heap hrV 0
        have g1 := Lib.cell_of_heap hrV 1
        have g2 := Lib.cell_of_heap hrV 2
        have g3 := Lib.cell_of_heap hrV 3
        have g4 := Lib.cell_of_heap hrV 4
        have hbV2 : Below w.heap.size w V := below_then hb.out (below_then hbU hbV)
        have hwr := hb.out.size
        have hS := same1_any x y K1 K2 kc1 kc2 V hxk hyk (((hn1.kids.below hbU hwr).below hbV (by have := hbU.size; omega)).more (by have := hbV2.size; exact this)) ((hn2.kids.below hbV (by have := hbU.size; omega)).more hbV2.size)
        obtain ⟨R, hR⟩ : ∃ R, decide (bareN x = bareN y) = R := ⟨_, rfl⟩
        rw [hR] at hS
        have HS := Lib.hid hS
        have HbV := Lib.hid hbV2
        have Hlt := Lib.hid hlt
        have hmz : ∀ z : Int, z = k + 1 → L.length - (intOf (.int .i64 z)).toNat < L.length - (intOf (.int .i64 (k : Int))).toNat := by intro z hz; subst hz; have := Hlt.out; simp only [intOf]; omega
        have HW : Hid (wrap64 ((k : Int) + 1) = k + 1) := IntWalk.wrap64_in _ (by have := Hl.out; omega)
        cases R with
        | true =>
          have HN := Lib.hid (HX.out (by simpa using hR))
          clear hc1 hc2 hn1 hn2 hxk hyk hx hy hrU hrV hrU2 hbU hbV hbV2 hS hR hk hlt hlt2 hp hb hbl1 hbl2 hwr hsV
          go_wp2_with (go_at_call 54; refine HS.out.mono ?_; rintro e w1 ⟨rfl, hb1⟩; have Hb1 := Lib.hid (below_then HbV.out hb1); clear hb1)
          first
            | exact ⟨⟨k + 1, Hlt.out, by simp, HN, Hb1⟩, hmz _ rfl⟩
            | exact ⟨⟨k + 1, Hlt.out, congrArg (Value.int .i64) (HW.out.trans (by simp)), HN, Hb1⟩, hmz _ HW.out⟩
        | false =>
          have HN := Lib.hid (HY.out (by simpa using hR))
          clear hc1 hc2 hn1 hn2 hxk hyk hx hy hrU hrV hrU2 hbU hbV hbV2 hS hR hk hlt hlt2 hp hb hbl1 hbl2 hwr hsV
          go_wp2_with (go_at_call 54; refine HS.out.mono ?_; rintro e w1 ⟨rfl, hb1⟩; have Hb1 := Lib.hid (below_then HbV.out hb1); clear hb1)
          go_ret
          exact ⟨ret_bool HN.out.symm, Hb1.out⟩
      · obtain rfl : k = L.length := by omega
        have HN : Hid (decide (L.map bareN = M.map bareN) = true) := by
          have h := hp.out
          have h2 := Hlm.out
          rw [List.take_of_length_le (Nat.le_refl _), List.take_of_length_le (by omega)] at h
          exact decide_eq_true h
        clear hp hk hlt
        go_wp2_with fail
        go_ret
        exact ⟨ret_bool HN.out.symm, hb.out⟩
  · have hd : ((L.length : Int) != (M.length : Int)) = true := bne_iff_ne.2 (by omega)
    have HF : Hid (decide (L.map bareN = M.map bareN) = false) := decide_eq_false fun e => hlm (by have := congrArg List.length e; simpa using this)
    rw [HF.out]
    clear hl hk hk2 h1 h2 hlm
    go_enter Tryd.func53, Tryd.ntmps53
    go_wp2_with fail
    go_ret
    exact ⟨rfl, Below.refl _ _⟩
theorem RightG.kidsLen {G : Gr} (h : RightG G) : ∀ e ∈ G.nodes, e.kids.length ≤ 1000000000000 := fun e he => by
  obtain ⟨i, hi, rfl⟩ := List.mem_iff_getElem.1 he
  have h1 := sum_order (G := G) (l := [i]) (by simp) (by simpa using hi)
  have := h.sum
  rw [← nd_eq hi]
  simp at h1
  omega
theorem same_iff (G H : Gr) : bareG G = bareG H ↔ G.roots = H.roots ∧ G.nodes.map bareN = H.nodes.map bareN := by
  cases G; cases H
  simp only [bareG, Gr.mk.injEq]
  exact and_comm
abbrev onlyN (R : Act → World → Prop) : Exit → Act → World → Prop
  | .normal, a, w => R a w
  | _, _, _ => False
theorem wp_only {P : Program} {c : Code} {a : Act} {w : World} {Q : Exit → Act → World → Prop} (R : Act → World → Prop) (h : c.wp P (onlyN R) a w) (k : ∀ a' w', R a' w' → Q .normal a' w') : c.wp P Q a w :=
  wp_mono h fun e a' w' h => by
    cases e <;> first | exact k _ _ h | exact h.elim
abbrev nilRow : Obj := .cells #[.slice none 0 0, .slice none 0 0] 25 (0, 0)
/-- Two graphs that were made lie in their boxes. -/
structure Boxes2 (w F : World) (B5 B6 : Nat) (P Q : Gr) (NA RA NB RB : Option Addr) (nc rc mc sc : Nat) : Prop where
  c0 : F.cell? ⟨B5, 0, none⟩ = some (.slice NA P.nodes.length nc)
  c1 : F.cell? ⟨B5, 1, none⟩ = some (.slice RA P.roots.length rc)
  c2 : F.cell? ⟨B6, 0, none⟩ = some (.slice NB Q.nodes.length mc)
  c3 : F.cell? ⟨B6, 1, none⟩ = some (.slice RB Q.roots.length sc)
  below : Below w.heap.size w F
  n1 : NdsAt F F.heap.size NA P.nodes
  r1 : IntsAt F F.heap.size RA P.roots
  n2 : NdsAt F F.heap.size NB Q.nodes
  r2 : IntsAt F F.heap.size RB Q.roots
  rowA : F.heap[B5]? = some (.cells #[.slice NA P.nodes.length nc, .slice RA P.roots.length rc] 25 (0, 0))
  rowB : F.heap[B6]? = some (.cells #[.slice NB Q.nodes.length mc, .slice RB Q.roots.length sc] 25 (0, 0))
theorem nil_int {X : World} {B o : Nat} {z : Int} (h : X.heap[B]? = some nilRow) (hc : X.cell? ⟨B, o, none⟩ = some (.int .i64 z)) : False := by
  rw [Lib.cell_of_heap h o] at hc
  match o with
  | 0 => simp at hc
  | 1 => simp at hc
  | o + 2 => simp at hc
theorem IntsAt.away {X F : World} {B5 B6 N : Nat} {A : Option Addr} {l : List Int} (h : IntsAt X N A l) (h5 : X.heap[B5]? = some nilRow) (h6 : X.heap[B6]? = some nilRow) (hb : ∀ b, b ≠ B5 → b ≠ B6 → F.heap[b]? = X.heap[b]?) : IntsAt F N A l := fun hz => by
  obtain ⟨b, o, rfl, hlt, hc⟩ := h hz
  have e5 : b ≠ B5 := fun e => by subst e; exact nil_int h5 (hc 0 hz)
  have e6 : b ≠ B6 := fun e => by subst e; exact nil_int h6 (hc 0 hz)
  exact ⟨b, o, rfl, hlt, fun k hk => (World.cell?_of_block (hb b e5 e6)).trans (hc k hk)⟩
theorem NdsAt.away {X F : World} {B5 B6 N : Nat} {A : Option Addr} {L : List Nd} (h : NdsAt X N A L) (h5 : X.heap[B5]? = some nilRow) (h6 : X.heap[B6]? = some nilRow) (hb : ∀ b, b ≠ B5 → b ≠ B6 → F.heap[b]? = X.heap[b]?) : NdsAt F N A L := fun hz => by
  obtain ⟨b, o, rfl, hlt, hc⟩ := h hz
  obtain ⟨K0, kc0, hn0⟩ := hc 0 hz
  have e5 : b ≠ B5 := fun e => by subst e; exact nil_int h5 hn0.c0
  have e6 : b ≠ B6 := fun e => by subst e; exact nil_int h6 hn0.c0
  have hbb := hb b e5 e6
  refine ⟨b, o, rfl, hlt, fun k hk => ?_⟩
  obtain ⟨K, kc, hn⟩ := hc k hk
  exact ⟨K, kc, (World.cell?_of_block hbb).trans hn.c0, (World.cell?_of_block hbb).trans hn.c1, (World.cell?_of_block hbb).trans hn.c2, (World.cell?_of_block hbb).trans hn.c3, (World.cell?_of_block hbb).trans hn.c4, hn.kids.away h5 h6 hb, hn.room, hn.nil⟩
theorem two_boxes {w V X W1 W2 F : World} {B5 B6 : Nat} {P Q : Gr} {NA RA NB RB : Option Addr} {nc rc mc sc : Nat}
    (hF : (((X.setCell ⟨B5, 0, none⟩ (.slice NA P.nodes.length nc)).setCell ⟨B5, 1, none⟩ (.slice RA P.roots.length rc)).setCell ⟨B6, 0, none⟩ (.slice NB Q.nodes.length mc)).setCell ⟨B6, 1, none⟩ (.slice RB Q.roots.length sc) = F)
    (hV : Below w.heap.size w V) (hX : Below V.heap.size V X) (hB5 : V.heap.size ≤ B5) (hB6 : V.heap.size ≤ B6) (hne : B5 ≠ B6) (h5 : X.heap[B5]? = some nilRow) (h6 : X.heap[B6]? = some nilRow)
    (hN1 : NdsAt W1 W1.heap.size NA P.nodes) (hR1 : IntsAt W1 W1.heap.size RA P.roots) (hb1 : Below W1.heap.size W1 X) (hN2 : NdsAt W2 W2.heap.size NB Q.nodes) (hR2 : IntsAt W2 W2.heap.size RB Q.roots) (hb2 : Below W2.heap.size W2 X) :
    Boxes2 w F B5 B6 P Q NA RA NB RB nc rc mc sc := by
  have hb : ∀ b, b ≠ B5 → b ≠ B6 → F.heap[b]? = X.heap[b]? := fun b e5 e6 => by
    rw [← hF]
    exact ((Below.heap_setCell _ ⟨B6, 1, none⟩ _ b e6).trans (Below.heap_setCell _ ⟨B6, 0, none⟩ _ b e6)).trans ((Below.heap_setCell _ ⟨B5, 1, none⟩ _ b e5).trans (Below.heap_setCell _ ⟨B5, 0, none⟩ _ b e5))
  have hsz : F.heap.size = X.heap.size := by rw [← hF]; simp
  have r5 := Go.Joins.block_setCell (i := 1) (Go.Joins.block_setCell (i := 0) h5 (.slice NA P.nodes.length nc)) (.slice RA P.roots.length rc)
  have h6' : ((X.setCell ⟨B5, 0, none⟩ (.slice NA P.nodes.length nc)).setCell ⟨B5, 1, none⟩ (.slice RA P.roots.length rc)).heap[B6]? = some nilRow :=
    (Below.heap_setCell _ ⟨B5, 1, none⟩ _ B6 (fun e => hne e.symm)).trans ((Below.heap_setCell _ ⟨B5, 0, none⟩ _ B6 (fun e => hne e.symm)).trans h6)
  have r6 := Go.Joins.block_setCell (i := 1) (Go.Joins.block_setCell (i := 0) h6' (.slice NB Q.nodes.length mc)) (.slice RB Q.roots.length sc)
  rw [hF] at r6
  have r5' : F.heap[B5]? = some (.cells #[.slice NA P.nodes.length nc, .slice RA P.roots.length rc] 25 (0, 0)) := by
    rw [← hF]
    exact ((Below.heap_setCell _ ⟨B6, 1, none⟩ _ B5 hne).trans (Below.heap_setCell _ ⟨B6, 0, none⟩ _ B5 hne)).trans r5
  have hwX := below_then hV hX
  have hwV := hV.size
  have hwF : Below w.heap.size w F := by
    rw [← hF]
    exact (((hwX.setCell (p := ⟨B5, 0, none⟩) (Nat.le_trans hwV hB5) _).setCell (p := ⟨B5, 1, none⟩) (Nat.le_trans hwV hB5) _).setCell (p := ⟨B6, 0, none⟩) (Nat.le_trans hwV hB6) _).setCell (p := ⟨B6, 1, none⟩) (Nat.le_trans hwV hB6) _
  refine ⟨Lib.cell_of_heap r5' 0, Lib.cell_of_heap r5' 1, Lib.cell_of_heap r6 0, Lib.cell_of_heap r6 1, hwF, ?_, ?_, ?_, ?_, r5', r6⟩ <;> rw [hsz]
  · exact ((hN1.below hb1 (Nat.le_refl _)).more hb1.size).away h5 h6 hb
  · exact ((hR1.below hb1 (Nat.le_refl _)).more hb1.size).away h5 h6 hb
  · exact ((hN2.below hb2 (Nat.le_refl _)).more hb2.size).away h5 h6 hb
  · exact ((hR2.below hb2 (Nat.le_refl _)).more hb2.size).away h5 h6 hb
/-- Which operations may come up, of a pair of calls in a chain and two makings. -/
def rl4 (b1 b3 b4 b5 : Bool) : List Nat := (if b1 then (if b3 then [] else [3]) else [1]) ++ (if b4 then [] else [4]) ++ (if b5 then [] else [5])
def cnt4 (b1 b3 b4 b5 : Bool) : Nat := (if b1 then 0 else 1) + (if b3 then 0 else 1) + (if b4 then 0 else 1) + (if b5 then 0 else 1)
theorem anyH_four {P : Program} {ops : Array Oper} {Q : Exit → Act → World → Prop} {S : World → Prop} {J : Bool → Bool → Bool → Bool → Act → World → Prop}
    (hr : ∀ b1 b3 b4 b5, (b3 = true → b1 = true) → (b1 && b3 && b4 && b5) = false → Region.ready .any ops #[true, b1, true, b3, b4, b5, false, false] = rl4 b1 b3 b4 b5)
    (s1 : ∀ b4 b5 a W, J false false b4 b5 a W → wpOp P ops Q 1 (fun a' W' => S W' ∧ J true false b4 b5 a' W') a W)
    (s3 : ∀ b4 b5 a W, J true false b4 b5 a W → wpOp P ops Q 3 (fun a' W' => S W' ∧ J true true b4 b5 a' W') a W)
    (s4 : ∀ b1 b3 b5 a W, J b1 b3 false b5 a W → wpOp P ops Q 4 (fun a' W' => S W' ∧ J b1 b3 true b5 a' W') a W)
    (s5 : ∀ b1 b3 b4 a W, J b1 b3 b4 false a W → wpOp P ops Q 5 (fun a' W' => S W' ∧ J b1 b3 b4 true a' W') a W)
    (fin : ∀ a W, J true true true true a W → wpAnyH P .any ops Q S 2 #[true, true, true, true, true, true, false, false] a W) :
    ∀ n b1 b3 b4 b5 a W, (b3 = true → b1 = true) → cnt4 b1 b3 b4 b5 = n → J b1 b3 b4 b5 a W → wpAnyH P .any ops Q S (n + 2) #[true, b1, true, b3, b4, b5, false, false] a W := by
  intro n
  induction n with
  | zero =>
    intro b1 b3 b4 b5 a W h13 hc hJ
    have : b1 = true ∧ b3 = true ∧ b4 = true ∧ b5 = true := by
      revert hc; cases b1 <;> cases b3 <;> cases b4 <;> cases b5 <;> simp [cnt4]
    obtain ⟨rfl, rfl, rfl, rfl⟩ := this
    exact fin a W hJ
  | succ n ih =>
    intro b1 b3 b4 b5 a W h13 hc hJ
    have hn : (b1 && b3 && b4 && b5) = false := by
      revert hc; cases b1 <;> cases b3 <;> cases b4 <;> cases b5 <;> simp [cnt4]
    refine wpAnyH_all (hr b1 b3 b4 b5 h13 hn) ?_ ?_
    · cases b1 <;> cases b3 <;> cases b4 <;> cases b5 <;> first | (simp [rl4]; done) | (simp at hn; done) | (simp at h13; done)
    · intro i hi
      have hcs : (i = 1 ∧ b1 = false) ∨ (i = 3 ∧ b1 = true ∧ b3 = false) ∨ (i = 4 ∧ b4 = false) ∨ (i = 5 ∧ b5 = false) := by
        cases b1 <;> cases b3 <;> cases b4 <;> cases b5 <;> simp [rl4] at hi ⊢ <;> (try omega)
      rcases hcs with ⟨rfl, rfl⟩ | ⟨rfl, rfl, rfl⟩ | ⟨rfl, rfl⟩ | ⟨rfl, rfl⟩
      · have h3 : b3 = false := by cases b3 <;> simp at h13 ⊢
        subst h3
        exact wpOp_mono (fun a' w' h => ⟨h.1, ih true false b4 b5 a' w' (by simp) (by revert hc; simp only [cnt4, if_true, Bool.false_eq_true, if_false]; omega) h.2⟩) (s1 b4 b5 a W hJ)
      · exact wpOp_mono (fun a' w' h => ⟨h.1, ih true true b4 b5 a' w' (by simp) (by revert hc; simp only [cnt4, if_true, Bool.false_eq_true, if_false]; omega) h.2⟩) (s3 b4 b5 a W hJ)
      · exact wpOp_mono (fun a' w' h => ⟨h.1, ih b1 b3 true b5 a' w' h13 (by revert hc; simp only [cnt4, if_true, Bool.false_eq_true, if_false]; omega) h.2⟩) (s4 b1 b3 b5 a W hJ)
      · exact wpOp_mono (fun a' w' h => ⟨h.1, ih b1 b3 b4 true a' w' h13 (by revert hc; simp only [cnt4, if_true, Bool.false_eq_true, if_false]; omega) h.2⟩) (s5 b1 b3 b4 a W hJ)
/-- How far the two graphs are made, and their boxes. -/
structure SmSt (V : World) (P Q : Gr) (b1 b3 b4 b5 : Bool) (t5 t6 t16 t18 : Value) (W : World) : Prop where
  base : Below V.heap.size V W
  f1 : b1 = true → GrAt W W.heap.size P t16
  f3 : b3 = true → GrAt W W.heap.size Q t18
  f4 : b4 = true → ∃ B, t5 = .pointer (some ⟨B, 0, none⟩) ∧ V.heap.size ≤ B ∧ W.heap[B]? = some nilRow
  f5 : b5 = true → ∃ B, t6 = .pointer (some ⟨B, 0, none⟩) ∧ V.heap.size ≤ B ∧ W.heap[B]? = some nilRow
  ne : b4 = true → b5 = true → t5 ≠ t6
theorem SmSt.go {V W W' : World} {P Q : Gr} {b1 b3 b4 b5 : Bool} {t5 t6 t16 t18 : Value} (h : SmSt V P Q b1 b3 b4 b5 t5 t6 t16 t18 W) (hb : Below W.heap.size W W') : SmSt V P Q b1 b3 b4 b5 t5 t6 t16 t18 W' :=
  ⟨Below.trans h.base (hb.mono h.base.size), fun e => ((h.f1 e).below hb (Nat.le_refl _)).more hb.size, fun e => ((h.f3 e).below hb (Nat.le_refl _)).more hb.size,
    fun e => by obtain ⟨B, h1, h2, h3⟩ := h.f4 e; exact ⟨B, h1, h2, (hb.block B (Array.getElem?_eq_some_iff.1 h3).1).trans h3⟩,
    fun e => by obtain ⟨B, h1, h2, h3⟩ := h.f5 e; exact ⟨B, h1, h2, (hb.block B (Array.getElem?_eq_some_iff.1 h3).1).trans h3⟩, h.ne⟩
theorem SmSt.c1 {V W W' : World} {P Q : Gr} {b3 b4 b5 : Bool} {t5 t6 t16 t18 u : Value} (h : SmSt V P Q false b3 b4 b5 t5 t6 t16 t18 W) (hb : Below W.heap.size W W') (hu : GrAt W' W'.heap.size P u) : SmSt V P Q true b3 b4 b5 t5 t6 u t18 W' :=
  ⟨(h.go hb).base, fun _ => hu, (h.go hb).f3, (h.go hb).f4, (h.go hb).f5, h.ne⟩
theorem SmSt.c3 {V W W' : World} {P Q : Gr} {b1 b4 b5 : Bool} {t5 t6 t16 t18 u : Value} (h : SmSt V P Q b1 false b4 b5 t5 t6 t16 t18 W) (hb : Below W.heap.size W W') (hu : GrAt W' W'.heap.size Q u) : SmSt V P Q b1 true b4 b5 t5 t6 t16 u W' :=
  ⟨(h.go hb).base, (h.go hb).f1, fun _ => hu, (h.go hb).f4, (h.go hb).f5, h.ne⟩
theorem SmSt.a4 {V W : World} {P Q : Gr} {b1 b3 b5 : Bool} {t5 t6 t16 t18 : Value} (h : SmSt V P Q b1 b3 false b5 t5 t6 t16 t18 W) : SmSt V P Q b1 b3 true b5 (.pointer (some ⟨W.heap.size, 0, none⟩)) t6 t16 t18 (W.alloc nilRow) := by
  have hb : Below W.heap.size W (W.alloc nilRow) := (Below.refl _ W).alloc (Nat.le_refl _) _
  refine ⟨(h.go hb).base, (h.go hb).f1, (h.go hb).f3, fun _ => ⟨_, rfl, h.base.size, World.alloc_heap_new W _⟩, (h.go hb).f5, fun _ e => ?_⟩
  obtain ⟨B, h1, _, h3⟩ := h.f5 e
  subst h1
  have h4 := (Array.getElem?_eq_some_iff.1 h3).1
  intro e2
  injection e2 with e2
  injection e2 with e2
  injection e2 with e2
  omega
theorem SmSt.a5 {V W : World} {P Q : Gr} {b1 b3 b4 : Bool} {t5 t6 t16 t18 : Value} (h : SmSt V P Q b1 b3 b4 false t5 t6 t16 t18 W) : SmSt V P Q b1 b3 b4 true t5 (.pointer (some ⟨W.heap.size, 0, none⟩)) t16 t18 (W.alloc nilRow) := by
  have hb : Below W.heap.size W (W.alloc nilRow) := (Below.refl _ W).alloc (Nat.le_refl _) _
  refine ⟨(h.go hb).base, (h.go hb).f1, (h.go hb).f3, (h.go hb).f4, fun _ => ⟨_, rfl, h.base.size, World.alloc_heap_new W _⟩, fun e _ => ?_⟩
  obtain ⟨B, h1, _, h3⟩ := h.f4 e
  subst h1
  have h4 := (Array.getElem?_eq_some_iff.1 h3).1
  intro e2
  injection e2 with e2
  injection e2 with e2
  injection e2 with e2
  omega
set_option maxRecDepth 100000 in
set_option maxHeartbeats 4000000 in
theorem Same_any (G H : Gr) (u v : Value) (w : World) (hG : GrAt w w.heap.size G u) (hH : GrAt w w.heap.size H v) (okG : G.ok) (okH : H.ok) (hT : Tabs w) :
    Calls Tryd.prog 30 #[u, v] w fun e w' => e = .returned (.bool (sameB G H)) ∧ Below w.heap.size w w' := by
  have HR1 : Hid (∀ W, Below w.heap.size w W → Calls Tryd.prog 18 #[u] W fun e w' => e = .returned (.bool (rightB G)) ∧ Below W.heap.size W w') := fun W hW => Right_any G u W ((hG.below hW (Nat.le_refl _)).more hW.size) okG (hT.below hW)
  have HR2 : Hid (∀ W, Below w.heap.size w W → Calls Tryd.prog 18 #[v] W fun e w' => e = .returned (.bool (rightB H)) ∧ Below W.heap.size W w') := fun W hW => Right_any H v W ((hH.below hW (Nat.le_refl _)).more hW.size) okH (hT.below hW)
  have HF1 : Hid (∀ W, Below w.heap.size w W → Calls Tryd.prog 33 #[u] W fun e w' => ∃ u', e = .returned u' ∧ GrAt w' w'.heap.size (formB G) u' ∧ Below W.heap.size W w') := fun W hW => Form_any G u W ((hG.below hW (Nat.le_refl _)).more hW.size) okG (hT.below hW)
  have HF2 : Hid (∀ W, Below w.heap.size w W → Calls Tryd.prog 33 #[v] W fun e w' => ∃ u', e = .returned u' ∧ GrAt w' w'.heap.size (formB H) u' ∧ Below W.heap.size W w') := fun W hW => Form_any H v W ((hH.below hW (Nat.le_refl _)).more hW.size) okH (hT.below hW)
  obtain ⟨NA, nc, RA, rc, rfl, _, _⟩ := hG.ex
  obtain ⟨NB, mc, RB, sc, rfl, _, _⟩ := hH.ex
  obtain ⟨R, hR⟩ : ∃ R, sameB G H = R := ⟨_, rfl⟩
  have HR : Hid (R = (rightB G && rightB H && decide (bareG (formG G) = bareG (formG H)))) := by show _ = _; rw [← hR]; rfl
  rw [hR]
  obtain ⟨r1, h1⟩ : ∃ b, rightB G = b := ⟨_, rfl⟩
  obtain ⟨r2, h2⟩ : ∃ b, rightB H = b := ⟨_, rfl⟩
  rw [h1] at HR1 HR
  rw [h2] at HR2 HR
  obtain ⟨U, hU, hbU, hrU, hsU⟩ := boxCs w #[.slice NA G.nodes.length nc, .slice RA G.roots.length rc] 25
  obtain ⟨V, hV, hbV, hrV, hsV⟩ := boxCs U #[.slice NB H.nodes.length mc, .slice RB H.roots.length sc] 25
  have hrU2 := (hbV.block w.heap.size (by omega)).trans hrU
  rw [hsU] at hrV
  have HbV := Lib.hid (below_then hbU hbV)
  have HC : Hid (∀ W, Below V.heap.size V W → W.cell? ⟨w.heap.size, 0, none⟩ = some (.slice NA G.nodes.length nc) ∧ W.cell? ⟨w.heap.size, 1, none⟩ = some (.slice RA G.roots.length rc) ∧ W.cell? ⟨w.heap.size + 1, 0, none⟩ = some (.slice NB H.nodes.length mc) ∧ W.cell? ⟨w.heap.size + 1, 1, none⟩ = some (.slice RB H.roots.length sc) ∧ Below w.heap.size w W) := fun W hW => by
    have a := (hW.block w.heap.size (by omega)).trans hrU2
    have b := (hW.block (w.heap.size + 1) (by omega)).trans hrV
    exact ⟨Lib.cell_of_heap a 0, Lib.cell_of_heap a 1, Lib.cell_of_heap b 0, Lib.cell_of_heap b 1, below_then HbV.out hW⟩
  obtain ⟨v0, v1, v2, v3, _⟩ := HC.out V (Below.refl _ _)
  cases r1 with
  | false =>
    have HE : Hid (R = false) := by show _ = _; rw [HR.out]; rfl
    clear hG hH okG okH hT hR h1 h2 HF1 HF2 hbU hrU hbV hrV hsV hrU2 HR
    go_enter Tryd.func30, Tryd.ntmps30
    go_wp2_with (go_at_call 18; refine (HR1.out V HbV.out).mono ?_; rintro e w1 ⟨rfl, hb1⟩; obtain ⟨x0, x1, x2, x3, x4⟩ := HC.out w1 hb1; have X4 := Lib.hid x4; clear hb1 x4)
    go_ret
    exact ⟨ret_bool HE.out.symm, X4.out⟩
  | true =>
    cases r2 with
    | false =>
      have HE : Hid (R = false) := by show _ = _; rw [HR.out]; rfl
      clear hG hH okG okH hT hR h1 h2 HF1 HF2 hbU hrU hbV hrV hsV hrU2 HR
      go_enter Tryd.func30, Tryd.ntmps30
      go_wp2_with (first
        | (go_at_call 18; refine (HR2.out w1 (HC.out w1 Hb1.out).2.2.2.2).mono ?_; rintro e w2 ⟨rfl, hb2⟩; have Hb2 := Lib.hid (below_then (HC.out w1 Hb1.out).2.2.2.2 hb2); clear hb2)
        | (go_at_call 18; refine (HR1.out V HbV.out).mono ?_; rintro e w1 ⟨rfl, hb1⟩; obtain ⟨x0, x1, x2, x3, _⟩ := HC.out w1 hb1; have Hb1 := Lib.hid hb1; clear hb1))
      go_ret
      exact ⟨ret_bool HE.out.symm, Hb2.out⟩
    | true =>
      have hf1 : formB G = formG G := by rw [formB, h1]; rfl
      have hf2 : formB H = formG H := by rw [formB, h2]; rfl
      have g1 := formG_right (RightR.of h1)
      have g2 := formG_right (RightR.of h2)
      rw [hf1] at HF1
      rw [hf2] at HF2
      obtain ⟨P, hP⟩ : ∃ P, formG G = P := ⟨_, rfl⟩
      obtain ⟨Q, hQ⟩ : ∃ Q, formG H = Q := ⟨_, rfl⟩
      rw [hP] at HF1 g1 HR
      rw [hQ] at HF2 g2 HR
      have HE : Hid (R = (decide (P.roots = Q.roots) && decide (P.nodes.map bareN = Q.nodes.map bareN))) := by
        show _ = _
        rw [HR.out, Bool.eq_iff_iff]
        simp [same_iff]
      have Hg1 := Lib.hid g1
      have Hg2 := Lib.hid g2
      clear hG hH okG okH hT hR h1 h2 hbU hrU hbV hrV hsV hrU2 HR hf1 hf2 hP hQ g1 g2
      go_enter Tryd.func30, Tryd.ntmps30
      go_wp2_with (first
        | (go_at_call 18; refine (HR2.out w1 (HC.out w1 Hb1.out).2.2.2.2).mono ?_; rintro e w2 ⟨rfl, hb2⟩; have Hb2 := Lib.hid (Hb1.out.trans (hb2.mono Hb1.out.size)); obtain ⟨y0, y1, y2, y3, _⟩ := HC.out w2 Hb2.out; clear hb2)
        | (go_at_call 18; refine (HR1.out V HbV.out).mono ?_; rintro e w1 ⟨rfl, hb1⟩; obtain ⟨x0, x1, x2, x3, _⟩ := HC.out w1 hb1; have Hb1 := Lib.hid hb1; clear hb1))
      have HD : Hid (Below V.heap.size V w2.drew) := Hb2.out.drew
      obtain ⟨s0, s1, s2, s3, _⟩ := HC.out w2.drew HD.out
      clear x0 x1 x2 x3 y0 y1 y2 y3 v0 v1 v2 v3
      have HJ : Hid (SmSt V P Q false false false false undef undef undef undef w2.drew) := ⟨HD.out, (fun e => by cases e), (fun e => by cases e), (fun e => by cases e), (fun e => by cases e), (fun e => by cases e)⟩
      have HSc : Hid (∀ W', Below V.heap.size V W' → W'.cell? ⟨w.heap.size, 0, none⟩ = some (.slice NA G.nodes.length nc) ∧ W'.cell? ⟨w.heap.size, 1, none⟩ = some (.slice RA G.roots.length rc) ∧ W'.cell? ⟨w.heap.size + 1, 0, none⟩ = some (.slice NB H.nodes.length mc) ∧ W'.cell? ⟨w.heap.size + 1, 1, none⟩ = some (.slice RB H.roots.length sc)) := fun W' h => ⟨(HC.out _ h).1, (HC.out _ h).2.1, (HC.out _ h).2.2.1, (HC.out _ h).2.2.2.1⟩
      refine wp_region_held_drew (S := fun W' => W'.cell? ⟨w.heap.size, 0, none⟩ = some (.slice NA G.nodes.length nc) ∧ W'.cell? ⟨w.heap.size, 1, none⟩ = some (.slice RA G.roots.length rc) ∧ W'.cell? ⟨w.heap.size + 1, 0, none⟩ = some (.slice NB H.nodes.length mc) ∧ W'.cell? ⟨w.heap.size + 1, 1, none⟩ = some (.slice RB H.roots.length sc)) (by kernel_rfl) (HSc.out _ HD.out) (fun hHeld => ?_)
      refine wpAnyH_take (i := 0) (v := ?_) rfl (by kernel_rfl) (by kernel_rfl) (by kernel_rfl) (fun _ _ _ h => h) (Or.inl ⟨by rfl, ?_⟩) hHeld ?_
      rotate_left
      · intro W hSw
        obtain ⟨_, _, _, _⟩ := hSw
        go_simp
        with_reducible rfl
      try simp only [Act.put, List.setIfInBounds_toArray]
      refine wpAnyH_take (i := 2) (v := ?_) rfl (by kernel_rfl) (by kernel_rfl) (by kernel_rfl) (fun _ _ _ h => h) (Or.inl ⟨by rfl, ?_⟩) hHeld ?_
      rotate_left
      · intro W hSw
        obtain ⟨_, _, _, _⟩ := hSw
        go_simp
        with_reducible rfl
      clear hHeld
      refine anyH_four (J := fun b1 b3 b4 b5 a W => ∃ t5 t6 t16 t18, a = { tmps := #[.agg #[.slice NA G.nodes.length nc, .slice RA G.roots.length rc], .agg #[.slice NB H.nodes.length mc, .slice RB H.roots.length sc], .pointer (some ⟨w.heap.size, 0, none⟩), .pointer (some ⟨w.heap.size + 1, 0, none⟩), .bool false, t5, t6, .agg #[.slice NA G.nodes.length nc, .slice RA G.roots.length rc], .bool true, .bool false, .bool false, .agg #[.slice NB H.nodes.length mc, .slice RB H.roots.length sc], .bool true, .bool false, .bool false, .agg #[.slice NA G.nodes.length nc, .slice RA G.roots.length rc], t16, .agg #[.slice NB H.nodes.length mc, .slice RB H.roots.length sc], t18, undef, undef, undef, undef, undef, undef, undef, undef, undef, undef, undef, undef], defers := [] } ∧ Hid (SmSt V P Q b1 b3 b4 b5 t5 t6 t16 t18 W)) ?rdy ?s1 ?s3 ?s4 ?s5 ?fin 4 false false false false _ _ (fun e => e) rfl ⟨_, _, _, _, rfl, HJ⟩
      case rdy => intro b1 b3 b4 b5 h13 hn; cases b1 <;> cases b3 <;> cases b4 <;> cases b5 <;> first | (simp at h13; done) | (simp at hn; done) | kernel_rfl
      case s1 =>
        rintro b4 b5 a W ⟨t5, t6, t16, t18, rfl, hs⟩
        refine wpOp_step rfl (fun K' hK => ?_)
        have HK := Lib.hid hK
        clear hK s0 s1 s2 s3
        obtain ⟨s0, s1, s2, s3⟩ := HSc.out W hs.out.base
        go_simp
        go_wp2_with (go_at_call 33; refine (HF1.out W (HC.out W hs.out.base).2.2.2.2).mono ?_; rintro e W1 ⟨u, rfl, hG1, hc1⟩)
        exact HK.out _ _ ⟨HSc.out _ (hs.out.c1 hc1 hG1).base, _, _, _, _, rfl, hs.out.c1 hc1 hG1⟩
      case s3 =>
        rintro b4 b5 a W ⟨t5, t6, t16, t18, rfl, hs⟩
        refine wpOp_step rfl (fun K' hK => ?_)
        have HK := Lib.hid hK
        clear hK s0 s1 s2 s3
        obtain ⟨s0, s1, s2, s3⟩ := HSc.out W hs.out.base
        go_simp
        go_wp2_with (go_at_call 33; refine (HF2.out W (HC.out W hs.out.base).2.2.2.2).mono ?_; rintro e W1 ⟨u, rfl, hG1, hc1⟩)
        exact HK.out _ _ ⟨HSc.out _ (hs.out.c3 hc1 hG1).base, _, _, _, _, rfl, hs.out.c3 hc1 hG1⟩
      case s4 =>
        rintro b1 b3 b5 a W ⟨t5, t6, t16, t18, rfl, hs⟩
        refine wpOp_step rfl (fun K' hK => ?_)
        have HK := Lib.hid hK
        clear hK s0 s1 s2 s3
        go_simp
        exact HK.out _ _ ⟨HSc.out _ hs.out.a4.base, _, _, _, _, rfl, hs.out.a4⟩
      case s5 =>
        rintro b1 b3 b4 a W ⟨t5, t6, t16, t18, rfl, hs⟩
        refine wpOp_step rfl (fun K' hK => ?_)
        have HK := Lib.hid hK
        clear hK s0 s1 s2 s3
        go_simp
        exact HK.out _ _ ⟨HSc.out _ hs.out.a5.base, _, _, _, _, rfl, hs.out.a5⟩
      case fin =>
        rintro a W ⟨t5, t6, t16, t18, rfl, hs⟩
        obtain ⟨NA', nc', RA', rc', ht16, hN1, hR1⟩ := (hs.out.f1 rfl).ex
        obtain ⟨NB', mc', RB', sc', ht18, hN2, hR2⟩ := (hs.out.f3 rfl).ex
        obtain ⟨B5, ht5, hB5, h5⟩ := hs.out.f4 rfl
        obtain ⟨B6, ht6, hB6, h6⟩ := hs.out.f5 rfl
        have hne0 := hs.out.ne rfl rfl
        subst ht16 ht18 ht5 ht6
        have hne : B5 ≠ B6 := fun e => hne0 (by rw [e])
        have hX := hs.out.base
        obtain ⟨F, hF⟩ : ∃ F, (((W.setCell ⟨B5, 0, none⟩ (.slice NA' P.nodes.length nc')).setCell ⟨B5, 1, none⟩ (.slice RA' P.roots.length rc')).setCell ⟨B6, 0, none⟩ (.slice NB' Q.nodes.length mc')).setCell ⟨B6, 1, none⟩ (.slice RB' Q.roots.length sc') = F := ⟨_, rfl⟩
        have HB : Hid (Boxes2 w F B5 B6 P Q NA' RA' NB' RB' nc' rc' mc' sc') := two_boxes (W1 := W) (W2 := W) hF HbV.out hX hB5 hB6 hne h5 h6 hN1 hR1 (Below.refl _ _) hN2 hR2 (Below.refl _ _)
        have hX6 : Below V.heap.size V ((W.setCell ⟨B5, 0, none⟩ (.slice NA' P.nodes.length nc')).setCell ⟨B5, 1, none⟩ (.slice RA' P.roots.length rc')) := (hX.setCell (p := ⟨B5, 0, none⟩) hB5 _).setCell (p := ⟨B5, 1, none⟩) hB5 _
        have hF2 : Below V.heap.size V F := by rw [← hF]; exact (hX6.setCell (p := ⟨B6, 0, none⟩) hB6 _).setCell (p := ⟨B6, 1, none⟩) hB6 _
        have hk6 : ((W.setCell ⟨B5, 0, none⟩ (.slice NA' P.nodes.length nc')).setCell ⟨B5, 1, none⟩ (.slice RA' P.roots.length rc')).heap[B6]? = some nilRow := ((Below.heap_setCell _ ⟨B5, 1, none⟩ _ B6 (fun e => hne e.symm)).trans (Below.heap_setCell W ⟨B5, 0, none⟩ _ B6 (fun e => hne e.symm))).trans h6
        have a0 := Lib.cell_of_heap h5 0
        have a1 := Lib.cell_of_heap h5 1
        have a2 := Go.Joins.unfrozen_of_block h5 0
        have a3 := Go.Joins.unfrozen_of_block h5 1
        obtain ⟨W6, hW6⟩ : ∃ W6, (W.setCell ⟨B5, 0, none⟩ (.slice NA' P.nodes.length nc')).setCell ⟨B5, 1, none⟩ (.slice RA' P.roots.length rc') = W6 := ⟨_, rfl⟩
        rw [hW6] at hF hX6 hk6
        have b0 := Lib.cell_of_heap hk6 0
        have b1 := Lib.cell_of_heap hk6 1
        have b2 := Go.Joins.unfrozen_of_block hk6 0
        have b3 := Go.Joins.unfrozen_of_block hk6 1
        have HX6 := Lib.hid hX6
        have HF2 := Lib.hid hF2
        clear s0 s1 s2 s3 hs hN1 hR1 hN2 hR2 hB5 hB6 h5 h6 hne0 hX hX6 hF2 hk6
        refine wpAnyH_ready (rs := [6]) (by kernel_rfl) (by simp) (AllReadyH.cons rfl (fun K hK => ?_) .nil)
        have HK := Lib.hid hK
        clear hK
        go_simp
        try rw [hW6]
        refine HK.out.out _ _ (HSc.out _ HX6.out) (fun _ => ?_)
        clear HK
        refine wpAnyH_ready (rs := [7]) (by kernel_rfl) (by simp) (AllReadyH.cons rfl (fun K hK => ?_) .nil)
        have HK := Lib.hid hK
        clear hK
        go_simp
        try rw [hF]
        refine HK.out.out _ _ (HSc.out _ HF2.out) (fun _ => ?_)
        clear HK
        refine wpAnyH_done (by kernel_rfl) ?_ _
        clear hF hW6 a0 a1 a2 a3 b0 b1 b2 b3 HX6 HF2 hne
        have hb := HB.out
        have HR4 : Hid (∀ W, Below F.heap.size F W → W.cell? ⟨B5, 0, none⟩ = some (.slice NA' P.nodes.length nc') ∧ W.cell? ⟨B5, 1, none⟩ = some (.slice RA' P.roots.length rc') ∧ W.cell? ⟨B6, 0, none⟩ = some (.slice NB' Q.nodes.length mc') ∧ W.cell? ⟨B6, 1, none⟩ = some (.slice RB' Q.roots.length sc') ∧ Below w.heap.size w W) := fun W hW => by
          have k5 := (hW.block B5 (Array.getElem?_eq_some_iff.1 hb.rowA).1).trans hb.rowA
          have k6 := (hW.block B6 (Array.getElem?_eq_some_iff.1 hb.rowB).1).trans hb.rowB
          exact ⟨Lib.cell_of_heap k5 0, Lib.cell_of_heap k5 1, Lib.cell_of_heap k6 0, Lib.cell_of_heap k6 1, below_then hb.below hW⟩
        have HE1 : Hid (∀ W, Below F.heap.size F W → Calls Tryd.prog 52 #[.slice RA' P.roots.length rc', .slice RB' Q.roots.length sc'] W fun e w' => e = .returned (.bool (decide (P.roots = Q.roots))) ∧ Below W.heap.size W w') := fun W hW =>
          Equal_any RA' RB' rc' sc' P.roots Q.roots W (by have := Hg1.out.many; omega) (by have := Hg2.out.many; omega) ((hb.r1.below hW (Nat.le_refl _)).more hW.size) ((hb.r2.below hW (Nat.le_refl _)).more hW.size)
        have HE2 : Hid (∀ W, Below F.heap.size F W → Calls Tryd.prog 53 #[.slice NA' P.nodes.length nc', .slice NB' Q.nodes.length mc', .func (.func 54) #[] #[]] W fun e w' => e = .returned (.bool (decide (P.nodes.map bareN = Q.nodes.map bareN))) ∧ Below W.heap.size W w') := fun W hW =>
          equalFunc_any NA' NB' nc' mc' P.nodes Q.nodes W (by have := Hg1.out.nodes; omega) (by have := Hg2.out.nodes; omega) Hg1.out.toRightG.kidsLen Hg2.out.toRightG.kidsLen ((hb.n1.below hW (Nat.le_refl _)).more hW.size) ((hb.n2.below hW (Nat.le_refl _)).more hW.size)
        obtain ⟨c0, c1, c2, c3, _⟩ := HR4.out F (Below.refl _ _)
        have HEq := HE.out
        obtain ⟨e1, he1⟩ : ∃ e1, decide (P.roots = Q.roots) = e1 := ⟨_, rfl⟩
        obtain ⟨e2, he2⟩ : ∃ e2, decide (P.nodes.map bareN = Q.nodes.map bareN) = e2 := ⟨_, rfl⟩
        rw [he1] at HE1 HEq
        rw [he2] at HE2 HEq
        have HEr := Lib.hid HEq
        clear hb HEq he1 he2 HE HB HR1 HR2 HF1 HF2 HSc HJ HD HC
        cases e1 with
        | false =>
          go_wp2_with (go_at_call 52; refine (HE1.out F (Below.refl _ _)).mono ?_; rintro e w5 ⟨rfl, hb5⟩; obtain ⟨d0, d1, d2, d3, d4⟩ := HR4.out w5 hb5; have Hb5 := Lib.hid d4; clear hb5 d4)
          go_ret
          exact ⟨ret_bool (by rw [HEr.out]; rfl), Hb5.out⟩
        | true =>
          go_wp2_with (first
            | (go_at_call 53; refine (HE2.out w5 H5.out).mono ?_; rintro e w6 ⟨rfl, hb6⟩; have Hb6 := Lib.hid (HR4.out w6 (Below.trans H5.out (hb6.mono H5.out.size))).2.2.2.2; clear hb6)
            | (go_at_call 52; refine (HE1.out F (Below.refl _ _)).mono ?_; rintro e w5 ⟨rfl, hb5⟩; obtain ⟨d0, d1, d2, d3, _⟩ := HR4.out w5 hb5; have H5 := Lib.hid hb5; clear hb5))
          go_ret
          exact ⟨ret_bool (by rw [HEr.out]; simp), Hb6.out⟩
end Go.Proofs.YtdcbngimgpdjoaaDoor
