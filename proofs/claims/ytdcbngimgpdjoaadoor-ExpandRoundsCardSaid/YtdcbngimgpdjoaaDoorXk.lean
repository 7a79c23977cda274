/- Bombs: lists, each of so many times the next one (marginalialaw23). Conditions: at most sixty lists, at most nine times. -/
import Derived.Test.YtdcbngimgpdjoaaDoorXj
import Derived.Test.YtdcbngimgpdjoaaDoorIn
namespace Go.Proofs.YtdcbngimgpdjoaaDoor
open Go.RowKit Go.Shelf Go.Deep
attribute [local go_sem] Oper.semAt_some
/-- 'append' of one node to a row of the call's own, outside a fence. -/
theorem wpList_appK {W : World} {ops : Array Oper} {rest : List Oper} {o : Oper} {a : Act} {Q : Exit → Act → World → Prop} (hgd : o.guard = none) (s x : Operand) (t : TypeId)
    (ho : o.op = .call { callee := .builtin .append, args := #[s, x], argTypes := #[t, t] }) (ht : Tryd.prog.underlying t = some (.slice 33)) {N : Nat} (v : Value) (L : List NdK) (e : NdK)
    (hs : a.eval s = v) (h : NdsOwn W N v L) (he : KidOk W N v e) (n0 : Nat) (hn0 : n0 = W.heap.size) (hx : a.eval x = .slice (some ⟨n0, 0, none⟩) 1 1) (hl : L.length ≤ 1000000) (hB : N ≤ W.heap.size)
    (K : ∀ v' w' g, NdsOwn w' N v' (L ++ [e]) → (W.alloc (.cells #[.int .i64 e.1.kind, .string e.1.tag, .string e.1.text, .slice e.2.1 e.1.kids.length e.2.2, .bool e.1.plain] 33)).grownBy w' v.ownBlock → v'.ownBlock = some g → (v.ownBlock = some g ∨ g = W.heap.size + 1) → wpList Tryd.prog ops Q rest (a.put o.dst v') w') :
    wpList Tryd.prog ops Q (o :: rest) a (W.alloc (.cells #[.int .i64 e.1.kind, .string e.1.tag, .string e.1.text, .slice e.2.1 e.1.kids.length e.2.2, .bool e.1.plain] 33)) := by
  obtain ⟨i0, hi, hz0, hz1, hz2⟩ := info_parts Tryd.infoNodeI
  refine wpList_append_own_at _ hgd s x t ho N _ i0 _ 5 72 ht hi hz0 hz1 hz2 rfl (by decide) _ _ _ hs (h.own.alloc _) ⟨n0, 0, none⟩ 1 1 (nrow e) hx rfl ?_ (fun u hu => ?_) (by unfold maxLen; omega) (by omega) (by simp; omega) ?_
  · intro j u hj
    subst hn0
    match j, hj with
    | 0, hj => simp [nrow] at hj; subst hj; simp [Addr.add]
    | 1, hj => simp [nrow] at hj; subst hj; simp [Addr.add]
    | 2, hj => simp [nrow] at hj; subst hj; simp [Addr.add]
    | 3, hj => simp [nrow] at hj; subst hj; simp [Addr.add]
    | 4, hj => simp [nrow] at hj; subst hj; simp [Addr.add]
    | j + 5, hj => simp [nrow] at hj
  · simp [nrow] at hu
    rcases hu with rfl | rfl | rfl | rfl | rfl <;> rfl
  · intro v' w' h1 h2 h3 h4
    have h1' : w'.ownsRow N 33 5 v' (L ++ [e]).length (nrows (L ++ [e])) := by rw [nrows_snoc, List.length_append]; exact h1
    rcases h1.2 with ⟨_, h0⟩ | ⟨g', cap', cur', hv, _⟩
    · omega
    · have hg1 : v'.ownBlock = some g' := by rw [hv]; rfl
      have hg2 : v.ownBlock = some g' ∨ g' = W.heap.size + 1 := by
        rcases h4 with h4 | h4
        · left; rw [← h4, hg1]
        · right; rw [hg1] at h4; simpa using h4
      obtain ⟨q1, _, _⟩ := h.push he h2 h1' hg1 hg2
      exact K v' w' g' q1 h2 hg1 hg2
def bombN (n t i : Nat) : Nd := ⟨2, ⟨#[120]⟩, ⟨#[]⟩, if i + 1 < n then List.replicate t ((i + 1 : Nat) : Int) else [], false⟩
def bombG (n t : Nat) : Gr := ⟨(List.range n).map (bombN n t), [0]⟩
/-- The box of a node whose Kids are made. -/
structure KvSt (W0 : World) (e0 : Nd) (l : List Nat) (kv : Value) (W : World) : Prop where
  below : Below W0.heap.size W0 W
  box : W.heap[W0.heap.size]? = some (.cells #[.int .i64 e0.kind, .string e0.tag, .string e0.text, kv, .bool e0.plain] 33 (0, 0))
  kids : W.ownsRow (W0.heap.size + 1) 3 1 kv l.length (ncells l)
theorem KvSt.push {W0 W w' : World} {e0 : Nd} {l : List Nat} {kv v' : Value} {z : Nat} {o : Obj} (h : KvSt W0 e0 l kv W) (hg : (W.alloc o).grownBy w' kv.ownBlock) (hv : w'.ownsRow (W0.heap.size + 1) 3 1 v' (l ++ [z]).length (ncells (l ++ [z]))) :
    (w'.cell? ⟨W0.heap.size, 3, none⟩ = some kv ∧ w'.frozen? ⟨W0.heap.size, 3, none⟩ = false) ∧ KvSt W0 e0 (l ++ [z]) v' (w'.setCell ⟨W0.heap.size, 3, none⟩ v') := by
  have hlt := (Array.getElem?_eq_some_iff.1 h.box).1
  have hsz : W.heap.size ≤ w'.heap.size := Nat.le_trans (by simp) hg.size
  have hk : ∀ b, b ≤ W0.heap.size → w'.heap[b]? = W.heap[b]? := fun b hb => (hg.block b (by simp; omega) fun e => by have := (own_place h.kids e.symm).1; omega).trans (Below.heap_alloc W o b (by omega))
  have hst : ∀ b, b ≠ W0.heap.size → (w'.setCell ⟨W0.heap.size, 3, none⟩ v').heap[b]? = w'.heap[b]? := fun b hl => Below.heap_setCell w' ⟨W0.heap.size, 3, none⟩ _ b hl
  have hx := (hk _ (Nat.le_refl _)).trans h.box
  refine ⟨⟨Lib.cell_of_heap hx 3, Go.Joins.unfrozen_of_block hx 3⟩, ⟨hg.os.trans h.below.os, hg.tape.trans h.below.tape, hg.output.trans h.below.output, by have := h.below.size; simp; omega, fun b hb => (hst b (by omega)).trans ((hk b (by omega)).trans (h.below.block b hb))⟩, Go.Joins.block_setCell hx v', ownsRow_same hv fun b hb _ => hst b (by have := (own_place hv hb).1; omega)⟩
theorem KvSt.kid {W0 W : World} {e0 : Nd} {l : List Nat} {kv nv : Value} {N : Nat} (h : KvSt W0 e0 l kv W) (hN : N ≤ W0.heap.size) (hv : ∀ b, nv.ownBlock = some b → b < W0.heap.size) : ∃ A' c', kv = .slice A' l.length c' ∧ KidOk W N nv ({ e0 with kids := l.map Int.ofNat }, A', c') := by
  rcases h.kids.2 with ⟨rfl, h0⟩ | ⟨g, cap, cur, rfl, hNg, hg, hcp, _, _, _⟩
  · exact ⟨none, 0, by rw [h0], ⟨fun hz => by simp [h0] at hz, by simp [h0], fun _ => rfl, fun p hp => by cases hp⟩⟩
  · obtain ⟨A2, c2, e2, hI, hc2, _⟩ := ints_row h.kids
    cases e2
    refine ⟨_, cap, rfl, ⟨hI, by simpa using hc2, fun e => (by cases e), fun p hp => ?_⟩⟩
    cases hp
    refine ⟨by show N ≤ g; omega, (Array.getElem?_eq_some_iff.1 hg).1, fun e => ?_⟩
    have h9 : g < W0.heap.size := hv _ e
    omega
/-- The graph's box, and the row of its nodes. -/
structure BoSt (Y : World) (B : Nat) (rv nv : Value) (L : List NdK) (W : World) : Prop where
  keep : KpT Y W B
  out : W.heap[B]? = some (.cells #[nv, rv] 25 (0, 0))
  nds : NdsOwn W Y.heap.size nv L
theorem BoSt.push {Y W0 W w' : World} {B : Nat} {rv nv v' : Value} {L L' : List NdK} {o : Obj} (h : BoSt Y B rv nv L W0) (hB : B < Y.heap.size) (hb : Below W0.heap.size W0 W) (hn : NdsOwn w' Y.heap.size v' L') (hg : (W.alloc o).grownBy w' nv.ownBlock) :
    (w'.cell? ⟨B, 0, none⟩ = some nv ∧ w'.frozen? ⟨B, 0, none⟩ = false) ∧ BoSt Y B rv v' L' (w'.setCell ⟨B, 0, none⟩ v') := by
  have h1 := h.keep.size
  have h2 := hb.size
  have hsz : W.heap.size ≤ w'.heap.size := Nat.le_trans (by simp) hg.size
  have hk : ∀ b, b < Y.heap.size → w'.heap[b]? = W0.heap[b]? := fun b hl => (hg.block b (by simp; omega) fun e => by have := (own_place h.nds.own e.symm).1; omega).trans ((Below.heap_alloc W o b (by omega)).trans (hb.block b (by omega)))
  have hst : ∀ b, b ≠ B → (w'.setCell ⟨B, 0, none⟩ v').heap[b]? = w'.heap[b]? := fun b hl => Below.heap_setCell w' ⟨B, 0, none⟩ _ b hl
  have hx := (hk _ hB).trans h.out
  exact ⟨⟨Lib.cell_of_heap hx 0, Go.Joins.unfrozen_of_block hx 0⟩, ⟨hg.os.trans (hb.os.trans h.keep.os), hg.tape.trans (hb.tape.trans h.keep.tape), hg.output.trans (hb.output.trans h.keep.output), by simp; omega, fun b hl hn => (hst b hn).trans ((hk b hl).trans (h.keep.block b hl hn))⟩,
    Go.Joins.block_setCell hx v', hn.keep (by simp) fun b hN _ => hst b (by omega)⟩
theorem bomb_take (n t i : Nat) : (List.range (i + 1)).map (bombN n t) = (List.range i).map (bombN n t) ++ [bombN n t i] := by rw [List.range_succ, List.map_append]; rfl
set_option maxRecDepth 100000 in
set_option maxHeartbeats 8000000 in
theorem Bombs_own (n t : Nat) (hn : n ≤ 60) (ht : t ≤ 9) (w : World) :
    Calls Tryd.prog 44 #[.int .i64 (n : Int), .int .i64 (t : Int)] w fun e w' => ∃ nv RA, e = .returned (.agg #[nv, .slice RA 1 1]) ∧ GrAt w' w'.heap.size (bombG n t) (.agg #[nv, .slice RA 1 1]) ∧ Below w.heap.size w w' ∧ (∃ L, NdsOwn w' (w.heap.size + 3) nv L ∧ L.map (·.1) = (bombG n t).nodes) ∧ IntsAt w' (w.heap.size + 3) RA [0] := by
  go_enter Tryd.func44, Tryd.ntmps44
  go_wp2_with fail
  obtain ⟨Y1, hY1, bY1, rY1, sY1⟩ := boxN w #[.slice none 0 0, .slice none 0 0] 25
  obtain ⟨Y2, hY2, bY2, rY2, sY2⟩ := boxN Y1 #[.int .i64 0] 3
  obtain ⟨Y, hY, bY, rY, sY⟩ := boxN Y2 #[.slice none 0 0, .slice (some ⟨w.heap.size + 1, 0, none⟩) 1 1] 25
  rw [hY1, hY2, hY]
  have hB : w.heap.size + 1 + 1 = Y2.heap.size := by omega
  rw [hB]
  have HY : Hid (Y.heap.size = w.heap.size + 3 ∧ Y2.heap.size = w.heap.size + 2) := ⟨by omega, by omega⟩
  have HK : Hid (∀ W, KpT Y W Y2.heap.size → Below w.heap.size w W ∧ W.heap[w.heap.size]? = some (.cells #[.slice none 0 0, .slice none 0 0] 25 (0, 0)) ∧ W.heap[w.heap.size + 1]? = some (.cells #[.int .i64 0] 3 (0, 0))) := fun W hW => by
    have hs := hW.size
    have h0 := (hW.block w.heap.size (by omega) (by omega)).trans ((bY.block _ (by omega)).trans ((bY2.block _ (by omega)).trans rY1))
    have h1 := (hW.block Y1.heap.size (by omega) (by omega)).trans ((bY.block _ (by omega)).trans rY2)
    have hwY := below_then bY1 (below_then bY2 bY)
    refine ⟨⟨hW.os.trans hwY.os, hW.tape.trans hwY.tape, hW.output.trans hwY.output, by omega, fun b hb => (hW.block b (by omega) (by omega)).trans (hwY.block b hb)⟩, h0, by rw [← sY1]; exact h1⟩
  have HS0 : Hid (BoSt Y Y2.heap.size (.slice (some ⟨w.heap.size + 1, 0, none⟩) 1 1) (.slice none 0 0) [] Y) := ⟨⟨rfl, rfl, rfl, Nat.le_refl _, fun _ _ _ => rfl⟩, rY, .empty _ _⟩
  have Hnt : Hid (n ≤ 60 ∧ t ≤ 9) := ⟨hn, ht⟩
  clear hY1 bY1 rY1 sY1 hY2 bY2 rY2 sY2 hY bY rY sY hB hn ht
  go_loopw [6] (fun j wr => ∃ (i : Nat) (nv : Value) (L : List NdK), i ≤ n ∧ j = .int .i64 (i : Int) ∧ Hid (BoSt Y Y2.heap.size (.slice (some ⟨w.heap.size + 1, 0, none⟩) 1 1) nv L wr) ∧ Hid (L.map (·.1) = (List.range i).map (bombN n t))) (fun j _ => n - (intOf j).toNat)
  case atStart => exact ⟨0, _, [], Nat.zero_le _, rfl, HS0, rfl⟩
  case round =>
    obtain ⟨i, nv, L, hi, rfl, hst, hL⟩ := hrel
    by_cases hlt : i < n
    · have hltI : (i : Int) < (n : Int) := by omega
      have Hlt := Lib.hid hlt
      have hmI : ∀ z : Int, z = i + 1 → n - (intOf (.int .i64 z)).toNat < n - (intOf (.int .i64 (i : Int))).toNat := by intro z hz; subst hz; have := Hlt.out; simp only [intOf]; omega
      have HWi : Hid (wrap64 ((i : Int) + 1) = i + 1) := wrap_nat1 i (by have := Hnt.out; omega)
      have Hst := Lib.hid hst.out
      have HB : Hid (Y2.heap.size < Y.heap.size ∧ Y.heap.size ≤ wr.heap.size) := ⟨by have := HY.out; omega, hst.out.keep.size⟩
      clear hlt hi hst
      go_wp2_with fail
      obtain ⟨W0, hW0⟩ : ∃ W0, W0 = wr := ⟨_, rfl⟩
      rw [← hW0] at Hst HB ⊢
      clear hW0
      have HK0 : Hid (KvSt W0 ⟨2, ⟨#[120]⟩, ⟨#[]⟩, [], false⟩ (List.replicate 0 (i + 1)) (.slice none 0 0) (W0.alloc (.cells #[.int .i64 2, .string ⟨#[120]⟩, .string ⟨#[]⟩, .slice none 0 0, .bool false] 33))) := ⟨(Below.refl _ W0).alloc (Nat.le_refl _) _, World.alloc_heap_new W0 _, ⟨rfl, .inl ⟨rfl, rfl⟩⟩⟩
      obtain ⟨X0, hX0⟩ : ∃ X0, W0.alloc (.cells #[.int .i64 2, .string ⟨#[120]⟩, .string ⟨#[]⟩, .slice none 0 0, .bool false] 33) = X0 := ⟨_, rfl⟩
      rw [hX0] at HK0 ⊢
      clear hX0
      obtain ⟨T, hT⟩ : ∃ T, T = (if i + 1 < n then t else 0) := ⟨_, rfl⟩
      have HT := Lib.hid hT
      go_loopw [8] (fun j wi => ∃ (q : Nat) (kv : Value), q ≤ T ∧ j = .int .i64 (q : Int) ∧ Hid (KvSt W0 ⟨2, ⟨#[120]⟩, ⟨#[]⟩, [], false⟩ (List.replicate q (i + 1)) kv wi)) (fun j _ => T - (intOf j).toNat)
      case atStart => exact ⟨0, _, Nat.zero_le _, rfl, HK0⟩
      case round =>
        obtain ⟨q, kv, hq, rfl, hkv⟩ := hrel
        have hwi := HWi.out
        by_cases hlq : q < T
        · have hit : i + 1 < n ∧ q < t := by
            have := HT.out
            by_cases h : i + 1 < n
            · rw [if_pos h] at this; exact ⟨h, by omega⟩
            · rw [if_neg h] at this; omega
          have g1 : (q : Int) < (t : Int) := by omega
          have g2 : (i : Int) + 1 < (n : Int) := by omega
          obtain ⟨Ar, cr, hkve, _⟩ := ints_row hkv.out.kids
          have b3 := Lib.cell_of_heap hkv.out.box 3
          have hll : (List.replicate q (i + 1)).length ≤ 1000000000 := by rw [List.length_replicate]; have := Hnt.out; omega
          have hrow3 : (wr.alloc (.cells #[.int .i64 ((i + 1 : Nat) : Int)] 3)).ownsRow (W0.heap.size + 1) 3 1 kv (List.replicate q (i + 1)).length (ncells (List.replicate q (i + 1))) := hkv.out.kids.alloc _
          have hsz3 : W0.heap.size + 1 ≤ (wr.alloc (.cells #[.int .i64 ((i + 1 : Nat) : Int)] 3)).heap.size := by have := (Array.getElem?_eq_some_iff.1 hkv.out.box).1; simp; omega
          have HP : Hid (∀ v' w', (wr.alloc (.cells #[.int .i64 ((i + 1 : Nat) : Int)] 3)).grownBy w' kv.ownBlock → w'.ownsRow (W0.heap.size + 1) 3 1 v' (List.replicate q (i + 1) ++ [i + 1]).length (ncells (List.replicate q (i + 1) ++ [i + 1])) →
              (w'.cell? ⟨W0.heap.size, 3, none⟩ = some kv ∧ w'.frozen? ⟨W0.heap.size, 3, none⟩ = false) ∧ KvSt W0 ⟨2, ⟨#[120]⟩, ⟨#[]⟩, [], false⟩ (List.replicate (q + 1) (i + 1)) v' (w'.setCell ⟨W0.heap.size, 3, none⟩ v')) := fun v' w' a1 a2 => by
            rw [List.replicate_succ']
            exact hkv.out.push a1 a2
          have Hlq := Lib.hid hlq
          have hmz : ∀ z : Int, z = q + 1 → T - (intOf (.int .i64 z)).toNat < T - (intOf (.int .i64 (q : Int))).toNat := by intro z hz; subst hz; have := Hlq.out; simp only [intOf]; omega
          have HWq : Hid (wrap64 ((q : Int) + 1) = q + 1) := wrap_nat1 q (by have := Hnt.out; omega)
          have e1 : ((i + 1 : Nat) : Int) = (i : Int) + 1 := by omega
          rw [e1] at hrow3 hsz3 HP
          clear hkv hlq hq hit hkve e1
          go_wp2_with (at_builtin; refine wpList_appO2 rfl _ _ _ rfl rfl kv (List.replicate q (i + 1)) (i + 1) rfl hrow3 wr.heap.size rfl (by simp) hll hsz3 ?_; intro v' w' r1 r2 r3 r4; obtain ⟨g, r4⟩ := r4; obtain ⟨⟨s1, s2⟩, HE0⟩ := HP.out v' w' r2 r1; have HE := Lib.hid HE0; obtain ⟨A', m', c', hv'⟩ : ∃ A m c, v' = .slice A m c := (by obtain ⟨A, c, h, _⟩ := ints_row r1; exact ⟨A, _, c, h⟩); subst hv'; clear r1 r2 r3 r4 HE0)
          first
            | exact ⟨⟨q + 1, _, Hlq.out, by simp, HE⟩, hmz _ rfl⟩
            | exact ⟨⟨q + 1, _, Hlq.out, congrArg (Value.int .i64) (HWq.out.trans (by simp)), HE⟩, hmz _ HWq.out⟩
        · obtain rfl : q = T := by omega
          have hg : ((q : Int) < (t : Int) ∧ ¬ (i : Int) + 1 < (n : Int) ∧ q = 0) ∨ (¬ (q : Int) < (t : Int)) := by
            have := HT.out
            by_cases h : i + 1 < n
            · rw [if_pos h] at this; right; omega
            · rw [if_neg h] at this
              by_cases h2 : (q : Int) < (t : Int)
              · left; exact ⟨h2, by omega, by omega⟩
              · right; exact h2
          have Hnv : Hid (∀ b, nv.ownBlock = some b → b < W0.heap.size) := fun b hb => (own_place Hst.out.nds.own hb).2.1
          obtain ⟨A', c', hkve, hkid⟩ := hkv.out.kid (nv := nv) HB.out.2 Hnv.out
          obtain ⟨ks, hks⟩ : ∃ ks, (List.replicate q (i + 1)).map Int.ofNat = ks := ⟨_, rfl⟩
          have hkl : (List.replicate q (i + 1)).length = ks.length := by rw [← hks, List.length_map]
          rw [hks] at hkid
          rw [hkl] at hkve
          subst hkve
          have b0 := Lib.cell_of_heap hkv.out.box 0
          have b1 := Lib.cell_of_heap hkv.out.box 1
          have b2 := Lib.cell_of_heap hkv.out.box 2
          have b3 := Lib.cell_of_heap hkv.out.box 3
          have b4 := Lib.cell_of_heap hkv.out.box 4
          have hbw := hkv.out.below
          have hY2 := (hbw.block Y2.heap.size (by have := HB.out; omega)).trans Hst.out.out
          have g0 := Lib.cell_of_heap hY2 0
          have hnds := Hst.out.nds.below hbw
          have hNW : Y.heap.size ≤ wr.heap.size := by have := HB.out; have := hbw.size; omega
          have hLl : L.length ≤ 1000000 := by
            have h1 := congrArg List.length hL.out
            simp at h1
            have := Hlt.out
            have := Hnt.out
            omega
          have HP : Hid (∀ v' w', NdsOwn w' Y.heap.size v' (L ++ [((⟨2, ⟨#[120]⟩, ⟨#[]⟩, ks, false⟩ : Nd), A', c')]) → (wr.alloc (.cells #[.int .i64 2, .string ⟨#[120]⟩, .string ⟨#[]⟩, .slice A' ks.length c', .bool false] 33)).grownBy w' nv.ownBlock →
              (w'.cell? ⟨Y2.heap.size, 0, none⟩ = some nv ∧ w'.frozen? ⟨Y2.heap.size, 0, none⟩ = false) ∧ BoSt Y Y2.heap.size (.slice (some ⟨w.heap.size + 1, 0, none⟩) 1 1) v' (L ++ [((⟨2, ⟨#[120]⟩, ⟨#[]⟩, ks, false⟩ : Nd), A', c')]) (w'.setCell ⟨Y2.heap.size, 0, none⟩ v')) := fun v' w' a1 a2 => Hst.out.push HB.out.1 hbw a1 a2
          have HLn : Hid ((L ++ [((⟨2, ⟨#[120]⟩, ⟨#[]⟩, ks, false⟩ : Nd), A', c')]).map (·.1) = (List.range (i + 1)).map (bombN n t)) := by
            show _ = _
            rw [List.map_append, hL.out, bomb_take]
            have : (⟨2, ⟨#[120]⟩, ⟨#[]⟩, ks, false⟩ : Nd) = bombN n t i := by
              unfold bombN
              rw [← hks, HT.out]
              by_cases h : i + 1 < n
              · rw [if_pos h, if_pos h]; simp
              · rw [if_neg h, if_neg h]; simp
            rw [← this]; rfl
          clear hkv hks hkl hbw hY2 hq hlq
          rcases hg with ⟨g1, g2, g3⟩ | g1
          · have g2' : decide ((i : Int) + 1 < (n : Int)) = false := decide_eq_false g2
            clear g3
            go_wp2_with (at_builtin; refine wpList_appK rfl _ _ _ rfl rfl nv L ((⟨2, ⟨#[120]⟩, ⟨#[]⟩, ks, false⟩ : Nd), A', c') rfl hnds hkid wr.heap.size rfl rfl hLl hNW ?_; intro v' w' g r1 r2 r3 r4; obtain ⟨⟨s1, s2⟩, HE0⟩ := HP.out v' w' r1 r2; have HE := Lib.hid HE0; obtain ⟨A9, m9, c9, hv'⟩ : ∃ A m c, v' = .slice A m c := (by obtain ⟨A, c, h⟩ := r1.shape; exact ⟨A, _, c, h⟩); subst hv'; clear r1 r2 r3 r4 HE0)
            all_goals first
              | exact ⟨⟨i + 1, _, _, Hlt.out, by simp, HE, HLn⟩, hmI _ rfl⟩
              | exact ⟨⟨i + 1, _, _, Hlt.out, congrArg (Value.int .i64) (HWi.out.trans (by simp)), HE, HLn⟩, hmI _ HWi.out⟩
          · have g1' : decide ((q : Int) < (t : Int)) = false := decide_eq_false g1
            go_wp2_with (at_builtin; refine wpList_appK rfl _ _ _ rfl rfl nv L ((⟨2, ⟨#[120]⟩, ⟨#[]⟩, ks, false⟩ : Nd), A', c') rfl hnds hkid wr.heap.size rfl rfl hLl hNW ?_; intro v' w' g r1 r2 r3 r4; obtain ⟨⟨s1, s2⟩, HE0⟩ := HP.out v' w' r1 r2; have HE := Lib.hid HE0; obtain ⟨A9, m9, c9, hv'⟩ : ∃ A m c, v' = .slice A m c := (by obtain ⟨A, c, h⟩ := r1.shape; exact ⟨A, _, c, h⟩); subst hv'; clear r1 r2 r3 r4 HE0)
            all_goals first
              | exact ⟨⟨i + 1, _, _, Hlt.out, by simp, HE, HLn⟩, hmI _ rfl⟩
              | exact ⟨⟨i + 1, _, _, Hlt.out, congrArg (Value.int .i64) (HWi.out.trans (by simp)), HE, HLn⟩, hmI _ HWi.out⟩
    · obtain rfl : i = n := by omega
      have hg : ¬ (i : Int) < (i : Int) := by omega
      have hb := hst.out.out
      have g0 := Lib.cell_of_heap hb 0
      have g1 := Lib.cell_of_heap hb 1
      obtain ⟨hbw, k0, k1⟩ := HK.out wr hst.out.keep
      have f0 := Lib.cell_of_heap k0 0
      have f1 := Lib.cell_of_heap k0 1
      have u0 := Go.Joins.unfrozen_of_block k0 0
      have u1 := Go.Joins.unfrozen_of_block k0 1
      obtain ⟨A, c, hnv⟩ := hst.out.nds.shape
      have hw2 := Go.Joins.block_setCell (i := 1) (Go.Joins.block_setCell (i := 0) k0 nv) (.slice (some ⟨w.heap.size + 1, 0, none⟩) 1 1)
      have HF : Hid (GrAt ((wr.setCell ⟨w.heap.size, 0, none⟩ nv).setCell ⟨w.heap.size, 1, none⟩ (.slice (some ⟨w.heap.size + 1, 0, none⟩) 1 1)) ((wr.setCell ⟨w.heap.size, 0, none⟩ nv).setCell ⟨w.heap.size, 1, none⟩ (.slice (some ⟨w.heap.size + 1, 0, none⟩) 1 1)).heap.size (bombG i t) (.agg #[nv, .slice (some ⟨w.heap.size + 1, 0, none⟩) 1 1]) ∧
          Below w.heap.size w ((wr.setCell ⟨w.heap.size, 0, none⟩ nv).setCell ⟨w.heap.size, 1, none⟩ (.slice (some ⟨w.heap.size + 1, 0, none⟩) 1 1)) ∧
          (∃ L', NdsOwn ((wr.setCell ⟨w.heap.size, 0, none⟩ nv).setCell ⟨w.heap.size, 1, none⟩ (.slice (some ⟨w.heap.size + 1, 0, none⟩) 1 1)) (w.heap.size + 3) nv L' ∧ L'.map (·.1) = (bombG i t).nodes) ∧ IntsAt ((wr.setCell ⟨w.heap.size, 0, none⟩ nv).setCell ⟨w.heap.size, 1, none⟩ (.slice (some ⟨w.heap.size + 1, 0, none⟩) 1 1)) (w.heap.size + 3) (some ⟨w.heap.size + 1, 0, none⟩) [0]) := by
        have hsY := HY.out
        have hsk := hst.out.keep.size
        have hst2 : ∀ b, b ≠ w.heap.size → ((wr.setCell ⟨w.heap.size, 0, none⟩ nv).setCell ⟨w.heap.size, 1, none⟩ (.slice (some ⟨w.heap.size + 1, 0, none⟩) 1 1)).heap[b]? = wr.heap[b]? := fun b hl => (Below.heap_setCell _ ⟨w.heap.size, 1, none⟩ _ b hl).trans (Below.heap_setCell wr ⟨w.heap.size, 0, none⟩ _ b hl)
        have hnk := hst.out.nds.keep (W' := (wr.setCell ⟨w.heap.size, 0, none⟩ nv).setCell ⟨w.heap.size, 1, none⟩ (.slice (some ⟨w.heap.size + 1, 0, none⟩) 1 1)) (by simp) fun g hg _ => hst2 g (by omega)
        have hl : L.length = i := by have h := congrArg List.length hL.out; simpa using h
        refine ⟨⟨A, c, some ⟨w.heap.size + 1, 0, none⟩, 1, ?_, ?_, ints_one (by simp; omega) ((hst2 _ (by omega)).trans k1)⟩, (hbw.setCell (p := ⟨w.heap.size, 0, none⟩) (Nat.le_refl _) _).setCell (p := ⟨w.heap.size, 1, none⟩) (Nat.le_refl _) _, ⟨L, by rw [← hsY.1]; exact hnk, hL.out⟩, ints_one (by omega) ((hst2 _ (by omega)).trans k1)⟩
        · rw [hnv, hl]; simp [bombG]
        · rw [hnv] at hnk
          have h := hnk.at
          have hL1 : L.map (fun x => x.1) = (bombG i t).nodes := hL.out
          rw [hL1] at h
          rw [← hnv] at h
          exact h
      subst hnv
      clear hlt hb hst
      go_wp2_with fail
      refine bodyPost_ret (results_cell_row rfl _ _ w.heap.size _ _ (0, 0) _ rfl hw2 Tryd.underlying25 rfl (by kernel_rfl)) rfl ?_
      exact ⟨_, _, rfl, HF.out⟩
theorem Bombs_any (n t : Nat) (hn : n ≤ 60) (ht : t ≤ 9) (w : World) :
    Calls Tryd.prog 44 #[.int .i64 (n : Int), .int .i64 (t : Int)] w fun e w' => ∃ nv rv, e = .returned (.agg #[nv, rv]) ∧ GrAt w' w'.heap.size (bombG n t) (.agg #[nv, rv]) ∧ Below w.heap.size w w' :=
  (Bombs_own n t hn ht w).mono fun _ _ ⟨_, _, h1, h2, h3, _⟩ => ⟨_, _, h1, h2, h3⟩
end Go.Proofs.YtdcbngimgpdjoaaDoor
