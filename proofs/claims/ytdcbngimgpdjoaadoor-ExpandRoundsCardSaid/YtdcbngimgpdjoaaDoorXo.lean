/- The law ExpandRounds (marginalialaw23). Condition: utf8's tables lie in the world. -/
import Derived.Test.YtdcbngimgpdjoaaDoorXn
namespace Go.Proofs.YtdcbngimgpdjoaaDoor
open Go.RowKit Go.Shelf Go.Deep
attribute [local go_sem] Oper.semAt_some
/-- The graph's box, and its rows apart from it. -/
structure FnSt (w : World) (N B : Nat) (nv : Value) (RA : Option Addr) (L : List NdK) (W : World) : Prop where
  below : Below w.heap.size w W
  box : W.heap[B]? = some (.cells #[nv, .slice RA 1 1] 25 (0, 0))
  nds : NdsOwn W N nv L
  rts : IntsAt W N RA [0]
  lt : N ≤ B
  base : w.heap.size ≤ N
  own : nv.ownBlock ≠ some B
  far : ∀ e ∈ L, ∀ p, e.2.1 = some p → p.block ≠ B
theorem NdsOwn.offX {W W' : World} {N : Nat} {v : Value} {L : List NdK} (h : NdsOwn W N v L) (hs : W.heap.size ≤ W'.heap.size) (h1 : ∀ b, v.ownBlock = some b → W'.heap[b]? = W.heap[b]?) (h2 : ∀ e ∈ L, ∀ p, e.2.1 = some p → W'.heap[p.block]? = W.heap[p.block]?) : NdsOwn W' N v L :=
  ⟨ownsRow_same h.own fun g hg _ => h1 g hg, fun e he => ⟨ints_keep (h.kids e he).ints hs fun p hp => h2 e he p hp, (h.kids e he).room, (h.kids e he).nil, fun p hp => ⟨((h.kids e he).own p hp).1, Nat.lt_of_lt_of_le ((h.kids e he).own p hp).2.1 hs, ((h.kids e he).own p hp).2.2⟩⟩⟩
/-- What the append of one more node leaves. -/
theorem FnSt.push {w : World} {N B g : Nat} {nv v' : Value} {RA : Option Addr} {L : List NdK} {e : NdK} {W w' : World} {o : Obj} (h : FnSt w N B nv RA L W) (he : e.2.1 = none) (hn : NdsOwn w' N v' (L ++ [e])) (hg : (W.alloc o).grownBy w' nv.ownBlock) (hg1 : v'.ownBlock = some g) (hg2 : nv.ownBlock = some g ∨ g = W.heap.size + 1) :
    (w'.cell? ⟨B, 0, none⟩ = some nv ∧ w'.frozen? ⟨B, 0, none⟩ = false) ∧ (w'.setCell ⟨B, 0, none⟩ v').heap[B]? = some (.cells #[v', .slice RA 1 1] 25 (0, 0)) ∧
    GrAt (w'.setCell ⟨B, 0, none⟩ v') (w'.setCell ⟨B, 0, none⟩ v').heap.size ⟨(L ++ [e]).map (·.1), [0]⟩ (.agg #[v', .slice RA 1 1]) ∧ Below w.heap.size w (w'.setCell ⟨B, 0, none⟩ v') := by
  have hBW := (Array.getElem?_eq_some_iff.1 h.box).1
  have hsz : W.heap.size ≤ w'.heap.size := Nat.le_trans (by simp) hg.size
  have hk : ∀ b, b < W.heap.size → nv.ownBlock ≠ some b → w'.heap[b]? = W.heap[b]? := fun b hl hne => (hg.block b (by simp; omega) fun e => hne e.symm).trans (Below.heap_alloc W o b hl)
  have hst : ∀ b, b ≠ B → (w'.setCell ⟨B, 0, none⟩ v').heap[b]? = w'.heap[b]? := fun b hl => Below.heap_setCell w' ⟨B, 0, none⟩ _ b hl
  have hx := (hk B hBW h.own).trans h.box
  have hl := h.lt
  have hb := h.base
  have hbs := h.below.size
  have hlow : ∀ b, b < N → (w'.setCell ⟨B, 0, none⟩ v').heap[b]? = W.heap[b]? := fun b hb => (hst b (by omega)).trans (hk b (by omega) fun e => by have := (own_place h.nds.own e).1; omega)
  refine ⟨⟨Lib.cell_of_heap hx 0, Go.Joins.unfrozen_of_block hx 0⟩, Go.Joins.block_setCell hx v', ?_, ⟨hg.os.trans h.below.os, hg.tape.trans h.below.tape, hg.output.trans h.below.output, by simp; omega, fun b hb => (hlow b (by omega)).trans (h.below.block b hb)⟩⟩
  have hn2 : NdsOwn (w'.setCell ⟨B, 0, none⟩ v') N v' (L ++ [e]) := hn.offX (by simp) (fun b hb => hst b (by
    rw [hg1] at hb; cases hb
    rcases hg2 with e2 | e2
    · intro e3; subst e3; exact h.own e2
    · omega)) fun x hx p hp => hst _ (by
    rcases List.mem_append.1 hx with h0 | h0
    · exact h.far x h0 p hp
    · rw [List.mem_singleton.1 h0, he] at hp; cases hp)
  obtain ⟨A, c, hv⟩ := hn2.shape
  rw [hv] at hn2 ⊢
  refine ⟨A, c, RA, 1, by simp, hn2.at, ?_⟩
  intro hz
  obtain ⟨b, off, hA, hlt, hc⟩ := h.rts hz
  rw [← hv]
  exact ⟨b, off, hA, by simp; omega, fun k hk => (World.cell?_of_block (hlow b hlt)).trans (hc k hk)⟩
/-- One node's Kids are put anew, in a row of their own. -/
theorem FnSt.kid {w : World} {N B g c n k : Nat} {RA : Option Addr} {L : List NdK} {W : World} {z : Int} (h : FnSt w N B (.slice (some ⟨g, 0, none⟩) n c) RA L W) (hl : L.length = n) (hk : k < L.length) :
    ((W.alloc (.cells #[.int .i64 z] 3)).cell? ⟨g, k * 5 + 3, none⟩ = some (.slice L[k].2.1 L[k].1.kids.length L[k].2.2) ∧ (W.alloc (.cells #[.int .i64 z] 3)).frozen? ⟨g, k * 5 + 3, none⟩ = false) ∧
    FnSt w N B (.slice (some ⟨g, 0, none⟩) n c) RA (L.set k (kidE L[k] [z] (some ⟨W.heap.size, 0, none⟩) 1)) ((W.alloc (.cells #[.int .i64 z] 3)).setCell ⟨g, k * 5 + 3, none⟩ (.slice (some ⟨W.heap.size, 0, none⟩) 1 1)) := by
  have hBW := (Array.getElem?_eq_some_iff.1 h.box).1
  have hpl := own_place (b := g) h.nds.own rfl
  have hnew : (W.alloc (.cells #[.int .i64 z] 3)).heap[W.heap.size]? = some (.cells #[.int .i64 z] 3 (0, 0)) := World.alloc_heap_new W _
  have hal : ∀ b, b < W.heap.size → (W.alloc (.cells #[.int .i64 z] 3)).heap[b]? = W.heap[b]? := fun b hb => Below.heap_alloc W _ b hb
  have hst : ∀ b, b ≠ g → ((W.alloc (.cells #[.int .i64 z] 3)).setCell ⟨g, k * 5 + 3, none⟩ (.slice (some ⟨W.heap.size, 0, none⟩) 1 1)).heap[b]? = (W.alloc (.cells #[.int .i64 z] 3)).heap[b]? := fun b hb => Below.heap_setCell _ ⟨g, _, none⟩ _ b hb
  have hgB : g ≠ B := fun e => h.own (by rw [e]; rfl)
  have hbs := h.below.size
  have hnd : NdsOwn (W.alloc (.cells #[.int .i64 z] 3)) N (.slice (some ⟨g, 0, none⟩) n c) L := h.nds.keep (by simp) fun b _ hb => hal b hb
  have hcell : (W.alloc (.cells #[.int .i64 z] 3)).cell? ⟨g, k * 5 + 3, none⟩ = some (.slice L[k].2.1 L[k].1.kids.length L[k].2.2) ∧ (W.alloc (.cells #[.int .i64 z] 3)).frozen? ⟨g, k * 5 + 3, none⟩ = false := by
    refine ⟨?_, ?_⟩
    · subst hl
      rw [hnd.own.cellAt (k * 5 + 3) (by omega), nrows_get L k 3 hk (by omega)]
      rfl
    · rcases hnd.own.2 with ⟨h0, _⟩ | ⟨g', cap, cur, he, _, hg, _⟩
      · cases h0
      · cases he; exact Go.Joins.unfrozen_of_block hg _
  refine ⟨hcell, ⟨?_, (hst B (Ne.symm hgB)).trans ((hal B hBW).trans h.box), ?_, ?_, h.lt, h.base, h.own, ?_⟩⟩
  · have h1 := h.base
    have := hpl.1
    exact (h.below.alloc (by omega) _).setCell (p := ⟨g, k * 5 + 3, none⟩) (by show w.heap.size ≤ g; omega) _
  · refine NdsOwn.kid hnd hl hk ⟨ints_one (by simp) hnew, (by simp [kidE]), (fun e => by cases e), fun p hp => ?_⟩
    cases hp
    exact ⟨(by have := hpl.2; show N ≤ W.heap.size; omega), (by simp), fun e => absurd (Option.some.inj (show some g = some W.heap.size from e)) (by have := hpl.2.1; omega)⟩
  · intro hz
    obtain ⟨b, off, hA, hlt, hc⟩ := h.rts hz
    have := hpl.1
    have := h.lt
    exact ⟨b, off, hA, hlt, fun k hk => (World.cell?_of_block ((hst b (by omega)).trans (hal b (by omega)))).trans (hc k hk)⟩
  · intro x hx p hp
    rcases List.mem_or_eq_of_mem_set hx with h0 | rfl
    · exact h.far x h0 p hp
    · cases hp; show W.heap.size ≠ B; omega
theorem rnd_list0 {n back : Nat} (hb : ¬ back < n) : (bombG n 1).nodes = (List.range n).map (rndN n back) := by
  refine List.map_congr_left fun i _ => ?_
  unfold bombN rndN rndK
  by_cases h : i + 1 < n
  · rw [if_pos h, if_pos h]; rfl
  · rw [if_neg h, if_neg h, if_neg hb]
theorem rnd_list1 {n back : Nat} {L : List NdK} {A : Option Addr} {c : Nat} (hn : 1 ≤ n) (hb : back < n) (hL : L.map (·.1) = (bombG n 1).nodes) (hk : n - 1 < L.length) : (L.set (n - 1) (kidE L[n - 1] [(back : Int)] A c)).map (·.1) = (List.range n).map (rndN n back) := by
  have hl : L.length = n := by have h := congrArg List.length hL; simpa [bombG] using h
  rw [List.map_set, hL]
  apply List.ext_getElem?
  intro i
  rw [List.getElem?_set]
  have e1 : L[n - 1].1 = bombN n 1 (n - 1) := by
    have h : (L.map (·.1))[n - 1]? = (bombG n 1).nodes[n - 1]? := by rw [hL]
    simp only [bombG, List.getElem?_map, List.getElem?_eq_getElem hk, Option.map_some] at h
    rw [List.getElem?_range (by omega)] at h
    simpa using h
  by_cases hi : n - 1 = i
  · subst hi
    rw [if_pos rfl, if_pos (by simp [bombG]; omega)]
    rw [List.getElem?_map, List.getElem?_range (by omega), Option.map_some]
    unfold kidE
    rw [e1]
    unfold rndN rndK
    rw [if_neg (show ¬ n - 1 + 1 < n by omega), if_pos hb]
    rfl
  · rw [if_neg hi]
    simp only [bombG, List.getElem?_map]
    by_cases hlt : i < n
    · rw [List.getElem?_range hlt, Option.map_some, Option.map_some]
      unfold bombN rndN rndK
      rw [if_pos (show i + 1 < n by omega), if_pos (show i + 1 < n by omega)]; rfl
    · rw [List.getElem?_eq_none (by simpa using Nat.le_of_not_lt hlt)]; rfl
/-- The graph that Bombs made, in a box of its own. -/
theorem FnSt.first {w w1 w2 U : World} {n : Nat} {nv : Value} {RA : Option Addr} {L : List NdK} (hn : 1 ≤ n) (hw : Below w.heap.size w w1) (hb2 : Below w1.heap.size w1 w2) (hnd : NdsOwn w2 (w1.heap.size + 3) nv L) (hl : L.length = n) (hr : IntsAt w2 (w1.heap.size + 3) RA [0]) (hbU : Below w2.heap.size w2 U) (hrU : U.heap[w2.heap.size]? = some (.cells #[nv, .slice RA 1 1] 25 (0, 0))) :
    ∃ g c, nv = .slice (some ⟨g, 0, none⟩) n c ∧ FnSt w (w1.heap.size + 3) w2.heap.size nv RA L U := by
  rcases hnd.own.2 with ⟨_, h0⟩ | ⟨g, c, cur, hv, hb, hg, _⟩
  · omega
  · have hpl := own_place (b := g) hnd.own (by rw [hv]; rfl)
    rw [hl] at hv
    have hs := hw.size
    refine ⟨g, c, hv, below_then hw (below_then hb2 hbU), hrU, hnd.below hbU, fun hz => ?_, by omega, by omega, ?_, fun e he p hp => by have := ((hnd.kids e he).own p hp).2.1; omega⟩
    · obtain ⟨b, off, hA, hlt, hc⟩ := hr hz
      exact ⟨b, off, hA, hlt, fun k hk => (World.cell?_of_block (hbU.block b (by omega))).trans (hc k hk)⟩
    · rw [hv]; intro e
      have := Option.some.inj (show some g = some w2.heap.size from e)
      omega
theorem FnSt.fin {w : World} (hT : Tabs w) {n back N B : Nat} {nv : Value} {RA : Option Addr} {L : List NdK} {W : World} (h : FnSt w N B nv RA L W) (hL : L.map (·.1) = (List.range n).map (rndN n back)) {o : Obj} (v' : Value) (w' : World) (g : Nat)
    (hn : NdsOwn w' N v' (L ++ [(scaN, none, 0)])) (hg : (W.alloc o).grownBy w' nv.ownBlock) (hg1 : v'.ownBlock = some g) (hg2 : nv.ownBlock = some g ∨ g = W.heap.size + 1) :
    (w'.cell? ⟨B, 0, none⟩ = some nv ∧ w'.frozen? ⟨B, 0, none⟩ = false) ∧ ∃ A c, v' = .slice A (n + 1) c ∧ ∀ W2, Below (w'.setCell ⟨B, 0, none⟩ v').heap.size (w'.setCell ⟨B, 0, none⟩ v') W2 →
      W2.cell? ⟨B, 0, none⟩ = some v' ∧ W2.cell? ⟨B, 1, none⟩ = some (.slice RA 1 1) ∧ GrAt W2 W2.heap.size (rndG n back) (.agg #[v', .slice RA 1 1]) ∧ Tabs W2 ∧ Below w.heap.size w W2 := by
  obtain ⟨h1, h2, h3, h4⟩ := h.push rfl hn hg hg1 hg2
  have hl : L.length = n := by have h := congrArg List.length hL; simpa using h
  obtain ⟨A, c, hv⟩ := hn.shape
  refine ⟨h1, A, c, by rw [hv]; simp [hl], fun W2 hW => ?_⟩
  have hx := (hW.block B (Array.getElem?_eq_some_iff.1 h2).1).trans h2
  have hG : (⟨(L ++ [((scaN, none, 0) : NdK)]).map (·.1), [0]⟩ : Gr) = rndG n back := by rw [List.map_append, hL]; rfl
  rw [hG] at h3
  exact ⟨Lib.cell_of_heap hx 0, Lib.cell_of_heap hx 1, (h3.below hW (Nat.le_refl _)).more hW.size, hT.below (below_then h4 hW), below_then h4 hW⟩
theorem FnSt.kid2 {w : World} {N B g c n back : Nat} {RA : Option Addr} {L : List NdK} {W : World} (h : FnSt w N B (.slice (some ⟨g, 0, none⟩) n c) RA L W) (hn : 1 ≤ n) (hb : back < n) (hL : L.map (·.1) = (bombG n 1).nodes) :
    ∃ L' v0, ((W.alloc (.cells #[.int .i64 (back : Int)] 3)).cell? ⟨g, (n - 1) * 5 + 3, none⟩ = some v0 ∧ (W.alloc (.cells #[.int .i64 (back : Int)] 3)).frozen? ⟨g, (n - 1) * 5 + 3, none⟩ = false) ∧
    FnSt w N B (.slice (some ⟨g, 0, none⟩) n c) RA L' ((W.alloc (.cells #[.int .i64 (back : Int)] 3)).setCell ⟨g, (n - 1) * 5 + 3, none⟩ (.slice (some ⟨W.heap.size, 0, none⟩) 1 1)) ∧ L'.map (·.1) = (List.range n).map (rndN n back) ∧ L'.length = n := by
  have hl : L.length = n := by have h := congrArg List.length hL; simpa [bombG] using h
  obtain ⟨h1, h2⟩ := h.kid (z := (back : Int)) hl (k := n - 1) (by omega)
  exact ⟨_, _, h1, h2, rnd_list1 hn hb hL (by omega), by rw [List.length_set]; exact hl⟩
/-- What Size and Tree answer, once the values are known. -/
theorem rnd_calls {n back : Nat} {root : Int} (hn : n ≤ 50) {most E S TE : Int} {tr : Tr} (h : errB (rndG n back) root = E ∧ ((sizeB (rndG n back) root : Nat) : Int) = S ∧ terrB (rndG n back) root most = TE ∧ treeB (rndG n back) root most = tr) :
    (∀ W v, GrAt W W.heap.size (rndG n back) v → Tabs W → Calls Tryd.prog 36 #[v, .int .i64 root] W fun e w' => e = .returned (.tuple #[.int .i64 S, .int .i64 E]) ∧ Below W.heap.size W w') ∧
    (∀ W v, GrAt W W.heap.size (rndG n back) v → Tabs W → Calls Tryd.prog 39 #[v, .int .i64 root, .int .i64 most] W fun e w' => ∃ x, e = .returned (.tuple #[x, .int .i64 TE]) ∧ TrV w' (hi W.heap.size w') tr x ∧ Below W.heap.size W w') := by
  obtain ⟨rfl, rfl, rfl, rfl⟩ := h
  exact ⟨fun W v hG hT => Size_any _ v root W hG (rnd_ok n back hn) hT, fun W v hG hT => Tree_any _ v root most W hG (rnd_ok n back hn) hT⟩
end Go.Proofs.YtdcbngimgpdjoaaDoor
