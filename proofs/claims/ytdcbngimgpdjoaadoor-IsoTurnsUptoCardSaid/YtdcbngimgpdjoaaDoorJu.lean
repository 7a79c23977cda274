/- The law IsoTurns: what lies in memory while the turned graph is made. No condition. -/
import Derived.Test.YtdcbngimgpdjoaaDoorJa
import Derived.Test.YtdcbngimgpdjoaaDoorRo
namespace Go.Proofs.YtdcbngimgpdjoaaDoor
open Go.RowKit Go.Shelf Go.Deep
def zNd : NdK := (⟨0, ⟨#[]⟩, ⟨#[]⟩, [], false⟩, none, 0)
theorem nrows_rep (n : Nat) : nrows (List.replicate n zNd) = (madeCells #[.int .i64 0, .string ⟨#[]⟩, .string ⟨#[]⟩, .slice none 0 0, .bool false] (n * 5)).toList := by
  apply List.ext_getElem?
  intro j
  by_cases hj : j < n * 5
  · obtain ⟨q, r, hr, rfl⟩ : ∃ q r, r < 5 ∧ j = q * 5 + r := ⟨j / 5, j % 5, Nat.mod_lt _ (by omega), by omega⟩
    have hq : q < n := by omega
    rw [nrows_get _ q r (by simpa using hq) hr]
    simp only [madeCells, Array.toList_map, Array.toList_range, List.getElem?_map, List.getElem_replicate]
    rw [List.getElem?_range hj, Option.map_some]
    have h5 : (q * 5 + r) % 5 = r := by omega
    match r, hr with
    | 0, _ => simp [nrow, zNd]
    | 1, _ => simp [nrow, zNd, h5]
    | 2, _ => simp [nrow, zNd, h5]
    | 3, _ => simp [nrow, zNd, h5]
    | 4, _ => simp [nrow, zNd, h5]
  · rw [List.getElem?_eq_none (by rw [nrows_len, List.length_replicate]; omega), List.getElem?_eq_none (by rw [Array.length_toList, size_madeCells]; omega)]
/-- A made row of nodes. -/
theorem nodes_made (W : World) (n : Nat) (hn : n ≤ 20000) : ∃ M, (Instr.makeSlice 22 (.int .i64 (n : Int)) (.int .i64 (n : Int))).run Tryd.prog W = .ok (.slice (some ⟨W.heap.size, 0, none⟩) n n) M ∧ Below W.heap.size W M ∧ M.heap.size = W.heap.size + 1 ∧
    NdsOwn M W.heap.size (.slice (some ⟨W.heap.size, 0, none⟩) n n) (List.replicate n zNd) := by
  obtain ⟨i0, hi, hz0, hz1, hz2⟩ := info_parts Tryd.infoNodeI
  have hr := run_make (P := Tryd.prog) W 22 33 i0 _ Tryd.underlying22 hi hz0 .i64 .i64 n n (by omega) (Int.le_refl _) (by rw [hz2]; omega) (by omega)
  simp only [Int.toNat_natCast, hz1] at hr
  refine ⟨_, hr, (Below.refl _ W).alloc (Nat.le_refl _) _, by simp, ⟨?_, fun e he => ?_⟩⟩
  · have := World.ownsRow_lit (base := W.heap.size) (size := 5) (e := 33) W (madeCells #[.int .i64 0, .string ⟨#[]⟩, .string ⟨#[]⟩, .slice none 0 0, .bool false] (n * 5)) n (Nat.le_refl _) (by unfold maxLen; omega) (size_madeCells _ _)
    rw [← nrows_rep] at this
    rw [List.length_replicate]
    exact this
  · have := List.eq_of_mem_replicate he
    subst this
    exact ⟨fun h => by simp [zNd] at h, by simp [zNd], fun _ => rfl, fun p hp => by cases hp⟩
theorem nrows_set {L : List NdK} {k : Nat} (h : k < L.length) (e : NdK) : nrows (L.set k e) = (((((nrows L).set (k * 5) (.int .i64 e.1.kind)).set (k * 5 + 1) (.string e.1.tag)).set (k * 5 + 2) (.string e.1.text)).set (k * 5 + 3) (.slice e.2.1 e.1.kids.length e.2.2)).set (k * 5 + 4) (.bool e.1.plain) := by
  apply List.ext_getElem?
  intro j
  by_cases hj : j < L.length * 5
  · obtain ⟨q, r, hr, rfl⟩ : ∃ q r, r < 5 ∧ j = q * 5 + r := ⟨j / 5, j % 5, Nat.mod_lt _ (by omega), by omega⟩
    have hq : q < L.length := by omega
    have hL := nrows_len L
    rw [nrows_get _ q r (by rw [List.length_set]; exact hq) hr, List.getElem_set]
    simp only [List.getElem?_set, List.length_set]
    by_cases e1 : k = q
    · subst e1
      rw [if_pos rfl]
      match r, hr with
      | 0, _ => rw [if_neg (by omega), if_neg (by omega), if_neg (by omega), if_neg (by omega), if_pos (by omega), if_pos (by omega)]; rfl
      | 1, _ => rw [if_neg (by omega), if_neg (by omega), if_neg (by omega), if_pos (by omega), if_pos (by omega)]; rfl
      | 2, _ => rw [if_neg (by omega), if_neg (by omega), if_pos (by omega), if_pos (by omega)]; rfl
      | 3, _ => rw [if_neg (by omega), if_pos (by omega), if_pos (by omega)]; rfl
      | 4, _ => rw [if_pos (by omega), if_pos (by omega)]; rfl
    · rw [if_neg e1, if_neg (by omega), if_neg (by omega), if_neg (by omega), if_neg (by omega), if_neg (by omega), nrows_get L q r hq hr]
  · rw [List.getElem?_eq_none (by rw [nrows_len, List.length_set]; omega), List.getElem?_eq_none (by simp only [List.length_set, nrows_len]; omega)]
/-- Five cells of a row of nodes are written. -/
def five (W : World) (g k : Nat) (e : NdK) : World := (((((W.setCell ⟨g, k * 5, none⟩ (.int .i64 e.1.kind)).setCell ⟨g, k * 5 + 1, none⟩ (.string e.1.tag)).setCell ⟨g, k * 5 + 2, none⟩ (.string e.1.text)).setCell ⟨g, k * 5 + 3, none⟩ (.slice e.2.1 e.1.kids.length e.2.2)).setCell ⟨g, k * 5 + 4, none⟩ (.bool e.1.plain))
theorem NdsOwn.put {W : World} {N g c n k : Nat} {L : List NdK} {e : NdK} (h : NdsOwn W N (.slice (some ⟨g, 0, none⟩) n c) L) (hl : L.length = n) (hk : k < n) (he : KidOk W N (.slice (some ⟨g, 0, none⟩) n c) e) :
    NdsOwn (five W g k e) N (.slice (some ⟨g, 0, none⟩) n c) (L.set k e) ∧ (five W g k e).heap.size = W.heap.size ∧
    ∀ b, b ≠ g → (five W g k e).heap[b]? = W.heap[b]? := by
  subst hl
  have hb : ∀ b, b ≠ g → (five W g k e).heap[b]? = W.heap[b]? := fun b hl =>
    (Below.heap_setCell _ ⟨g, _, none⟩ _ b hl).trans ((Below.heap_setCell _ ⟨g, _, none⟩ _ b hl).trans ((Below.heap_setCell _ ⟨g, _, none⟩ _ b hl).trans ((Below.heap_setCell _ ⟨g, _, none⟩ _ b hl).trans (Below.heap_setCell W ⟨g, _, none⟩ _ b hl))))
  have hz : (five W g k e).heap.size = W.heap.size := by simp [five]
  refine ⟨⟨?_, fun x hx => ?_⟩, hz, hb⟩
  · rw [List.length_set, nrows_set hk]
    exact (((((h.own.stored (k * 5) (.int .i64 e.1.kind)).1.stored (k * 5 + 1) (.string e.1.tag)).1.stored (k * 5 + 2) (.string e.1.text)).1.stored (k * 5 + 3) (.slice e.2.1 e.1.kids.length e.2.2)).1.stored (k * 5 + 4) (.bool e.1.plain)).1
  · have key : ∀ e0, KidOk W N (.slice (some ⟨g, 0, none⟩) L.length c) e0 → KidOk (five W g k e) N (.slice (some ⟨g, 0, none⟩) L.length c) e0 := fun e0 h0 => h0.keep (by rw [hz]; exact Nat.le_refl _) fun b _ _ hn => hb b (fun e => hn (by rw [e]; rfl))
    rcases List.mem_or_eq_of_mem_set hx with h0 | rfl
    · exact key x (h.kids x h0)
    · exact key x he
/-- How far the turned graph's nodes are made. -/
structure TuSt (Y : World) (T b : Nat) (G : Gr) (i : Nat) (L : List NdK) (W : World) : Prop where
  keep : Kept2 Y W T T
  nds : NdsOwn W T (.slice (some ⟨T, 0, none⟩) G.nodes.length G.nodes.length) L
  len : L.length = G.nodes.length
  ent : ∀ j, j < G.nodes.length → (L.getD j zNd).1 = if backN G.nodes.length b j < i then turnE G.nodes.length b (nd G.nodes (backN G.nodes.length b j)) else zNd.1
  far : ∀ e ∈ L, ∀ p, e.2.1 = some p → T + 2 ≤ p.block
theorem set_keep (W : World) (p : Addr) (v : Value) : (W.setCell p v).os = W.os ∧ (W.setCell p v).tape = W.tape ∧ (W.setCell p v).output = W.output := ⟨rfl, rfl, rfl⟩
theorem five_keep (W : World) (g k : Nat) (e : NdK) : (five W g k e).os = W.os ∧ (five W g k e).tape = W.tape ∧ (five W g k e).output = W.output := by
  unfold five
  simp only [set_keep, and_self]
theorem TuSt.put {Y W S : World} {T b k : Nat} {G : Gr} {i : Nat} {L : List NdK} {e : NdK} (h : TuSt Y T b G i L W) (hi : i < G.nodes.length) (hb : b < G.nodes.length) (hk0 : (i + b) % G.nodes.length = k) (hS : Below W.heap.size W S) (he : KidOk S T (.slice (some ⟨T, 0, none⟩) G.nodes.length G.nodes.length) e) (h1 : e.1 = turnE G.nodes.length b (nd G.nodes i)) (hf : ∀ p, e.2.1 = some p → T + 2 ≤ p.block) :
    TuSt Y T b G (i + 1) (L.set k e) (five S T k e) := by
  have hk : k < G.nodes.length := by rw [← hk0]; exact Nat.mod_lt _ (by omega)
  have hbt := back_turn hb hi
  rw [hk0] at hbt
  have htb : ∀ j, j < G.nodes.length → backN G.nodes.length b j = i → j = k := fun j hj e => by rw [← hk0, ← e, turn_back hb hj]
  clear hk0
  have hYW := h.keep.size
  have hWS := hS.size
  obtain ⟨p1, p3, p2⟩ := NdsOwn.put (k := k) (e := e) (h.nds.below hS) h.len hk he
  obtain ⟨z1, z2, z3⟩ := five_keep S T k e
  obtain ⟨Z, hZ⟩ : ∃ Z, five S T k e = Z := ⟨_, rfl⟩
  rw [hZ] at p1 p3 p2 z1 z2 z3 ⊢
  clear hZ
  refine ⟨⟨z1.trans (hS.os.trans h.keep.os), z2.trans (hS.tape.trans h.keep.tape), z3.trans (hS.output.trans h.keep.output), by omega, fun k hk h1 h2 => (p2 k h1).trans ((hS.block k (by omega)).trans (h.keep.block k hk h1 h2))⟩, p1, by rw [List.length_set]; exact h.len, fun j hj => ?_, fun x hx => by
    rcases List.mem_or_eq_of_mem_set hx with h0 | rfl
    · exact h.far x h0
    · exact hf⟩
  by_cases ej : k = j
  · subst ej
    rw [hbt, if_pos (by omega), ← h1]
    have : (L.set k e)[k]? = some e := by rw [List.getElem?_set_self]; rw [h.len]; exact hj
    rw [List.getD_eq_getElem?_getD, this]; rfl
  · have hne : backN G.nodes.length b j ≠ i := fun e => ej (htb j hj e).symm
    have h2 := h.ent j hj
    have h3 : (L.set k e).getD j zNd = L.getD j zNd := by rw [List.getD_eq_getElem?_getD, List.getElem?_set_ne ej, List.getD_eq_getElem?_getD]
    rw [h3, h2]
    by_cases h4 : backN G.nodes.length b j < i
    · rw [if_pos h4, if_pos (by omega)]
    · rw [if_neg h4, if_neg (by omega)]
theorem TuSt.fin {Y W : World} {T b : Nat} {G : Gr} {L : List NdK} (h : TuSt Y T b G G.nodes.length L W) : L.map (·.1) = (turnG G b).nodes := by
  apply List.ext_getElem
  · simp [turnG, h.len]
  · intro j h1 h2
    have hj : j < G.nodes.length := by rw [List.length_map, h.len] at h1; exact h1
    have h3 := h.ent j hj
    rw [if_pos (back_lt (by omega))] at h3
    have h4 : L.getD j zNd = L[j]'(by rw [h.len]; exact hj) := by simp [List.getD_eq_getElem?_getD, h.len, hj]
    rw [h4] at h3
    simp only [List.getElem_map, h3, turnG, List.getElem_range]
/-- The box of a node whose Kids are made. -/
structure KuSt (W0 : World) (e0 : Nd) (l : List Nat) (kv : Value) (W : World) : Prop where
  below : Below W0.heap.size W0 W
  box : W.heap[W0.heap.size]? = some (.cells #[.int .i64 e0.kind, .string e0.tag, .string e0.text, kv, .bool e0.plain] 33 (0, 0))
  kids : W.ownsRow (W0.heap.size + 1) 3 1 kv l.length (ncells l)
theorem KuSt.push {W0 W w' : World} {e0 : Nd} {l : List Nat} {kv v' : Value} {z : Nat} {o : Obj} (h : KuSt W0 e0 l kv W) (hg : (W.alloc o).grownBy w' kv.ownBlock) (hv : w'.ownsRow (W0.heap.size + 1) 3 1 v' (l ++ [z]).length (ncells (l ++ [z]))) :
    (w'.cell? ⟨W0.heap.size, 3, none⟩ = some kv ∧ w'.frozen? ⟨W0.heap.size, 3, none⟩ = false) ∧ KuSt W0 e0 (l ++ [z]) v' (w'.setCell ⟨W0.heap.size, 3, none⟩ v') := by
  have hlt := (Array.getElem?_eq_some_iff.1 h.box).1
  have hsz : W.heap.size ≤ w'.heap.size := Nat.le_trans (by simp) hg.size
  have hk : ∀ b, b ≤ W0.heap.size → w'.heap[b]? = W.heap[b]? := fun b hb => (hg.block b (by simp; omega) fun e => by have := (own_place h.kids e.symm).1; omega).trans (Below.heap_alloc W o b (by omega))
  have hst : ∀ b, b ≠ W0.heap.size → (w'.setCell ⟨W0.heap.size, 3, none⟩ v').heap[b]? = w'.heap[b]? := fun b hl => Below.heap_setCell w' ⟨W0.heap.size, 3, none⟩ _ b hl
  have hx := (hk _ (Nat.le_refl _)).trans h.box
  refine ⟨⟨Lib.cell_of_heap hx 3, Go.Joins.unfrozen_of_block hx 3⟩, ⟨hg.os.trans h.below.os, hg.tape.trans h.below.tape, hg.output.trans h.below.output, by have := h.below.size; simp; omega, fun b hb => (hst b (by omega)).trans ((hk b (by omega)).trans (h.below.block b hb))⟩, Go.Joins.block_setCell hx v', ownsRow_same hv fun b hb _ => hst b (by have := (own_place hv hb).1; omega)⟩
theorem KuSt.kid {W0 W : World} {e0 : Nd} {l : List Nat} {kv : Value} {T n c : Nat} (h : KuSt W0 e0 l kv W) (hT : T < W0.heap.size) : ∃ A' c', kv = .slice A' l.length c' ∧ KidOk W T (.slice (some ⟨T, 0, none⟩) n c) ({ e0 with kids := l.map Int.ofNat }, A', c') ∧ ∀ p, A' = some p → W0.heap.size ≤ p.block := by
  rcases h.kids.2 with ⟨rfl, h0⟩ | ⟨g, cap, cur, rfl, hNg, hg, hcp, _, _, _⟩
  · refine ⟨none, 0, by rw [h0], ⟨fun hz => by simp [h0] at hz, by simp [h0], fun _ => rfl, fun p hp => by cases hp⟩, fun p hp => by cases hp⟩
  · obtain ⟨A2, c2, e2, hI, hc2, _⟩ := ints_row h.kids
    cases e2
    refine ⟨_, cap, rfl, ⟨hI, by simpa using hc2, fun e => (by cases e), fun p hp => ?_⟩, fun p hp => by cases hp; show W0.heap.size ≤ g; omega⟩
    cases hp
    refine ⟨by show T ≤ g; omega, (Array.getElem?_eq_some_iff.1 hg).1, fun e => ?_⟩
    have : T = g := by simpa [Value.ownBlock] using e
    omega
/-- The row of roots grows in the graph's box. -/
structure RuSt (X : World) (B : Nat) (nv rv : Value) (l : List Nat) (W : World) : Prop where
  keep : Kept2 X W B B
  out : W.heap[B]? = some (.cells #[nv, rv] 25 (0, 0))
  rts : W.ownsRow X.heap.size 3 1 rv l.length (ncells l)
theorem RuSt.push {X W w' : World} {B : Nat} {nv rv v' : Value} {l : List Nat} {z : Nat} {o : Obj} (h : RuSt X B nv rv l W) (hB : B < X.heap.size) (hg : (W.alloc o).grownBy w' rv.ownBlock) (hv : w'.ownsRow X.heap.size 3 1 v' (l ++ [z]).length (ncells (l ++ [z]))) :
    (w'.cell? ⟨B, 1, none⟩ = some rv ∧ w'.frozen? ⟨B, 1, none⟩ = false) ∧ RuSt X B nv v' (l ++ [z]) (w'.setCell ⟨B, 1, none⟩ v') := by
  have hXW := h.keep.size
  have hsz : W.heap.size ≤ w'.heap.size := Nat.le_trans (by simp) hg.size
  have hk : ∀ b, b < X.heap.size → w'.heap[b]? = W.heap[b]? := fun b hl => (hg.block b (by simp; omega) fun e => by have := (own_place h.rts e.symm).1; omega).trans (Below.heap_alloc W o b (by omega))
  have hst : ∀ b, b ≠ B → (w'.setCell ⟨B, 1, none⟩ v').heap[b]? = w'.heap[b]? := fun b hl => Below.heap_setCell w' ⟨B, 1, none⟩ _ b hl
  have hx := (hk _ hB).trans h.out
  exact ⟨⟨Lib.cell_of_heap hx 1, Go.Joins.unfrozen_of_block hx 1⟩, ⟨hg.os.trans h.keep.os, hg.tape.trans h.keep.tape, hg.output.trans h.keep.output, by simp; omega, fun b hl h1 h2 => (hst b h1).trans ((hk b hl).trans (h.keep.block b hl h1 h2))⟩,
    Go.Joins.block_setCell hx v', ownsRow_same hv fun b hb _ => hst b (by have := (own_place hv hb).1; omega)⟩
/-- The graph H lies in the box behind its row of nodes. -/
structure TnAt (T n : Nat) (H : Gr) (RA : Option Addr) (rc : Nat) (L : List NdK) (Z : World) : Prop where
  out : Z.heap[T + 1]? = some (.cells #[.slice (some ⟨T, 0, none⟩) n n, .slice RA H.roots.length rc] 25 (0, 0))
  nds : NdsOwn Z T (.slice (some ⟨T, 0, none⟩) n n) L
  len : L.length = n
  nodes : L.map (·.1) = H.nodes
  rts : IntsAt Z Z.heap.size RA H.roots
  far : ∀ p, RA = some p → p.block ≠ T
theorem TnAt.gr {T n : Nat} {H : Gr} {RA : Option Addr} {rc : Nat} {L : List NdK} {Z : World} (h : TnAt T n H RA rc L Z) : GrAt Z Z.heap.size H (.agg #[.slice (some ⟨T, 0, none⟩) n n, .slice RA H.roots.length rc]) := by
  have hl := h.len
  subst hl
  have h1 := h.nds.at
  have h2 := congrArg List.length h.nodes
  rw [List.length_map] at h2
  rw [h.nodes] at h1
  exact ⟨some ⟨T, 0, none⟩, L.length, RA, rc, by rw [h2], h1, h.rts⟩
theorem TnAt.below {T n : Nat} {H : Gr} {RA : Option Addr} {rc : Nat} {L : List NdK} {Z W : World} (h : TnAt T n H RA rc L Z) (hb : Below Z.heap.size Z W) : TnAt T n H RA rc L W :=
  ⟨(hb.block _ (Array.getElem?_eq_some_iff.1 h.out).1).trans h.out, h.nds.below hb, h.len, h.nodes, (h.rts.below hb (Nat.le_refl _)).more hb.size, h.far⟩
theorem nrows_text {L : List NdK} {k : Nat} (h : k < L.length) (t : ByteArray) : nrows (L.set k ({ L[k].1 with text := t }, L[k].2)) = (nrows L).set (k * 5 + 2) (.string t) := by
  apply List.ext_getElem?
  intro j
  by_cases hj : j < L.length * 5
  · obtain ⟨q, r, hr, rfl⟩ : ∃ q r, r < 5 ∧ j = q * 5 + r := ⟨j / 5, j % 5, Nat.mod_lt _ (by omega), by omega⟩
    have hq : q < L.length := by omega
    rw [nrows_get _ q r (by rw [List.length_set]; exact hq) hr, List.getElem?_set, List.getElem_set]
    by_cases e : k = q
    · subst e
      rw [if_pos rfl]
      match r, hr with
      | 0, _ => rw [if_neg (by omega), nrows_get L k 0 hq (by omega)]; rfl
      | 1, _ => rw [if_neg (by omega), nrows_get L k 1 hq (by omega)]; rfl
      | 2, _ => rw [if_pos rfl, if_pos (by rw [nrows_len]; omega)]; rfl
      | 3, _ => rw [if_neg (by omega), nrows_get L k 3 hq (by omega)]; rfl
      | 4, _ => rw [if_neg (by omega), nrows_get L k 4 hq (by omega)]; rfl
    · rw [if_neg e, if_neg (by omega), nrows_get L q r hq hr]
  · rw [List.getElem?_eq_none (by rw [nrows_len, List.length_set]; omega), List.getElem?_eq_none (by rw [List.length_set, nrows_len]; omega)]
theorem TnAt.cells {T n : Nat} {H : Gr} {RA : Option Addr} {rc : Nat} {L : List NdK} {Z : World} (h : TnAt T n H RA rc L Z) {k : Nat} (hk : k < n) : Z.cell? ⟨T, k * 5, none⟩ = some (.int .i64 (nd H.nodes k).kind) ∧ Z.cell? ⟨T, k * 5 + 2, none⟩ = some (.string (nd H.nodes k).text) ∧ Z.frozen? ⟨T, k * 5 + 2, none⟩ = false := by
  have hl := h.len
  subst hl
  have ho := h.nds.own
  have hnd : nd H.nodes k = L[k].1 := by rw [← h.nodes]; simp [nd, hk]
  have c0 := ho.cellAt (k * 5) (by omega)
  have c2 := ho.cellAt (k * 5 + 2) (by omega)
  have e0 := nrows_get L k 0 hk (by omega)
  have e2 := nrows_get L k 2 hk (by omega)
  rw [Nat.add_zero] at e0
  rw [e0] at c0
  rw [e2] at c2
  exact ⟨by rw [c0, hnd]; rfl, by rw [c2, hnd]; rfl, ho.frozenAt _⟩
theorem TnAt.text {T n : Nat} {H : Gr} {RA : Option Addr} {rc : Nat} {L : List NdK} {Z : World} (h : TnAt T n H RA rc L Z) {k : Nat} (hk : k < n) (t : ByteArray) :
    ∃ L', TnAt T n (textG H k t) RA rc L' (Z.setCell ⟨T, k * 5 + 2, none⟩ (.string t)) := by
  have hl := h.len
  subst hl
  have hb : ∀ b, b ≠ T → (Z.setCell ⟨T, k * 5 + 2, none⟩ (.string t)).heap[b]? = Z.heap[b]? := fun b hl => Below.heap_setCell Z ⟨T, k * 5 + 2, none⟩ _ b hl
  refine ⟨L.set k ({ L[k].1 with text := t }, L[k].2), (hb _ (by omega)).trans h.out, ⟨?_, fun e he => ?_⟩, List.length_set, ?_, fun hz => ?_, h.far⟩
  · have := (h.nds.own.stored (k * 5 + 2) (.string t)).1
    rw [← nrows_text hk] at this
    rw [List.length_set]
    exact this
  · have key : ∀ e0 ∈ L, KidOk (Z.setCell ⟨T, k * 5 + 2, none⟩ (.string t)) T (.slice (some ⟨T, 0, none⟩) L.length L.length) e0 := fun e0 h0 => (h.nds.kids e0 h0).keep (by simp) fun b _ _ hn => hb b (fun e => hn (by rw [e]; rfl))
    rcases List.mem_or_eq_of_mem_set he with h0 | rfl
    · exact key e h0
    · have := key L[k] (List.getElem_mem hk)
      exact ⟨this.ints, this.room, this.nil, this.own⟩
  · simp only [textG, ← h.nodes]
    apply List.ext_getElem
    · simp
    · intro j h1 h2
      simp only [List.getElem_map, List.getElem_set, List.getElem_modify]
      split
      · next e => subst e; rfl
      · rfl
  · obtain ⟨b, off, rfl, hlt, hc⟩ := h.rts hz
    exact ⟨b, off, rfl, by simpa using hlt, fun j hj => (World.cell?_of_block (hb b (h.far _ rfl))).trans (hc j hj)⟩
/-- The nodes are made, the roots are told: the graph. -/
theorem TuSt.graph {Y X W : World} {T b : Nat} {G : Gr} {L : List NdK} {rv : Value} (h : TuSt Y T b G G.nodes.length L X) (hX : T + 2 ≤ X.heap.size) (hr : RuSt X (T + 1) (.slice (some ⟨T, 0, none⟩) G.nodes.length G.nodes.length) rv ((rootN G).map fun y => (y + b) % G.nodes.length) W) :
    ∃ RA rc, rv = .slice RA G.roots.length rc ∧ TnAt T G.nodes.length (turnG G b) RA rc L W := by
  obtain ⟨RA, rc, hrv, hI, _, hf⟩ := ints_row hr.rts
  have e1 : ((rootN G).map fun y => (y + b) % G.nodes.length).length = G.roots.length := by simp [rootN]
  have e2 : ((rootN G).map fun y => (y + b) % G.nodes.length).map Int.ofNat = (turnG G b).roots := by
    simp [turnG, rootN, turnI, Function.comp_def]
  have e3 : (turnG G b).roots.length = G.roots.length := by simp [turnG]
  rw [e1] at hrv
  rw [e2] at hI
  refine ⟨RA, rc, hrv, ?_, h.nds.off hr.keep.size (fun g hg => ?_) (fun e he p hp => ?_), h.len, h.fin, hI, fun p hp => by have := hf p hp; omega⟩
  · rw [e3, ← hrv]; exact hr.out
  · have hg' : T = g := by simpa [Value.ownBlock] using hg
    subst hg'
    exact hr.keep.block _ (by omega) (by omega) (by omega)
  · have h1 := h.far e he p hp
    have h2 := ((h.nds.kids e he).own p hp).2.1
    exact hr.keep.block _ h2 (by omega) (by omega)
theorem wf_small2 {z : Int} (h0 : 0 ≤ z) (h1 : z ≤ 1000000000000) : (Lit.int .i64 z).wf = true := by
  simp only [Lit.wf, Bool.and_eq_true, decide_eq_true_eq]
  have h2 : (IntKind.i64).min ≤ 0 := by decide
  have h3 : (1000000000000 : Int) ≤ (IntKind.i64).max := by decide
  omega
theorem turn_mem {G : Gr} {b : Nat} {e : Nd} (he : e ∈ (turnG G b).nodes) : ∃ x, x < G.nodes.length ∧ e = turnE G.nodes.length b (nd G.nodes x) := by
  obtain ⟨j, hj, rfl⟩ := List.mem_map.1 he
  exact ⟨_, back_lt (by have := List.mem_range.1 hj; omega), rfl⟩
theorem turn_ok {G : Gr} {b : Nat} (h : G.ok) (hn : G.nodes.length ≤ 20000) : (turnG G b).ok := by
  refine ⟨by rw [turnG_len]; exact h.nodes, by simpa [turnG] using h.roots, fun e he => ?_, fun e he => ?_⟩
  · obtain ⟨x, hx, rfl⟩ := turn_mem he
    have h1 := h.each _ (nd_mem hx)
    refine ⟨h1.kind, h1.tag, h1.text, by simpa [turnE] using h1.kids, fun z hz => ?_⟩
    obtain ⟨y, _, rfl⟩ := List.mem_map.1 hz
    have h2 : (y.toNat + b) % G.nodes.length < G.nodes.length := Nat.mod_lt _ (by omega)
    exact wf_small2 (by unfold turnI; omega) (by unfold turnI; omega)
  · obtain ⟨x, hx, rfl⟩ := turn_mem he
    simpa [turnE] using h.small _ (nd_mem hx)
theorem turn_okR {G : Gr} {b : Nat} (h : G.okR) : (turnG G b).okR := by
  refine ⟨by rw [turnG_len]; exact h.nodes, by simpa [turnG] using h.roots, fun e he => ?_, fun e he => ?_, fun e he => ?_⟩ <;> obtain ⟨x, hx, rfl⟩ := turn_mem he
  · simpa [turnE] using h.tag _ (nd_mem hx)
  · simpa [turnE] using h.text _ (nd_mem hx)
  · simpa [turnE] using h.small _ (nd_mem hx)
theorem text_ok {G : Gr} {k : Nat} {t : ByteArray} (h : G.ok) (ht : t.size ≤ maxLen) : (textG G k t).ok := by
  have key : ∀ e ∈ (textG G k t).nodes, ∃ e0 ∈ G.nodes, e = e0 ∨ e = { e0 with text := t } := fun e he => by
    obtain ⟨i, hi, rfl⟩ := List.mem_iff_getElem.1 he
    have hi' : i < G.nodes.length := by simpa [textG] using hi
    refine ⟨G.nodes[i], List.getElem_mem hi', ?_⟩
    simp only [textG, List.getElem_modify]
    split
    · exact .inr rfl
    · exact .inl rfl
  refine ⟨by rw [textG_len]; exact h.nodes, h.roots, fun e he => ?_, fun e he => ?_⟩
  · obtain ⟨e0, h0, rfl | rfl⟩ := key e he
    · exact h.each e h0
    · have h1 := h.each e0 h0
      exact ⟨h1.kind, h1.tag, ht, h1.kids, h1.each⟩
  · obtain ⟨e0, h0, rfl | rfl⟩ := key e he
    · exact h.small e h0
    · exact h.small e0 h0
theorem same_turn {G : Gr} {b : Nat} (h : RightR G) (hb : b < G.nodes.length) : sameB G (turnG G b) = true := by
  simp [sameB, h.to, (turn_right h hb).to, turn_form h hb]
theorem same_text {G : Gr} {b k : Nat} {t : ByteArray} (h : RightR G) (hb : b < G.nodes.length) (hk : k ∈ orderL (turnG G b)) (ht : t ≠ (nd (turnG G b).nodes k).text) : sameB G (textG (turnG G b) k t) = false := by
  have h1 := text_other (turn_right h hb) hk ht
  rw [turn_form h hb] at h1
  unfold sameB
  rw [decide_eq_false fun e => h1 e.symm]
  simp
theorem reach_order {H : Gr} (h : RightR H) {r x : Nat} (hr : r ∈ rootN H) (hx : x ∈ metL H r) : x ∈ orderL H :=
  metL_least (S := fun x => x ∈ orderL H) (h.ord.base r hr) h.ord.kids x hx
theorem append_ne {a b : ByteArray} (h : b.size ≠ 0) : a ++ b ≠ a := fun e => by
  have := congrArg ByteArray.size e
  rw [ByteArray.size_append] at this
  omega
end Go.Proofs.YtdcbngimgpdjoaaDoor
