/- Trees in memory. No condition. -/
import Derived.Test.YtdcbngimgpdjoaaDoorXp
import Derived.Test.YtdcbngimgpdjoaaDoorKm
namespace Go.Proofs.YtdcbngimgpdjoaaDoor
open Go.RowKit Go.Shelf Go.Deep
mutual
/-- A tree lies in four cells, its Kids' rows in blocks that ok lets be. -/
def TrAt (W : World) (ok : Nat → Prop) : Tr → Nat → Nat → Prop
  | .mk k tag txt l, b, o => W.cell? ⟨b, o, none⟩ = some (.int .i64 k) ∧ W.cell? ⟨b, o + 1, none⟩ = some (.string tag) ∧ W.cell? ⟨b, o + 2, none⟩ = some (.string txt) ∧
      ∃ A c, W.cell? ⟨b, o + 3, none⟩ = some (.slice A l.length c) ∧ l.length ≤ c ∧ (l = [] ∨ ∃ b' o', A = some ⟨b', o', none⟩ ∧ ok b' ∧ TrsAt W ok l b' o')
def TrsAt (W : World) (ok : Nat → Prop) : List Tr → Nat → Nat → Prop
  | [], _, _ => True
  | t :: l, b, o => TrAt W ok t b o ∧ TrsAt W ok l b (o + 4)
end
mutual
theorem TrAt.keep {W W' : World} {ok ok' : Nat → Prop} (hb : ∀ b, ok b → W'.heap[b]? = W.heap[b]?) (hk : ∀ b, ok b → ok' b) : ∀ (t : Tr) (b o : Nat), W'.heap[b]? = W.heap[b]? → TrAt W ok t b o → TrAt W' ok' t b o
  | .mk k tag txt l, b, o, h, ht => by
    simp only [TrAt] at ht ⊢
    obtain ⟨h0, h1, h2, A, c, h3, h4, h5⟩ := ht
    refine ⟨(World.cell?_of_block h).trans h0, (World.cell?_of_block h).trans h1, (World.cell?_of_block h).trans h2, A, c, (World.cell?_of_block h).trans h3, h4, ?_⟩
    rcases h5 with h5 | ⟨b', o', hA, hk', h6⟩
    · exact .inl h5
    · exact .inr ⟨b', o', hA, hk _ hk', TrsAt.keep hb hk l b' o' (hb _ hk') h6⟩
theorem TrsAt.keep {W W' : World} {ok ok' : Nat → Prop} (hb : ∀ b, ok b → W'.heap[b]? = W.heap[b]?) (hk : ∀ b, ok b → ok' b) : ∀ (l : List Tr) (b o : Nat), W'.heap[b]? = W.heap[b]? → TrsAt W ok l b o → TrsAt W' ok' l b o
  | [], _, _, _, _ => by simp [TrsAt]
  | t :: l, b, o, h, ht => by
    simp only [TrsAt] at ht ⊢
    exact ⟨TrAt.keep hb hk t b o h ht.1, TrsAt.keep hb hk l b (o + 4) h ht.2⟩
end
theorem TrsAt.get {W : World} {ok : Nat → Prop} : ∀ {l : List Tr} {b o : Nat}, TrsAt W ok l b o → ∀ k (h : k < l.length), TrAt W ok l[k] b (o + k * 4) := by
  intro l
  induction l with
  | nil => intro b o _ k h; simp at h
  | cons t l ih =>
    intro b o ht k h
    simp only [TrsAt] at ht
    match k, h with
    | 0, _ => simpa using ht.1
    | k + 1, h =>
      have h1 := ih ht.2 k (by simpa using h)
      rw [show o + (k + 1) * 4 = o + 4 + k * 4 by omega, List.getElem_cons_succ]
      exact h1
theorem TrsAt.of {W : World} {ok : Nat → Prop} : ∀ {l : List Tr} {b o : Nat}, (∀ k (h : k < l.length), TrAt W ok l[k] b (o + k * 4)) → TrsAt W ok l b o := by
  intro l
  induction l with
  | nil => intro b o _; simp [TrsAt]
  | cons t l ih =>
    intro b o ht
    simp only [TrsAt]
    refine ⟨by have h0 := ht 0 (by simp); rw [List.getElem_cons_zero, Nat.zero_mul, Nat.add_zero] at h0; exact h0, ih fun k h => ?_⟩
    have h1 := ht (k + 1) (by simpa using h)
    rw [show o + 4 + k * 4 = o + (k + 1) * 4 by omega]
    rw [List.getElem_cons_succ] at h1
    exact h1
/-- The Kids of a tree lie from A on. -/
def KidsAt (W : World) (ok : Nat → Prop) (A : Option Addr) (l : List Tr) : Prop := l = [] ∨ ∃ b o, A = some ⟨b, o, none⟩ ∧ ok b ∧ TrsAt W ok l b o
theorem KidsAt.keep {W W' : World} {ok ok' : Nat → Prop} {A : Option Addr} {l : List Tr} (h : KidsAt W ok A l) (hb : ∀ b, ok b → W'.heap[b]? = W.heap[b]?) (hk : ∀ b, ok b → ok' b) : KidsAt W' ok' A l := by
  rcases h with h | ⟨b, o, hA, h1, h2⟩
  · exact .inl h
  · exact .inr ⟨b, o, hA, hk _ h1, h2.keep hb hk _ _ _ (hb _ h1)⟩
/-- A tree's value. -/
def TrV (W : World) (ok : Nat → Prop) (t : Tr) (v : Value) : Prop := ∃ A c, v = .agg #[.int .i64 t.kind, .string t.tag, .string t.text, .slice A t.kids.length c] ∧ t.kids.length ≤ c ∧ KidsAt W ok A t.kids
theorem TrV.keep {W W' : World} {ok ok' : Nat → Prop} {t : Tr} {v : Value} (h : TrV W ok t v) (hb : ∀ b, ok b → W'.heap[b]? = W.heap[b]?) (hk : ∀ b, ok b → ok' b) : TrV W' ok' t v := by
  obtain ⟨A, c, hv, h1, h2⟩ := h
  exact ⟨A, c, hv, h1, h2.keep hb hk⟩
/-- Below n. -/
abbrev lo (n : Nat) (b : Nat) : Prop := b < n
theorem TrV.below {W W' : World} {n m : Nat} {t : Tr} {v : Value} (h : TrV W (lo n) t v) (hb : Below n W W') (hm : n ≤ m) : TrV W' (lo m) t v := h.keep (fun b hlt => hb.block b hlt) fun _ hlt => Nat.lt_of_lt_of_le hlt hm
theorem KidsAt.below {W W' : World} {n m : Nat} {A : Option Addr} {l : List Tr} (h : KidsAt W (lo n) A l) (hb : Below n W W') (hm : n ≤ m) : KidsAt W' (lo m) A l := h.keep (fun b hlt => hb.block b hlt) fun _ hlt => Nat.lt_of_lt_of_le hlt hm
/-- A kid as it lies in the row. -/
theorem KidsAt.kid {W : World} {ok : Nat → Prop} {A : Option Addr} {l : List Tr} (h : KidsAt W ok A l) (hl : 0 < l.length) : ∃ b o, A = some ⟨b, o, none⟩ ∧ ok b ∧ ∀ k (hk : k < l.length), ∃ A' c', W.cell? ⟨b, o + k * 4, none⟩ = some (.int .i64 l[k].kind) ∧ W.cell? ⟨b, o + k * 4 + 1, none⟩ = some (.string l[k].tag) ∧
    W.cell? ⟨b, o + k * 4 + 2, none⟩ = some (.string l[k].text) ∧ W.cell? ⟨b, o + k * 4 + 3, none⟩ = some (.slice A' l[k].kids.length c') ∧ l[k].kids.length ≤ c' ∧ KidsAt W ok A' l[k].kids := by
  rcases h with rfl | ⟨b, o, hA, h1, h2⟩
  · simp at hl
  · refine ⟨b, o, hA, h1, fun k hk => ?_⟩
    have h3 := h2.get k hk
    obtain ⟨t, ht⟩ : ∃ t, l[k] = t := ⟨_, rfl⟩
    rw [ht] at h3 ⊢
    cases t with
    | mk kd tg tx ks =>
      simp only [TrAt] at h3
      obtain ⟨a, b', c, A', c', d, e, f⟩ := h3
      exact ⟨A', c', a, b', c, d, e, f⟩
/-- One who lies in a row of the call's own: a tree, with its Kids' place. -/
abbrev TrK := Tr × Option Addr × Nat
def trow (e : TrK) : List Value := [.int .i64 e.1.kind, .string e.1.tag, .string e.1.text, .slice e.2.1 e.1.kids.length e.2.2]
def trows (L : List TrK) : List Value := L.flatMap trow
theorem trow_len (e : TrK) : (trow e).length = 4 := rfl
theorem trows_len (L : List TrK) : (trows L).length = L.length * 4 := by
  induction L with
  | nil => rfl
  | cons a L ih => simp only [trows, List.flatMap_cons, List.length_append, trow_len, List.length_cons] at *; omega
theorem trows_get (L : List TrK) : ∀ (q r : Nat) (hq : q < L.length), r < 4 → (trows L)[q * 4 + r]? = (trow L[q])[r]? := by
  induction L with
  | nil => intro q r hq; simp at hq
  | cons a L ih =>
    intro q r hq hr
    simp only [trows, List.flatMap_cons]
    match q, hq with
    | 0, _ =>
      rw [List.getElem?_append_left (by rw [trow_len]; omega)]
      simp
    | q + 1, hq =>
      rw [List.getElem?_append_right (by rw [trow_len]; omega), trow_len, show (q + 1) * 4 + r - 4 = q * 4 + r by omega]
      have := ih q r (by simpa using hq) hr
      simpa [trows] using this
/-- Trees in a row of the call's own, their Kids in blocks of the call's own apart from the row. -/
structure TrsOwn (W : World) (N : Nat) (v : Value) (L : List TrK) : Prop where
  own : W.ownsRow N 52 4 v L.length (trows L)
  kids : ∀ e ∈ L, e.1.kids.length ≤ e.2.2 ∧ KidsAt W (fun b => N ≤ b ∧ b < W.heap.size ∧ v.ownBlock ≠ some b) e.2.1 e.1.kids
theorem TrsOwn.empty (W : World) (N : Nat) : TrsOwn W N (.slice none 0 0) [] := ⟨⟨rfl, .inl ⟨rfl, rfl⟩⟩, fun e he => by cases he⟩
theorem TrsOwn.keep {W W' : World} {N : Nat} {v : Value} {L : List TrK} (h : TrsOwn W N v L) (hs : W.heap.size ≤ W'.heap.size) (hb : ∀ b, N ≤ b → b < W.heap.size → W'.heap[b]? = W.heap[b]?) : TrsOwn W' N v L :=
  ⟨ownsRow_same h.own fun g hg hl => hb g (own_place h.own hg).1 hl, fun e he => ⟨(h.kids e he).1, (h.kids e he).2.keep (fun b hb' => hb b hb'.1 hb'.2.1) fun b hb' => ⟨hb'.1, by omega, hb'.2.2⟩⟩⟩
theorem TrsOwn.less {W : World} {N N' : Nat} {v : Value} {L : List TrK} (h : TrsOwn W N v L) (hN : N' ≤ N) : TrsOwn W N' v L := by
  refine ⟨⟨h.own.1, ?_⟩, fun e he => ⟨(h.kids e he).1, (h.kids e he).2.keep (fun _ _ => rfl) fun b hb => ⟨by omega, hb.2⟩⟩⟩
  rcases h.own.2 with h0 | ⟨g, cap, cur, hv, hb, r⟩
  · exact .inl h0
  · exact .inr ⟨g, cap, cur, hv, by omega, r⟩
theorem TrsOwn.shape {W : World} {N : Nat} {v : Value} {L : List TrK} (h : TrsOwn W N v L) : ∃ A c, v = .slice A L.length c ∧ L.length ≤ c := by
  rcases h.own.2 with ⟨rfl, h0⟩ | ⟨g, cap, cur, rfl, _, _, h3, _⟩
  · exact ⟨none, 0, by rw [h0], by omega⟩
  · exact ⟨_, cap, rfl, h3⟩
/-- Behind 'append' of one tree. -/
theorem TrsOwn.push {W w' : World} {N : Nat} {v v' : Value} {L : List TrK} {e : TrK} {o : Obj} (h : TrsOwn W N v L) (he : e.1.kids.length ≤ e.2.2 ∧ KidsAt W (fun b => N ≤ b ∧ b < W.heap.size ∧ v.ownBlock ≠ some b) e.2.1 e.1.kids)
    (hg : (W.alloc o).grownBy w' v.ownBlock) (hv : w'.ownsRow N 52 4 v' (L ++ [e]).length (trows (L ++ [e]))) {g : Nat} (hg1 : v'.ownBlock = some g) (hg2 : v.ownBlock = some g ∨ g = W.heap.size + 1) : TrsOwn w' N v' (L ++ [e]) := by
  have hs2 : W.heap.size ≤ w'.heap.size := Nat.le_trans (by simp) hg.size
  have hb : ∀ j, j < W.heap.size → v.ownBlock ≠ some j → w'.heap[j]? = W.heap[j]? := fun j hj hne =>
    (hg.block j (by simp; omega) (fun e => hne e.symm)).trans (Below.heap_alloc W o j hj)
  refine ⟨hv, fun x hx => ?_⟩
  have hk : x.1.kids.length ≤ x.2.2 ∧ KidsAt W (fun b => N ≤ b ∧ b < W.heap.size ∧ v.ownBlock ≠ some b) x.2.1 x.1.kids := by
    rcases List.mem_append.1 hx with hx | hx
    · exact h.kids x hx
    · simp at hx; subst hx; exact he
  refine ⟨hk.1, hk.2.keep (fun b hb' => hb b hb'.2.1 hb'.2.2) fun b hb' => ⟨hb'.1, by omega, ?_⟩⟩
  rw [hg1]
  intro e1
  injection e1 with e1
  subst e1
  rcases hg2 with e2 | e2
  · exact hb'.2.2 e2
  · omega
/-- The row as a tree's Kids. -/
theorem TrsOwn.at {W : World} {N : Nat} {A : Option Addr} {n c : Nat} {L : List TrK} (h : TrsOwn W N (.slice A n c) L) : KidsAt W (fun b => N ≤ b ∧ b < W.heap.size) A (L.map (·.1)) := by
  rcases h.own.2 with ⟨_, h0⟩ | ⟨g, cap, cur, hv, hb, hg, hn, _⟩
  · exact .inl (List.eq_nil_of_length_eq_zero (by simpa using h0))
  · cases hv
    refine .inr ⟨g, 0, rfl, ⟨hb, (Array.getElem?_eq_some_iff.1 hg).1⟩, TrsAt.of fun k hk => ?_⟩
    rw [List.length_map] at hk
    have hcell : ∀ j, j < 4 → W.cell? ⟨g, k * 4 + j, none⟩ = (trow L[k])[j]? := fun j hj => by
      rw [h.own.cellAt (k * 4 + j) (by omega), trows_get L k j hk hj]
    have hkd := h.kids L[k] (List.getElem_mem hk)
    have h0 := hcell 0 (by omega)
    have h1 := hcell 1 (by omega)
    have h2 := hcell 2 (by omega)
    have h3 := hcell 3 (by omega)
    rw [List.getElem_map]
    obtain ⟨e, he⟩ : ∃ e, L[k] = e := ⟨_, rfl⟩
    rw [he] at h0 h1 h2 h3 hkd ⊢
    obtain ⟨t, A', c'⟩ := e
    cases t with
    | mk kd tg tx ks =>
      simp only [TrAt, Nat.zero_add]
      exact ⟨h0, h1, h2, A', c', h3, hkd.1, hkd.2.keep (fun _ _ => rfl) fun b hb => ⟨hb.1, hb.2.1⟩⟩
end Go.Proofs.YtdcbngimgpdjoaaDoor
