/- Trees in memory. No condition. -/
import Derived.Test.YtdcbngimgpdjoaaDoorXp
import Derived.Test.YtdcbngimgpdjoaaDoorKm
import Derived.Deep.RegionHeld3
namespace Go.Proofs.YtdcbngimgpdjoaaDoor
open Go.RowKit Go.Shelf Go.Deep
mutual
/-- A tree lies in four cells, its Kids' rows in blocks that ok lets be. -/
def TrAt (W : World) (ok : Nat → Prop) : Tr → Nat → Nat → Prop
  | .mk k tag txt l, b, o => W.cell? ⟨b, o, none⟩ = some (.int .i64 k) ∧ W.cell? ⟨b, o + 1, none⟩ = some (.string tag) ∧ W.cell? ⟨b, o + 2, none⟩ = some (.string txt) ∧
      ∃ A c, W.cell? ⟨b, o + 3, none⟩ = some (.slice A l.length c) ∧ l.length ≤ c ∧ (l = [] ∨ ∃ b' o', A = some ⟨b', o', none⟩ ∧ ok b' ∧ TrsAt W ok l b' o')
def TrsAt (W : World) (ok : Nat → Prop) : List Tr → Nat → Nat → Prop
  | [], _, _ => True
  | t :: l, b, o => TrAt W ok t b o ∧ TrsAt W ok l b (o + 4)
end
mutual
theorem TrAt.keep {W W' : World} {ok ok' : Nat → Prop} (hb : ∀ b, ok b → W'.heap[b]? = W.heap[b]?) (hk : ∀ b, ok b → ok' b) : ∀ (t : Tr) (b o : Nat), W'.heap[b]? = W.heap[b]? → TrAt W ok t b o → TrAt W' ok' t b o
  | .mk k tag txt l, b, o, h, ht => by
    simp only [TrAt] at ht ⊢
    obtain ⟨h0, h1, h2, A, c, h3, h4, h5⟩ := ht
    refine ⟨(World.cell?_of_block h).trans h0, (World.cell?_of_block h).trans h1, (World.cell?_of_block h).trans h2, A, c, (World.cell?_of_block h).trans h3, h4, ?_⟩
    rcases h5 with h5 | ⟨b', o', hA, hk', h6⟩
    · exact .inl h5
    · exact .inr ⟨b', o', hA, hk _ hk', TrsAt.keep hb hk l b' o' (hb _ hk') h6⟩
theorem TrsAt.keep {W W' : World} {ok ok' : Nat → Prop} (hb : ∀ b, ok b → W'.heap[b]? = W.heap[b]?) (hk : ∀ b, ok b → ok' b) : ∀ (l : List Tr) (b o : Nat), W'.heap[b]? = W.heap[b]? → TrsAt W ok l b o → TrsAt W' ok' l b o
  | [], _, _, _, _ => by simp [TrsAt]
  | t :: l, b, o, h, ht => by
    simp only [TrsAt] at ht ⊢
    exact ⟨TrAt.keep hb hk t b o h ht.1, TrsAt.keep hb hk l b (o + 4) h ht.2⟩
end
theorem TrsAt.get {W : World} {ok : Nat → Prop} : ∀ {l : List Tr} {b o : Nat}, TrsAt W ok l b o → ∀ k (h : k < l.length), TrAt W ok l[k] b (o + k * 4) := by
  intro l
  induction l with
  | nil => intro b o _ k h; simp at h
  | cons t l ih =>
    intro b o ht k h
    simp only [TrsAt] at ht
    match k, h with
    | 0, _ => simpa using ht.1
    | k + 1, h =>
      have h1 := ih ht.2 k (by simpa using h)
      rw [show o + (k + 1) * 4 = o + 4 + k * 4 by omega, List.getElem_cons_succ]
      exact h1
theorem TrsAt.of {W : World} {ok : Nat → Prop} : ∀ {l : List Tr} {b o : Nat}, (∀ k (h : k < l.length), TrAt W ok l[k] b (o + k * 4)) → TrsAt W ok l b o := by
  intro l
  induction l with
  | nil => intro b o _; simp [TrsAt]
  | cons t l ih =>
    intro b o ht
    simp only [TrsAt]
    refine ⟨by have h0 := ht 0 (by simp); rw [List.getElem_cons_zero, Nat.zero_mul, Nat.add_zero] at h0; exact h0, ih fun k h => ?_⟩
    have h1 := ht (k + 1) (by simpa using h)
    rw [show o + 4 + k * 4 = o + (k + 1) * 4 by omega]
    rw [List.getElem_cons_succ] at h1
    exact h1
/-- The Kids of a tree lie from A on. -/
def KidsAt (W : World) (ok : Nat → Prop) (A : Option Addr) (l : List Tr) : Prop := l = [] ∨ ∃ b o, A = some ⟨b, o, none⟩ ∧ ok b ∧ TrsAt W ok l b o
theorem KidsAt.keep {W W' : World} {ok ok' : Nat → Prop} {A : Option Addr} {l : List Tr} (h : KidsAt W ok A l) (hb : ∀ b, ok b → W'.heap[b]? = W.heap[b]?) (hk : ∀ b, ok b → ok' b) : KidsAt W' ok' A l := by
  rcases h with h | ⟨b, o, hA, h1, h2⟩
  · exact .inl h
  · exact .inr ⟨b, o, hA, hk _ h1, h2.keep hb hk _ _ _ (hb _ h1)⟩
/-- A tree's value. -/
def TrV (W : World) (ok : Nat → Prop) (t : Tr) (v : Value) : Prop := ∃ A c, v = .agg #[.int .i64 t.kind, .string t.tag, .string t.text, .slice A t.kids.length c] ∧ t.kids.length ≤ c ∧ KidsAt W ok A t.kids
theorem TrV.keep {W W' : World} {ok ok' : Nat → Prop} {t : Tr} {v : Value} (h : TrV W ok t v) (hb : ∀ b, ok b → W'.heap[b]? = W.heap[b]?) (hk : ∀ b, ok b → ok' b) : TrV W' ok' t v := by
  obtain ⟨A, c, hv, h1, h2⟩ := h
  exact ⟨A, c, hv, h1, h2.keep hb hk⟩
/-- Below n. -/
abbrev lo (n : Nat) (b : Nat) : Prop := b < n
theorem TrV.below {W W' : World} {n m : Nat} {t : Tr} {v : Value} (h : TrV W (lo n) t v) (hb : Below n W W') (hm : n ≤ m) : TrV W' (lo m) t v := h.keep (fun b hlt => hb.block b hlt) fun _ hlt => Nat.lt_of_lt_of_le hlt hm
theorem KidsAt.below {W W' : World} {n m : Nat} {A : Option Addr} {l : List Tr} (h : KidsAt W (lo n) A l) (hb : Below n W W') (hm : n ≤ m) : KidsAt W' (lo m) A l := h.keep (fun b hlt => hb.block b hlt) fun _ hlt => Nat.lt_of_lt_of_le hlt hm
/-- A kid as it lies in the row. -/
theorem KidsAt.kid {W : World} {ok : Nat → Prop} {A : Option Addr} {l : List Tr} (h : KidsAt W ok A l) (hl : 0 < l.length) : ∃ b o, A = some ⟨b, o, none⟩ ∧ ok b ∧ ∀ k (hk : k < l.length), ∃ A' c', W.cell? ⟨b, o + k * 4, none⟩ = some (.int .i64 l[k].kind) ∧ W.cell? ⟨b, o + k * 4 + 1, none⟩ = some (.string l[k].tag) ∧
    W.cell? ⟨b, o + k * 4 + 2, none⟩ = some (.string l[k].text) ∧ W.cell? ⟨b, o + k * 4 + 3, none⟩ = some (.slice A' l[k].kids.length c') ∧ l[k].kids.length ≤ c' ∧ KidsAt W ok A' l[k].kids := by
  rcases h with rfl | ⟨b, o, hA, h1, h2⟩
  · simp at hl
  · refine ⟨b, o, hA, h1, fun k hk => ?_⟩
    have h3 := h2.get k hk
    obtain ⟨t, ht⟩ : ∃ t, l[k] = t := ⟨_, rfl⟩
    rw [ht] at h3 ⊢
    cases t with
    | mk kd tg tx ks =>
      simp only [TrAt] at h3
      obtain ⟨a, b', c, A', c', d, e, f⟩ := h3
      exact ⟨A', c', a, b', c, d, e, f⟩
/-- One who lies in a row of the call's own: a tree, with its Kids' place. -/
abbrev TrK := Tr × Option Addr × Nat
def trow (e : TrK) : List Value := [.int .i64 e.1.kind, .string e.1.tag, .string e.1.text, .slice e.2.1 e.1.kids.length e.2.2]
def trows (L : List TrK) : List Value := L.flatMap trow
theorem trow_len (e : TrK) : (trow e).length = 4 := rfl
theorem trows_len (L : List TrK) : (trows L).length = L.length * 4 := by
  induction L with
  | nil => rfl
  | cons a L ih => simp only [trows, List.flatMap_cons, List.length_append, trow_len, List.length_cons] at *; omega
theorem trows_get (L : List TrK) : ∀ (q r : Nat) (hq : q < L.length), r < 4 → (trows L)[q * 4 + r]? = (trow L[q])[r]? := by
  induction L with
  | nil => intro q r hq; simp at hq
  | cons a L ih =>
    intro q r hq hr
    simp only [trows, List.flatMap_cons]
    match q, hq with
    | 0, _ =>
      rw [List.getElem?_append_left (by rw [trow_len]; omega)]
      simp
    | q + 1, hq =>
      rw [List.getElem?_append_right (by rw [trow_len]; omega), trow_len, show (q + 1) * 4 + r - 4 = q * 4 + r by omega]
      have := ih q r (by simpa using hq) hr
      simpa [trows] using this
/-- Trees in a row of the call's own, their Kids in blocks of the call's own apart from the row. -/
structure TrsOwn (W : World) (N : Nat) (v : Value) (L : List TrK) : Prop where
  own : W.ownsRow N 52 4 v L.length (trows L)
  kids : ∀ e ∈ L, e.1.kids.length ≤ e.2.2 ∧ KidsAt W (fun b => N ≤ b ∧ b < W.heap.size ∧ v.ownBlock ≠ some b) e.2.1 e.1.kids
theorem TrsOwn.empty (W : World) (N : Nat) : TrsOwn W N (.slice none 0 0) [] := ⟨⟨rfl, .inl ⟨rfl, rfl⟩⟩, fun e he => by cases he⟩
theorem TrsOwn.keep {W W' : World} {N : Nat} {v : Value} {L : List TrK} (h : TrsOwn W N v L) (hs : W.heap.size ≤ W'.heap.size) (hb : ∀ b, N ≤ b → b < W.heap.size → W'.heap[b]? = W.heap[b]?) : TrsOwn W' N v L :=
  ⟨ownsRow_same h.own fun g hg hl => hb g (own_place h.own hg).1 hl, fun e he => ⟨(h.kids e he).1, (h.kids e he).2.keep (fun b hb' => hb b hb'.1 hb'.2.1) fun b hb' => ⟨hb'.1, by omega, hb'.2.2⟩⟩⟩
theorem TrsOwn.less {W : World} {N N' : Nat} {v : Value} {L : List TrK} (h : TrsOwn W N v L) (hN : N' ≤ N) : TrsOwn W N' v L := by
  refine ⟨⟨h.own.1, ?_⟩, fun e he => ⟨(h.kids e he).1, (h.kids e he).2.keep (fun _ _ => rfl) fun b hb => ⟨by omega, hb.2⟩⟩⟩
  rcases h.own.2 with h0 | ⟨g, cap, cur, hv, hb, r⟩
  · exact .inl h0
  · exact .inr ⟨g, cap, cur, hv, by omega, r⟩
theorem TrsOwn.shape {W : World} {N : Nat} {v : Value} {L : List TrK} (h : TrsOwn W N v L) : ∃ A c, v = .slice A L.length c ∧ L.length ≤ c := by
  rcases h.own.2 with ⟨rfl, h0⟩ | ⟨g, cap, cur, rfl, _, _, h3, _⟩
  · exact ⟨none, 0, by rw [h0], by omega⟩
  · exact ⟨_, cap, rfl, h3⟩
/-- Behind 'append' of one tree. -/
theorem TrsOwn.push {W w' : World} {N : Nat} {v v' : Value} {L : List TrK} {e : TrK} {o : Obj} (h : TrsOwn W N v L) (he : e.1.kids.length ≤ e.2.2 ∧ KidsAt W (fun b => N ≤ b ∧ b < W.heap.size ∧ v.ownBlock ≠ some b) e.2.1 e.1.kids)
    (hg : (W.alloc o).grownBy w' v.ownBlock) (hv : w'.ownsRow N 52 4 v' (L ++ [e]).length (trows (L ++ [e]))) {g : Nat} (hg1 : v'.ownBlock = some g) (hg2 : v.ownBlock = some g ∨ g = W.heap.size + 1) : TrsOwn w' N v' (L ++ [e]) := by
  have hs2 : W.heap.size ≤ w'.heap.size := Nat.le_trans (by simp) hg.size
  have hb : ∀ j, j < W.heap.size → v.ownBlock ≠ some j → w'.heap[j]? = W.heap[j]? := fun j hj hne =>
    (hg.block j (by simp; omega) (fun e => hne e.symm)).trans (Below.heap_alloc W o j hj)
  refine ⟨hv, fun x hx => ?_⟩
  have hk : x.1.kids.length ≤ x.2.2 ∧ KidsAt W (fun b => N ≤ b ∧ b < W.heap.size ∧ v.ownBlock ≠ some b) x.2.1 x.1.kids := by
    rcases List.mem_append.1 hx with hx | hx
    · exact h.kids x hx
    · simp at hx; subst hx; exact he
  refine ⟨hk.1, hk.2.keep (fun b hb' => hb b hb'.2.1 hb'.2.2) fun b hb' => ⟨hb'.1, by omega, ?_⟩⟩
  rw [hg1]
  intro e1
  injection e1 with e1
  subst e1
  rcases hg2 with e2 | e2
  · exact hb'.2.2 e2
  · omega
/-- The row as a tree's Kids. -/
theorem TrsOwn.at {W : World} {N : Nat} {A : Option Addr} {n c : Nat} {L : List TrK} (h : TrsOwn W N (.slice A n c) L) : KidsAt W (fun b => N ≤ b ∧ b < W.heap.size) A (L.map (·.1)) := by
  rcases h.own.2 with ⟨_, h0⟩ | ⟨g, cap, cur, hv, hb, hg, hn, _⟩
  · exact .inl (List.eq_nil_of_length_eq_zero (by simpa using h0))
  · cases hv
    refine .inr ⟨g, 0, rfl, ⟨hb, (Array.getElem?_eq_some_iff.1 hg).1⟩, TrsAt.of fun k hk => ?_⟩
    rw [List.length_map] at hk
    have hcell : ∀ j, j < 4 → W.cell? ⟨g, k * 4 + j, none⟩ = (trow L[k])[j]? := fun j hj => by
      rw [h.own.cellAt (k * 4 + j) (by omega), trows_get L k j hk hj]
    have hkd := h.kids L[k] (List.getElem_mem hk)
    have h0 := hcell 0 (by omega)
    have h1 := hcell 1 (by omega)
    have h2 := hcell 2 (by omega)
    have h3 := hcell 3 (by omega)
    rw [List.getElem_map]
    obtain ⟨e, he⟩ : ∃ e, L[k] = e := ⟨_, rfl⟩
    rw [he] at h0 h1 h2 h3 hkd ⊢
    obtain ⟨t, A', c'⟩ := e
    cases t with
    | mk kd tg tx ks =>
      simp only [TrAt, Nat.zero_add]
      exact ⟨h0, h1, h2, A', c', h3, hkd.1, hkd.2.keep (fun _ _ => rfl) fun b hb => ⟨hb.1, hb.2.1⟩⟩
end Go.Proofs.YtdcbngimgpdjoaaDoor
/- How many nodes a tree has: expand.Count, and the reference's. Conditions: no more than a thousand million. -/
namespace Go.Proofs.YtdcbngimgpdjoaaDoor
open Go.RowKit Go.Shelf Go.Deep
attribute [local go_sem] Oper.semAt_some
theorem Tr.count_eq (t : Tr) : t.count = 1 + Tr.counts t.kids := by cases t; simp [Tr.count, Tr.kids]
theorem Tr.counts_take {l : List Tr} {k : Nat} (h : k < l.length) : Tr.counts (l.take (k + 1)) = Tr.counts (l.take k) + l[k].count := by
  rw [List.take_succ_eq_append_getElem h, Tr.counts_append]; simp [Tr.counts]
theorem Tr.counts_le (l : List Tr) (k : Nat) : Tr.counts (l.take k) ≤ Tr.counts l := by
  have : Tr.counts l = Tr.counts (l.take k) + Tr.counts (l.drop k) := by rw [← Tr.counts_append, List.take_append_drop]
  omega
theorem Tr.len_le (l : List Tr) : l.length ≤ Tr.counts l := by
  induction l with
  | nil => simp
  | cons x l ih => have := x.count_pos; simp only [Tr.counts, List.length_cons]; omega
set_option maxRecDepth 100000 in
set_option maxHeartbeats 4000000 in
theorem Count_any : ∀ (m : Nat) (t : Tr) (v : Value) (w : World), t.count ≤ m → t.count ≤ 1000000000 → TrV w (lo w.heap.size) t v → Calls Tryd.prog 42 #[v] w fun e w' => e = .returned (.int .i64 (t.count : Nat)) ∧ Below w.heap.size w w' := by
  intro m
  induction m with
  | zero => intro t v w h; have := t.count_pos; omega
  | succ m ih =>
    intro t v w hm hb ht
    have HI : Hid (∀ u ∈ t.kids, ∀ (W : World) (x : Value), TrV W (lo W.heap.size) u x → Calls Tryd.prog 42 #[x] W fun e w' => e = .returned (.int .i64 (u.count : Nat)) ∧ Below W.heap.size W w') := fun u hu W x hx => ih u x W (by have := Tr.count_kid hu; omega) (by have := Tr.count_kid hu; omega) hx
    obtain ⟨A, c, rfl, hlc, hk⟩ := ht
    have HC : Hid (t.count = 1 + Tr.counts t.kids) := t.count_eq
    have hbK : Hid (Tr.counts t.kids ≤ 1000000000) := by have := HC.out; show _ ≤ _; omega
    have Hk := Lib.hid hk
    have Hl : Hid (t.kids.length ≤ 1000000000) := by have := Tr.len_le t.kids; have := hbK.out; show _ ≤ _; omega
    rw [HC.out]
    obtain ⟨ks, hks⟩ : ∃ l, t.kids = l := ⟨_, rfl⟩
    rw [hks] at HI hbK Hk Hl ⊢
    clear ih hm hb hk hlc HC hks
    go_enter Tryd.func42, Tryd.ntmps42
    go_wp2_with fail
    obtain ⟨V, hV⟩ : ∃ V, w.alloc (.cells #[.int .i64 t.kind, .string t.tag, .string t.text, .slice A ks.length c] 52) = V := ⟨_, rfl⟩
    have hbV : Below w.heap.size w V := by rw [← hV]; exact (Below.refl _ w).alloc (Nat.le_refl _) _
    rw [hV]
    have HbV := Lib.hid hbV
    clear hV hbV
    go_loopw [3, 9] (fun n j wr => ∃ q : Nat, q ≤ ks.length ∧ n = .int .i64 ((1 + Tr.counts (ks.take q) : Nat) : Int) ∧ j = .int .i64 (q : Int) ∧ Hid (Below w.heap.size w wr)) (fun _ j _ => ks.length - (intOf j).toNat)
    case atStart => exact ⟨0, Nat.zero_le _, by simp [Tr.counts], rfl, HbV⟩
    case round =>
      obtain ⟨q, hq, rfl, rfl, hbw⟩ := hrel
      by_cases hlt : q < ks.length
      · have hkw := Hk.out.below hbw.out (Nat.le_refl _)
        obtain ⟨b, o, rfl, hbl, hkd⟩ := hkw.kid (by omega)
        obtain ⟨A', c', k0, k1, k2, k3, k4, k5⟩ := hkd q hlt
        have hct := Tr.counts_take hlt
        have hcl := Tr.counts_le ks (q + 1)
        have hmem : ks[q] ∈ ks := List.getElem_mem hlt
        obtain ⟨u, hu⟩ : ∃ u, ks[q] = u := ⟨_, rfl⟩
        rw [hu] at k0 k1 k2 k3 k4 k5 hct hmem
        obtain ⟨U, hU⟩ : ∃ U, wr.alloc (.cells #[.int .i64 u.kind, .string u.tag, .string u.text, .slice A' u.kids.length c'] 52) = U := ⟨_, rfl⟩
        have hbU : Below wr.heap.size wr U := by rw [← hU]; exact (Below.refl _ wr).alloc (Nat.le_refl _) _
        have hrU : U.heap[wr.heap.size]? = some (.cells #[.int .i64 u.kind, .string u.tag, .string u.text, .slice A' u.kids.length c'] 52 (0, 0)) := by rw [← hU]; exact heap_alloc_new wr _
        have hwr := hbw.out.size
        have HCl := Lib.hid (HI.out u hmem U (.agg #[.int .i64 u.kind, .string u.tag, .string u.text, .slice A' u.kids.length c']) ⟨A', c', rfl, k4, k5.below (hbU.mono hwr) (Nat.le_trans hwr hbU.size)⟩)
        have HbU := Lib.hid (below_then hbw.out hbU)
        have u0 := Lib.cell_of_heap hrU 0
        have u1 := Lib.cell_of_heap hrU 1
        have u2 := Lib.cell_of_heap hrU 2
        have u3 := Lib.cell_of_heap hrU 3
        have hlt' : (q : Int) < (ks.length : Int) := by omega
        obtain ⟨n0, hn0⟩ : ∃ n, 1 + Tr.counts (ks.take q) = n := ⟨_, rfl⟩
        have hnn : 1 + Tr.counts (ks.take (q + 1)) = n0 + u.count := by omega
        have HN := Lib.hid hnn
        have hadd : Hid (wrap64 ((n0 : Int) + (u.count : Int)) = ((n0 + u.count : Nat) : Int)) := by
          show _ = _
          rw [Int.natCast_add]
          refine IntWalk.wrap64_in _ ?_
          have := hbK.out
          omega
        rw [hn0]
        have Hlt := Lib.hid hlt
        have hmz : ∀ z : Int, z = q + 1 → ks.length - (intOf (.int .i64 z)).toNat < ks.length - (intOf (.int .i64 (q : Int))).toNat := by intro z hz; subst hz; have := Hlt.out; simp only [intOf]; omega
        have HWr : Hid (wrap64 ((q : Int) + 1) = q + 1) := by
          show _ = _
          refine IntWalk.wrap64_in _ ?_
          have := Hlt.out
          have := Hl.out
          omega
        clear hkw hkd hct hcl hmem hu k4 k5 hbU hrU hwr hlt hq hbw hbl hnn hn0
        go_wp2_with (go_at_call 42; refine HCl.out.mono ?_; rintro e w1 ⟨rfl, hb1⟩; have Hb1 := Lib.hid (below_then HbU.out hb1); clear hb1)
        first
          | exact ⟨⟨q + 1, Hlt.out, (by rw [HN.out]; exact congrArg (Value.int .i64) hadd.out), by simp, Hb1⟩, hmz _ rfl⟩
          | exact ⟨⟨q + 1, Hlt.out, (by rw [HN.out]; exact congrArg (Value.int .i64) hadd.out), congrArg (Value.int .i64) (HWr.out.trans (by simp)), Hb1⟩, hmz _ HWr.out⟩
      · obtain rfl : q = ks.length := by omega
        have hd : ¬ (ks.length : Int) < (ks.length : Int) := by omega
        rw [List.take_length]
        clear hlt hq
        go_wp2_with fail
        go_ret
        exact ⟨rfl, hbw.out⟩
set_option maxRecDepth 100000 in
set_option maxHeartbeats 4000000 in
theorem RCount_any : ∀ (m : Nat) (t : Tr) (v : Value) (w : World), t.count ≤ m → t.count ≤ 1000000000 → TrV w (lo w.heap.size) t v → Calls Tryd.prog 43 #[v] w fun e w' => e = .returned (.int .i64 (t.count : Nat)) ∧ Below w.heap.size w w' := by
  intro m
  induction m with
  | zero => intro t v w h; have := t.count_pos; omega
  | succ m ih =>
    intro t v w hm hb ht
    have HI : Hid (∀ u ∈ t.kids, ∀ (W : World) (x : Value), TrV W (lo W.heap.size) u x → Calls Tryd.prog 43 #[x] W fun e w' => e = .returned (.int .i64 (u.count : Nat)) ∧ Below W.heap.size W w') := fun u hu W x hx => ih u x W (by have := Tr.count_kid hu; omega) (by have := Tr.count_kid hu; omega) hx
    obtain ⟨A, c, rfl, hlc, hk⟩ := ht
    have HC : Hid (t.count = 1 + Tr.counts t.kids) := t.count_eq
    have hbK : Hid (Tr.counts t.kids ≤ 1000000000) := by have := HC.out; show _ ≤ _; omega
    have Hk := Lib.hid hk
    have Hl : Hid (t.kids.length ≤ 1000000000) := by have := Tr.len_le t.kids; have := hbK.out; show _ ≤ _; omega
    rw [HC.out]
    obtain ⟨ks, hks⟩ : ∃ l, t.kids = l := ⟨_, rfl⟩
    rw [hks] at HI hbK Hk Hl ⊢
    clear ih hm hb hk hlc HC hks
    go_enter Tryd.func43, Tryd.ntmps43
    go_wp2_with fail
    obtain ⟨V, hV⟩ : ∃ V, w.alloc (.cells #[.int .i64 t.kind, .string t.tag, .string t.text, .slice A ks.length c] 52) = V := ⟨_, rfl⟩
    have hbV : Below w.heap.size w V := by rw [← hV]; exact (Below.refl _ w).alloc (Nat.le_refl _) _
    rw [hV]
    have hrV : V.heap[w.heap.size]? = some (.cells #[.int .i64 t.kind, .string t.tag, .string t.text, .slice A ks.length c] 52 (0, 0)) := by rw [← hV]; exact heap_alloc_new w _
    have HVc : Hid (∀ W, Below V.heap.size V W → W.cell? ⟨w.heap.size, 3, none⟩ = some (.slice A ks.length c) ∧ Below w.heap.size w W) := fun W hW => ⟨Lib.cell_of_heap ((hW.block _ (Array.getElem?_eq_some_iff.1 hrV).1).trans hrV) 3, below_then hbV hW⟩
    have HbV : Hid (Below V.heap.size V V) := Below.refl _ _
    clear hV hbV hrV
    go_loopw [3, 4] (fun n j wr => ∃ q : Nat, q ≤ ks.length ∧ n = .int .i64 ((1 + Tr.counts (ks.take q) : Nat) : Int) ∧ j = .int .i64 (q : Int) ∧ Hid (Below V.heap.size V wr)) (fun _ j _ => ks.length - (intOf j).toNat)
    case atStart => exact ⟨0, Nat.zero_le _, by simp [Tr.counts], rfl, HbV⟩
    case round =>
      obtain ⟨q, hq, rfl, rfl, hbV⟩ := hrel
      obtain ⟨v3, hbw0⟩ := HVc.out wr hbV.out
      have hbw := Lib.hid hbw0
      clear hbw0
      by_cases hlt : q < ks.length
      · have hkw := Hk.out.below hbw.out (Nat.le_refl _)
        obtain ⟨b, o, rfl, hbl, hkd⟩ := hkw.kid (by omega)
        obtain ⟨A', c', k0, k1, k2, k3, k4, k5⟩ := hkd q hlt
        have hct := Tr.counts_take hlt
        have hcl := Tr.counts_le ks (q + 1)
        have hmem : ks[q] ∈ ks := List.getElem_mem hlt
        obtain ⟨u, hu⟩ : ∃ u, ks[q] = u := ⟨_, rfl⟩
        rw [hu] at k0 k1 k2 k3 k4 k5 hct hmem
        have hwr := hbw.out.size
        have HCl := Lib.hid (HI.out u hmem wr (.agg #[.int .i64 u.kind, .string u.tag, .string u.text, .slice A' u.kids.length c']) ⟨A', c', rfl, k4, k5.keep (fun _ _ => rfl) fun _ hlt => Nat.lt_of_lt_of_le hlt hwr⟩)
        have hlt' : (q : Int) < (ks.length : Int) := by omega
        obtain ⟨n0, hn0⟩ : ∃ n, 1 + Tr.counts (ks.take q) = n := ⟨_, rfl⟩
        have hnn : 1 + Tr.counts (ks.take (q + 1)) = n0 + u.count := by omega
        have HN := Lib.hid hnn
        have hadd : Hid (wrap64 ((n0 : Int) + (u.count : Int)) = ((n0 + u.count : Nat) : Int)) := by
          show _ = _
          rw [Int.natCast_add]
          refine IntWalk.wrap64_in _ ?_
          have := hbK.out
          omega
        rw [hn0]
        have Hlt := Lib.hid hlt
        have hmz : ∀ z : Int, z = q + 1 → ks.length - (intOf (.int .i64 z)).toNat < ks.length - (intOf (.int .i64 (q : Int))).toNat := by intro z hz; subst hz; have := Hlt.out; simp only [intOf]; omega
        have HWr : Hid (wrap64 ((q : Int) + 1) = q + 1) := by
          show _ = _
          refine IntWalk.wrap64_in _ ?_
          have := Hlt.out
          have := Hl.out
          omega
        clear hkw hkd hct hcl hmem hu k4 k5 hwr hlt hq hbw hbl hnn hn0
        go_wp2_with (go_at_call 43; refine HCl.out.mono ?_; rintro e w1 ⟨rfl, hb1⟩; have Hb1 := Lib.hid (below_then hbV.out hb1); clear hb1)
        first
          | exact ⟨⟨q + 1, Hlt.out, (by rw [HN.out]; exact congrArg (Value.int .i64) hadd.out), by simp, Hb1⟩, hmz _ rfl⟩
          | exact ⟨⟨q + 1, Hlt.out, (by rw [HN.out]; exact congrArg (Value.int .i64) hadd.out), congrArg (Value.int .i64) (HWr.out.trans (by simp)), Hb1⟩, hmz _ HWr.out⟩
      · obtain rfl : q = ks.length := by omega
        have hd : ¬ (ks.length : Int) < (ks.length : Int) := by omega
        rw [List.take_length]
        clear hlt hq
        go_wp2_with fail
        go_ret
        exact ⟨rfl, hbw.out⟩
end Go.Proofs.YtdcbngimgpdjoaaDoor
/- The reference's SameTree at one tree that lies twice. Condition: no more than a thousand million nodes. -/
namespace Go.Proofs.YtdcbngimgpdjoaaDoor
open Go.RowKit Go.Shelf Go.Deep
attribute [local go_sem] Oper.semAt_some
set_option maxRecDepth 100000 in
set_option maxHeartbeats 4000000 in
theorem SameTree_any : ∀ (m : Nat) (t : Tr) (v v2 : Value) (w : World), t.count ≤ m → t.count ≤ 1000000000 → TrV w (lo w.heap.size) t v → TrV w (lo w.heap.size) t v2 → Calls Tryd.prog 41 #[v, v2] w fun e w' => e = .returned (.bool true) ∧ Below w.heap.size w w' := by
  intro m
  induction m with
  | zero => intro t v v2 w h; have := t.count_pos; omega
  | succ m ih =>
    intro t v v2 w hm hb ht ht2
    have HI : Hid (∀ u ∈ t.kids, ∀ (W : World) (x y : Value), TrV W (lo W.heap.size) u x → TrV W (lo W.heap.size) u y → Calls Tryd.prog 41 #[x, y] W fun e w' => e = .returned (.bool true) ∧ Below W.heap.size W w') := fun u hu W x y hx hy => ih u x y W (by have := Tr.count_kid hu; omega) (by have := Tr.count_kid hu; omega) hx hy
    obtain ⟨A, c, rfl, hlc, hk⟩ := ht
    obtain ⟨A2, c2, rfl, hlc2, hk2⟩ := ht2
    have Hk := Lib.hid hk
    have Hk2 := Lib.hid hk2
    have Hl : Hid (t.kids.length ≤ 1000000000) := by have := Tr.len_le t.kids; have := t.count_eq; show _ ≤ _; omega
    obtain ⟨ks, hks⟩ : ∃ l, t.kids = l := ⟨_, rfl⟩
    rw [hks] at HI Hk Hk2 Hl ⊢
    have e1 : (t.tag.toList != t.tag.toList) = false := by simp
    have e2 : (t.text.toList != t.text.toList) = false := by simp
    obtain ⟨V, hV, hbV, hrV, hsV⟩ : ∃ V, w.alloc (.cells #[.int .i64 t.kind, .string t.tag, .string t.text, .slice A ks.length c] 52) = V ∧ Below w.heap.size w V ∧ V.heap[w.heap.size]? = some (.cells #[.int .i64 t.kind, .string t.tag, .string t.text, .slice A ks.length c] 52 (0, 0)) ∧ V.heap.size = w.heap.size + 1 :=
      ⟨_, rfl, (Below.refl _ w).alloc (Nat.le_refl _) _, heap_alloc_new w _, by simp⟩
    obtain ⟨X, hX, hbX, hrX, hsX⟩ : ∃ X, V.alloc (.cells #[.int .i64 t.kind, .string t.tag, .string t.text, .slice A2 ks.length c2] 52) = X ∧ Below V.heap.size V X ∧ X.heap[V.heap.size]? = some (.cells #[.int .i64 t.kind, .string t.tag, .string t.text, .slice A2 ks.length c2] 52 (0, 0)) ∧ X.heap.size = V.heap.size + 1 :=
      ⟨_, rfl, (Below.refl _ V).alloc (Nat.le_refl _) _, heap_alloc_new V _, by simp⟩
    have hrV2 := (hbX.block w.heap.size (by omega)).trans hrV
    rw [hsV] at hrX
    have a0 := Lib.cell_of_heap hrV2 0
    have a1 := Lib.cell_of_heap hrV2 1
    have a2 := Lib.cell_of_heap hrV2 2
    have a3 := Lib.cell_of_heap hrV2 3
    have b0 := Lib.cell_of_heap hrX 0
    have b1 := Lib.cell_of_heap hrX 1
    have b2 := Lib.cell_of_heap hrX 2
    have b3 := Lib.cell_of_heap hrX 3
    have HVc : Hid (∀ W, Below X.heap.size X W → W.cell? ⟨w.heap.size, 3, none⟩ = some (.slice A ks.length c) ∧ W.cell? ⟨w.heap.size + 1, 3, none⟩ = some (.slice A2 ks.length c2) ∧ Below w.heap.size w W) := fun W hW => ⟨Lib.cell_of_heap ((hW.block _ (by omega)).trans hrV2) 3, Lib.cell_of_heap ((hW.block _ (by omega)).trans hrX) 3, below_then hbV (below_then hbX hW)⟩
    have Hb0 : Hid (Below X.heap.size X X) := Below.refl _ _
    clear ih hm hb hk hlc hk2 hlc2 hks hbV hrV hbX hrX hrV2 hsX
    go_enter Tryd.func41, Tryd.ntmps41
    go_wp2_with fail
    clear a0 a1 a2 a3 b0 b1 b2 b3 hV hX e1 e2
    rw [show w.heap.size + 1 = V.heap.size from hsV.symm] at *
    go_loopw [5] (fun j wr => ∃ q : Nat, q ≤ ks.length ∧ j = .int .i64 (q : Int) ∧ Hid (Below X.heap.size X wr)) (fun j _ => ks.length - (intOf j).toNat)
    case atStart => exact ⟨0, Nat.zero_le _, rfl, Hb0⟩
    case round =>
      obtain ⟨q, hq, rfl, hbX⟩ := hrel
      obtain ⟨v3, v4, hbw⟩ := HVc.out wr hbX.out
      by_cases hlt : q < ks.length
      · have hwr := hbw.size
        obtain ⟨b, o, rfl, hbl, hkd⟩ := (Hk.out.below hbw (Nat.le_refl _)).kid (by omega)
        obtain ⟨A', c', k0, k1, k2, k3, k4, k5⟩ := hkd q hlt
        obtain ⟨b', o', rfl, hbl', hkd'⟩ := (Hk2.out.below hbw (Nat.le_refl _)).kid (by omega)
        obtain ⟨A2', c2', m0, m1, m2, m3, m4, m5⟩ := hkd' q hlt
        have hmem : ks[q] ∈ ks := List.getElem_mem hlt
        obtain ⟨u, hu⟩ : ∃ u, ks[q] = u := ⟨_, rfl⟩
        rw [hu] at k0 k1 k2 k3 k4 k5 m0 m1 m2 m3 m4 m5 hmem
        have HCl := Lib.hid (HI.out u hmem wr.drew (.agg #[.int .i64 u.kind, .string u.tag, .string u.text, .slice A' u.kids.length c']) (.agg #[.int .i64 u.kind, .string u.tag, .string u.text, .slice A2' u.kids.length c2'])
          ⟨A', c', rfl, k4, k5.keep (fun _ _ => rfl) fun _ hlt => Nat.lt_of_lt_of_le hlt hwr⟩ ⟨A2', c2', rfl, m4, m5.keep (fun _ _ => rfl) fun _ hlt => Nat.lt_of_lt_of_le hlt hwr⟩)
        have hlt' : (q : Int) < (ks.length : Int) := by omega
        have hq0 : (0 : Int) ≤ (q : Int) := Int.natCast_nonneg q
        have Hlt := Lib.hid hlt
        have hmz : ∀ z : Int, z = q + 1 → ks.length - (intOf (.int .i64 z)).toNat < ks.length - (intOf (.int .i64 (q : Int))).toNat := by intro z hz; subst hz; have := Hlt.out; simp only [intOf]; omega
        have HWr : Hid (wrap64 ((q : Int) + 1) = q + 1) := by
          show _ = _
          refine IntWalk.wrap64_in _ ?_
          have := Hlt.out
          have := Hl.out
          omega
        have HkS : Hid (∀ W, Below wr.heap.size wr W → W.cell? ⟨w.heap.size, 3, none⟩ = some (.slice (some ⟨b, o, none⟩) ks.length c) ∧ W.cell? ⟨V.heap.size, 3, none⟩ = some (.slice (some ⟨b', o', none⟩) ks.length c2) ∧ W.cell? ⟨b, o + q * 4, none⟩ = some (.int .i64 u.kind) ∧ W.cell? ⟨b, o + q * 4 + 1, none⟩ = some (.string u.tag) ∧ W.cell? ⟨b, o + q * 4 + 2, none⟩ = some (.string u.text) ∧ W.cell? ⟨b, o + q * 4 + 3, none⟩ = some (.slice A' u.kids.length c') ∧
            W.cell? ⟨b', o' + q * 4, none⟩ = some (.int .i64 u.kind) ∧ W.cell? ⟨b', o' + q * 4 + 1, none⟩ = some (.string u.tag) ∧ W.cell? ⟨b', o' + q * 4 + 2, none⟩ = some (.string u.text) ∧ W.cell? ⟨b', o' + q * 4 + 3, none⟩ = some (.slice A2' u.kids.length c2')) := fun W hW => by
          have key : ∀ (p : Addr) x, wr.cell? p = some x → W.cell? p = some x := fun p x hx => (hW.cell (p := p) (World.block_lt_of_cell? wr p hx)).trans hx
          exact ⟨key _ _ v3, key _ _ v4, key _ _ k0, key _ _ k1, key _ _ k2, key _ _ k3, key _ _ m0, key _ _ m1, key _ _ m2, key _ _ m3⟩
        clear hkd hkd' hmem hu k4 k5 m4 m5 hwr hlt hq hbw hbl hbl'
        go_wp2_with fail
        go_region_held3 (fun W => W.cell? ⟨w.heap.size, 3, none⟩ = some (.slice (some ⟨b, o, none⟩) ks.length c) ∧ W.cell? ⟨V.heap.size, 3, none⟩ = some (.slice (some ⟨b', o', none⟩) ks.length c2) ∧ W.cell? ⟨b, o + q * 4, none⟩ = some (.int .i64 u.kind) ∧ W.cell? ⟨b, o + q * 4 + 1, none⟩ = some (.string u.tag) ∧ W.cell? ⟨b, o + q * 4 + 2, none⟩ = some (.string u.text) ∧ W.cell? ⟨b, o + q * 4 + 3, none⟩ = some (.slice A' u.kids.length c') ∧
            W.cell? ⟨b', o' + q * 4, none⟩ = some (.int .i64 u.kind) ∧ W.cell? ⟨b', o' + q * 4 + 1, none⟩ = some (.string u.tag) ∧ W.cell? ⟨b', o' + q * 4 + 2, none⟩ = some (.string u.text) ∧ W.cell? ⟨b', o' + q * 4 + 3, none⟩ = some (.slice A2' u.kids.length c2')) (first | exact HkS.out _ (Below.refl _ wr).drew | exact HkS.out _ Hb1.out.1) (first | (go_at_call 41; refine HCl.out.mono ?_; rintro e w1 ⟨rfl, hb1⟩; have Hb1 : Hid (Below wr.heap.size wr w1 ∧ Below X.heap.size X w1) := ⟨Below.trans (Below.refl _ wr).drew hb1, below_then hbX.out (Below.trans (Below.refl _ wr).drew hb1)⟩; clear hb1))
        have Hb2 : Hid (Below X.heap.size X w1) := Hb1.out.2
        clear k0 k1 k2 k3 m0 m1 m2 m3 v3 v4
        go_wp2_with fail
        first
          | exact ⟨⟨q + 1, Hlt.out, by simp, Hb2⟩, hmz _ rfl⟩
          | exact ⟨⟨q + 1, Hlt.out, congrArg (Value.int .i64) (HWr.out.trans (by simp)), Hb2⟩, hmz _ HWr.out⟩
      · obtain rfl : q = ks.length := by omega
        have hd : ¬ (ks.length : Int) < (ks.length : Int) := by omega
        clear hlt hq
        go_wp2_with fail
        go_ret
        exact ⟨rfl, hbw⟩
end Go.Proofs.YtdcbngimgpdjoaaDoor
