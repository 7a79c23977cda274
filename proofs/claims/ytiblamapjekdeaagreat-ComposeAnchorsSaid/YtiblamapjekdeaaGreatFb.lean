/- A family of rows that a call owns, no two in one block: append, store, shorten. No condition but the sizes. -/
import Derived.Test.YtiblamapjekdeaaGreatZs
import Derived.Maps.AppendAt
import Derived.Deep.Slices
import Derived.Deep.Fields
import Derived.ChangeSame
import Derived.Test.YtiblamapjekdeaaGreatEp
namespace Go.Proofs.YtiblamapjekdeaaGreat
open Go.RowKit
/-- A row that the call owns: its elements' type, their cells, the slice, its length, what lies in it. -/
structure ORow where
  e : TypeId
  s : Nat
  v : Value
  n : Nat
  xs : List Value
def ORow.At (W : World) (N : Nat) (r : ORow) : Prop := W.ownsRow N r.e r.s r.v r.n r.xs
structure Fam (W : World) (N : Nat) (R : Nat → ORow) : Prop where
  own : ∀ i, (R i).At W N
  sep : ∀ i j g, i ≠ j → (R i).v.ownBlock = some g → (R j).v.ownBlock ≠ some g
def upd (R : Nat → ORow) (i : Nat) (r : ORow) : Nat → ORow := fun j => if j = i then r else R j
theorem upd_same (R : Nat → ORow) (i : Nat) (r : ORow) : upd R i r i = r := if_pos rfl
theorem upd_other (R : Nat → ORow) {i j : Nat} (r : ORow) (h : j ≠ i) : upd R i r j = R j := if_neg h
/-- What turns while rows of a family grow: no block that is none of the rows'. -/
structure Turn (R R' : Nat → ORow) (W w' : World) : Prop where
  os : w'.os = W.os
  tape : w'.tape = W.tape
  output : w'.output = W.output
  size : W.heap.size ≤ w'.heap.size
  free : ∀ b, b < W.heap.size → (∀ i, (R i).v.ownBlock ≠ some b) → w'.heap[b]? = W.heap[b]? ∧ ∀ i, (R' i).v.ownBlock ≠ some b
theorem Turn.refl (R : Nat → ORow) (W : World) : Turn R R W W := ⟨rfl, rfl, rfl, Nat.le_refl _, fun _ _ h => ⟨rfl, h⟩⟩
theorem Turn.trans {R R' R'' : Nat → ORow} {a b c : World} (h : Turn R R' a b) (k : Turn R' R'' b c) : Turn R R'' a c :=
  ⟨k.os.trans h.os, k.tape.trans h.tape, k.output.trans h.output, Nat.le_trans h.size k.size, fun x hx hf => by
    obtain ⟨h1, h2⟩ := h.free x hx hf
    obtain ⟨k1, k2⟩ := k.free x (Nat.lt_of_lt_of_le hx h.size) h2
    exact ⟨k1.trans h1, k2⟩⟩
theorem Turn.of_below {W w' : World} (R : Nat → ORow) (h : Below W.heap.size W w') : Turn R R W w' := ⟨h.os, h.tape, h.output, h.size, fun b hb hf => ⟨h.block b hb, hf⟩⟩
theorem Fam.free {W : World} {N : Nat} {R : Nat → ORow} (h : Fam W N R) {b : Nat} (hb : b < N) : ∀ i, (R i).v.ownBlock ≠ some b := fun i e => by
  have := ((h.own i).lt b e).1
  omega
theorem Fam.fresh {W : World} {N : Nat} {R : Nat → ORow} (h : Fam W N R) {b : Nat} (hb : W.heap.size ≤ b) : ∀ i, (R i).v.ownBlock ≠ some b := fun i e => by
  have := ((h.own i).lt b e).2
  omega
theorem Turn.below {W w' : World} {N : Nat} {R R' : Nat → ORow} (h : Turn R R' W w') (hf : Fam W N R) (hN : N ≤ W.heap.size) : Below N W w' :=
  ⟨h.os, h.tape, h.output, h.size, fun b hb => (h.free b (by omega) (hf.free hb)).1⟩
theorem ownsRow_by {W w' : World} {N : Nat} {r : ORow} (h : r.At W N) (hb : ∀ g, r.v.ownBlock = some g → w'.heap[g]? = W.heap[g]?) : r.At w' N := by
  rcases h.2 with hn | ⟨g, cap, cur, hv, hB, hg, rest⟩
  · exact ⟨h.1, .inl hn⟩
  · exact ⟨h.1, .inr ⟨g, cap, cur, hv, hB, (hb g (by rw [hv]; rfl)).trans hg, rest⟩⟩
theorem Fam.below {W w' : World} {N : Nat} {R : Nat → ORow} (h : Fam W N R) (hb : Below W.heap.size W w') : Fam w' N R :=
  ⟨fun i => ownsRow_by (h.own i) fun g hg => hb.block g ((h.own i).lt g hg).2, h.sep⟩
/-- One row is written or grown, or lies anew. -/
theorem Fam.turn {W w' : World} {N : Nat} {R : Nat → ORow} (h : Fam W N R) (i : Nat) (r : ORow) (hg : W.grownBy w' (R i).v.ownBlock) (ho : r.At w' N) (hl : ∀ g, r.v.ownBlock = some g → (R i).v.ownBlock = some g ∨ W.heap.size ≤ g) :
    Fam w' N (upd R i r) ∧ Turn R (upd R i r) W w' := by
  refine ⟨⟨fun j => ?_, fun j k g hne hj hk => ?_⟩, hg.os, hg.tape, hg.output, hg.size, fun b hb hf => ⟨hg.block b hb fun e => hf i e.symm, fun j => ?_⟩⟩
  · by_cases e : j = i
    · subst e; rw [upd_same]; exact ho
    · rw [upd_other R r e]
      refine ownsRow_by (h.own j) fun g hj => hg.block g ((h.own j).lt g hj).2 fun e2 => h.sep j i g e hj e2.symm
  · by_cases e : j = i
    · subst e
      rw [upd_same] at hj
      rw [upd_other R r (fun e => hne e.symm)] at hk
      rcases hl g hj with h1 | h1
      · exact h.sep j k g hne h1 hk
      · have := ((h.own k).lt g hk).2; omega
    · rw [upd_other R r e] at hj
      by_cases e2 : k = i
      · subst e2
        rw [upd_same] at hk
        rcases hl g hk with h1 | h1
        · exact h.sep j k g hne hj h1
        · have := ((h.own j).lt g hj).2; omega
      · rw [upd_other R r e2] at hk
        exact h.sep j k g hne hj hk
  · by_cases e : j = i
    · subst e
      rw [upd_same]
      intro hb2
      rcases hl b hb2 with h1 | h1
      · exact hf j h1
      · omega
    · rw [upd_other R r e]; exact hf j
/-- A row's slice is cut, or left for nil: the world is as it was. -/
theorem Fam.less {W : World} {N : Nat} {R : Nat → ORow} (h : Fam W N R) (i : Nat) (r : ORow) (ho : r.At W N) (hl : ∀ g, r.v.ownBlock = some g → (R i).v.ownBlock = some g) : Fam W N (upd R i r) ∧ Turn R (upd R i r) W W :=
  h.turn i r ⟨rfl, rfl, rfl, Nat.le_refl _, fun _ _ _ => rfl⟩ ho fun g hg => .inl (hl g hg)
/-- A cell of a row is written. -/
theorem Fam.store {W : World} {N : Nat} {R : Nat → ORow} (h : Fam W N R) (i : Nat) {e : TypeId} {s n g cap : Nat} {xs : List Value} (hr : R i = ⟨e, s, .slice (some ⟨g, 0, none⟩) n cap, n, xs⟩) (j : Nat) (u : Value) :
    Fam (W.setCell ⟨g, j, none⟩ u) N (upd R i ⟨e, s, .slice (some ⟨g, 0, none⟩) n cap, n, xs.set j u⟩) ∧ Turn R (upd R i ⟨e, s, .slice (some ⟨g, 0, none⟩) n cap, n, xs.set j u⟩) W (W.setCell ⟨g, j, none⟩ u) := by
  have ho := h.own i
  rw [hr] at ho
  obtain ⟨h1, h2⟩ := World.ownsRow.stored ho j u
  have e1 : (R i).v.ownBlock = some g := by rw [hr]; rfl
  exact h.turn i _ (by rw [e1]; exact h2) h1 fun g' hg => .inl (by rw [e1]; exact hg)
theorem Fam.cell {W : World} {N : Nat} {R : Nat → ORow} (h : Fam W N R) (i : Nat) {e : TypeId} {s n g cap : Nat} {xs : List Value} (hr : R i = ⟨e, s, .slice (some ⟨g, 0, none⟩) n cap, n, xs⟩) {j : Nat} {u : Value} (hj : xs[j]? = some u) (hjn : j < n * s) :
    W.cell? ⟨g, j, none⟩ = some u ∧ W.frozen? ⟨g, j, none⟩ = false ∧ g < W.heap.size := by
  have ho := h.own i
  rw [hr] at ho
  exact ⟨(World.ownsRow.cellAt ho j hjn).trans hj, World.ownsRow.frozenAt ho j, (World.ownsRow.lt ho g rfl).2⟩
/-- What a row's slice looks like. -/
theorem Fam.form {W : World} {N : Nat} {R : Nat → ORow} (h : Fam W N R) (i : Nat) {n : Nat} (hn : (R i).n = n) : ((R i).v = .slice none 0 0 ∧ n = 0) ∨ ∃ g cap, (R i).v = .slice (some ⟨g, 0, none⟩) n cap ∧ n ≤ cap ∧ N ≤ g ∧ g < W.heap.size := by
  subst hn
  rcases (h.own i).2 with hn | ⟨g, cap, cur, hv, hB, hg, hc, _⟩
  · exact .inl hn
  · exact .inr ⟨g, cap, hv, hc, hB, (Array.getElem?_eq_some_iff.1 hg).1⟩
theorem Fam.formA {W : World} {N : Nat} {R : Nat → ORow} (h : Fam W N R) (i : Nat) {n : Nat} (hn : (R i).n = n) : ∃ A c, (R i).v = .slice A n c ∧ n ≤ c := by
  rcases h.form i hn with ⟨h1, rfl⟩ | ⟨g, cap, h1, h2, _⟩
  · exact ⟨none, 0, h1, by omega⟩
  · exact ⟨_, cap, h1, h2⟩
/-- 'append' of one element to a row of the family, in a world in which more blocks lie. -/
theorem Fam.app {W Wx : World} {N : Nat} {R : Nat → ORow} (h : Fam W N R) (hx : Below W.heap.size W Wx) (hN : N ≤ W.heap.size) (i : Nat) {t e : TypeId} {s n bytes : Nat} {v : Value} {xs : List Value} (hr : R i = ⟨e, s, v, n, xs⟩)
    (ht : Tryz.prog.underlying t = some (.slice e)) {z : Value} (hinfo : (Tryz.prog.info? e).map (fun i => (i.zero, i.size, i.bytes)) = some (some z, s, bytes)) (hzs : z.cells.size = s) (hsz : 0 < s) (hby : bytes ≤ 1000)
    (n0 : Nat) (fr : Nat × Nat) (news : List Value) (hl : news.length = s) (hn : Wx.heap[n0]? = some (.cells news.toArray e fr)) (h1 : ∀ u ∈ news, u.oneCell' = true) (hnn : n ≤ 4000000) :
    ∃ A c w', (Builtin.append_ #[t, t] t #[v, .slice (some ⟨n0, 0, none⟩) 1 1]).run Tryz.prog Wx = .ok (.slice A (n + 1) c) w' ∧ n + 1 ≤ c ∧
      Fam w' N (upd R i ⟨e, s, .slice A (n + 1) c, n + 1, xs ++ news⟩) ∧ Turn R (upd R i ⟨e, s, .slice A (n + 1) c, n + 1, xs ++ news⟩) W w' := by
  obtain ⟨i0, hi, hz0, hz1, hz2⟩ := info_parts hinfo
  have hf := h.below hx
  have hsz2 := hx.size
  have ho := hf.own i
  rw [hr] at ho
  have hb2 : (n + 1) * bytes ≤ 140737488355328 := Nat.le_trans (Nat.mul_le_mul (show n + 1 ≤ 4000001 by omega) hby) (by decide)
  obtain ⟨v', w', hrun, h2, h3, _, h5⟩ := run_append_own_at (P := Tryz.prog) Wx N t t e i0 z s bytes ht hi hz0 hz1 hz2 hzs hsz v n xs ho ⟨n0, 0, none⟩ 1 1 news (by omega) (fun j u hj => by
    rw [Addr.add_lit, Nat.zero_add, Lib.cell_of_heap hn j]
    simpa using hj) h1 (by unfold maxLen; omega) hb2 (by omega)
  have h2' : ORow.At w' N ⟨e, s, v', n + 1, xs ++ news⟩ := h2
  obtain ⟨q1, q2⟩ := hf.turn i ⟨e, s, v', n + 1, xs ++ news⟩ (by rw [hr]; exact h3) h2' (fun g hg => by
    rw [hr]
    rcases h5 with h5 | h5
    · exact .inl (h5.symm.trans hg)
    · have : some g = some Wx.heap.size := hg.symm.trans h5
      injection this with this
      exact .inr (by omega))
  have q3 : Turn R (upd R i ⟨e, s, v', n + 1, xs ++ news⟩) W w' := (Turn.of_below R hx).trans q2
  rcases h2.2 with ⟨_, h0⟩ | ⟨g, cap, cur, rfl, _, _, hc, _⟩
  · omega
  · exact ⟨_, cap, w', hrun, hc, q1, q3⟩
/-- A row's slice, cut to less. -/
theorem ORow.cut {W : World} {N : Nat} {e : TypeId} {s g n cap m : Nat} {xs : List Value} (h : ORow.At W N ⟨e, s, .slice (some ⟨g, 0, none⟩) n cap, n, xs⟩) (hm : m ≤ n) : ORow.At W N ⟨e, s, .slice (some ⟨g, 0, none⟩) m cap, m, xs.take (m * s)⟩ := by
  have hlen : xs.length = n * s := h.1
  have hms : m * s ≤ n * s := Nat.mul_le_mul_right _ hm
  refine ⟨by show (xs.take (m * s)).length = m * s; rw [List.length_take, hlen, Nat.min_eq_left hms], ?_⟩
  rcases h.2 with ⟨h', _⟩ | ⟨g', cap', cur, h', hB, hg, hc, hcm, hcs, ht⟩
  · cases h'
  · cases h'
    refine .inr ⟨g, cap, cur, rfl, hB, hg, Nat.le_trans hm hc, hcm, hcs, ?_⟩
    show cur.toList.take (m * s) = xs.take (m * s)
    have ht' : cur.toList.take (n * s) = xs := ht
    rw [← ht', List.take_take, Nat.min_eq_left hms]
end Go.Proofs.YtiblamapjekdeaaGreat
/- Nodes and graphs as the walks take them: a node lies in five cells, its Kids in a row of their own. No condition. -/
namespace Go.Proofs.YtiblamapjekdeaaGreat
open Go.ChangeShapes Go.WideShapes Go.ChangeAt Go.RowKit Go.Deep
structure Nd where
  kind : Int
  tag : ByteArray
  text : ByteArray
  kids : List Int
  plain : Bool
instance : Inhabited Nd := ⟨⟨0, ⟨#[]⟩, ⟨#[]⟩, [], false⟩⟩
/-- Its numbers are ints, its texts and its Kids no longer than an int. -/
structure Nd.ok (e : Nd) : Prop where
  kind : (Lit.int .i64 e.kind).wf = true
  tag : e.tag.size ≤ maxLen
  text : e.text.size ≤ maxLen
  kids : e.kids.length ≤ maxLen
  each : ∀ z ∈ e.kids, (Lit.int .i64 z).wf = true
/-- A node's value, its Kids at K of room c. -/
def Nd.row (e : Nd) (K : Option Addr) (c : Nat) : Array Value := #[.int .i64 e.kind, .string e.tag, .string e.text, .slice K e.kids.length c, .bool e.plain]
/-- A node lies at a place, its Kids at K. -/
structure NdAt (w : World) (B b o : Nat) (e : Nd) (K : Option Addr) (c : Nat) : Prop where
  c0 : w.cell? ⟨b, o, none⟩ = some (.int .i64 e.kind)
  c1 : w.cell? ⟨b, o + 1, none⟩ = some (.string e.tag)
  c2 : w.cell? ⟨b, o + 2, none⟩ = some (.string e.text)
  c3 : w.cell? ⟨b, o + 3, none⟩ = some (.slice K e.kids.length c)
  c4 : w.cell? ⟨b, o + 4, none⟩ = some (.bool e.plain)
  kids : IntsAt w B K e.kids
  room : e.kids.length ≤ c
  nil : K = none → c = 0
theorem NdAt.below {w w' : World} {B B' b o : Nat} {e : Nd} {K : Option Addr} {c : Nat} (h : NdAt w B b o e K c) (hb : Below B' w w') (hB : B ≤ B') (hbB : b < B) : NdAt w' B b o e K c := by
  have hB' : b < B' := Nat.lt_of_lt_of_le hbB hB
  exact ⟨(hb.cell (p := ⟨b, o, none⟩) hB').trans h.c0, (hb.cell (p := ⟨b, o + 1, none⟩) hB').trans h.c1, (hb.cell (p := ⟨b, o + 2, none⟩) hB').trans h.c2,
    (hb.cell (p := ⟨b, o + 3, none⟩) hB').trans h.c3, (hb.cell (p := ⟨b, o + 4, none⟩) hB').trans h.c4, h.kids.below hb hB, h.room, h.nil⟩
theorem NdAt.more {w : World} {B B' b o : Nat} {e : Nd} {K : Option Addr} {c : Nat} (h : NdAt w B b o e K c) (hB : B ≤ B') : NdAt w B' b o e K c := ⟨h.c0, h.c1, h.c2, h.c3, h.c4, h.kids.more hB, h.room, h.nil⟩
def nd (L : List Nd) (k : Nat) : Nd := L.getD k default
theorem nd_eq {l : List Nd} {k : Nat} (h : k < l.length) : nd l k = l[k] := by simp [nd, h]
theorem nd_mem {l : List Nd} {k : Nat} (h : k < l.length) : nd l k ∈ l := by rw [nd_eq h]; exact List.getElem_mem h
/-- The nodes L lie from A on, they and their Kids in blocks below B. -/
def NdsAt (w : World) (B : Nat) (A : Option Addr) (L : List Nd) : Prop :=
  0 < L.length → ∃ b off, A = some ⟨b, off, none⟩ ∧ b < B ∧ ∀ k, k < L.length → ∃ K c, NdAt w B b (off + k * 5) (nd L k) K c
theorem NdsAt.nil {w : World} {B : Nat} {A : Option Addr} : NdsAt w B A [] := fun h => by simp at h
theorem NdsAt.below {w w' : World} {B B' : Nat} {A : Option Addr} {L : List Nd} (h : NdsAt w B A L) (hb : Below B' w w') (hB : B ≤ B') : NdsAt w' B A L := fun hz => by
  obtain ⟨b, off, rfl, hlt, hc⟩ := h hz
  exact ⟨b, off, rfl, hlt, fun k hk => by obtain ⟨K, c, hn⟩ := hc k hk; exact ⟨K, c, hn.below hb hB hlt⟩⟩
theorem NdsAt.more {w : World} {B B' : Nat} {A : Option Addr} {L : List Nd} (h : NdsAt w B A L) (hB : B ≤ B') : NdsAt w B' A L := fun hz => by
  obtain ⟨b, off, rfl, hlt, hc⟩ := h hz
  exact ⟨b, off, rfl, Nat.lt_of_lt_of_le hlt hB, fun k hk => by obtain ⟨K, c, hn⟩ := hc k hk; exact ⟨K, c, hn.more hB⟩⟩
structure Gr where
  nodes : List Nd
  roots : List Int
/-- A graph's value, with what lies where. -/
structure GrAt (w : World) (B : Nat) (G : Gr) (v : Value) : Prop where
  ex : ∃ NA nc RA rc, v = .agg #[.slice NA G.nodes.length nc, .slice RA G.roots.length rc] ∧ NdsAt w B NA G.nodes ∧ IntsAt w B RA G.roots
theorem GrAt.below {w w' : World} {B B' : Nat} {G : Gr} {v : Value} (h : GrAt w B G v) (hb : Below B' w w') (hB : B ≤ B') : GrAt w' B G v := by
  obtain ⟨NA, nc, RA, rc, hv, hN, hR⟩ := h.ex
  exact ⟨NA, nc, RA, rc, hv, hN.below hb hB, hR.below hb hB⟩
theorem GrAt.more {w : World} {B B' : Nat} {G : Gr} {v : Value} (h : GrAt w B G v) (hB : B ≤ B') : GrAt w B' G v := by
  obtain ⟨NA, nc, RA, rc, hv, hN, hR⟩ := h.ex
  exact ⟨NA, nc, RA, rc, hv, hN.more hB, hR.more hB⟩
/-- A box of two cells, new. -/
theorem box2 (w : World) (v0 v1 : Value) (t : TypeId) : ∃ V, w.alloc (.cells #[v0, v1] t) = V ∧ Below w.heap.size w V ∧ V.heap[w.heap.size]? = some (.cells #[v0, v1] t (0, 0)) ∧ V.heap.size = w.heap.size + 1 :=
  ⟨_, rfl, (Below.refl _ w).alloc (Nat.le_refl _) _, heap_alloc_new w _, by simp⟩
end Go.Proofs.YtiblamapjekdeaaGreat
/- Making a graph of events: plain Lean. No condition. -/
namespace Go.Proofs.YtiblamapjekdeaaGreat
/-- What has been made: the nodes, the roots, what is open, the names. -/
structure Mk where
  nodes : List Nd
  roots : List Int
  way : List Nat
  names : List (ByteArray × Nat)
def mk0 : Mk := ⟨[], [], [], []⟩
/-- What a name was last given to. -/
def look (l : List (ByteArray × Nat)) (s : ByteArray) : Option Nat := l.foldl (fun r p => if p.1 = s then some p.2 else r) none
theorem look_snoc (l : List (ByteArray × Nat)) (p : ByteArray × Nat) (s : ByteArray) : look (l ++ [p]) s = if p.1 = s then some p.2 else look l s := by simp [look]
def addKid (i : Int) (e : Nd) : Nd := { e with kids := e.kids ++ [i] }
/-- A node is put among the Kids of what is open, or among the roots. -/
def place (i : Nat) (s : Mk) : Mk :=
  match s.way.getLast? with
  | none => { s with roots := s.roots ++ [(i : Int)] }
  | some u => { s with nodes := s.nodes.modify u (addKid i) }
/-- A new node. -/
def newNode (e : Nd) (a : ByteArray) (s : Mk) : Mk :=
  let t := place s.nodes.length { s with nodes := s.nodes ++ [e] }
  if a.size = 0 then t else { t with names := t.names ++ [(a, s.nodes.length)] }
def nodeK (x : Ev) : Nd := ⟨if x.kind = 3 then 2 else if x.kind = 5 then 3 else 1, x.tag, if x.kind = 7 then x.text else ⟨#[]⟩, [], x.kind == 7 && x.style == 1⟩
/-- One event, within limits. -/
def mkStep (d n : Nat) (s : Mk) (x : Ev) : Except Int Mk :=
  if x.kind = 1 then .ok { s with names := [] }
  else if x.kind = 3 ∨ x.kind = 5 then
    if d ≤ s.way.length then .error 8
    else if n ≤ s.nodes.length then .error 9
    else .ok { newNode (nodeK x) x.anchor s with way := s.way ++ [s.nodes.length] }
  else if x.kind = 4 ∨ x.kind = 6 then .ok { s with way := s.way.dropLast }
  else if x.kind = 7 then
    if n ≤ s.nodes.length then .error 9 else .ok (newNode (nodeK x) x.anchor s)
  else if x.kind = 8 then
    match look s.names x.anchor with
    | none => .error 10
    | some i => .ok (place i s)
  else .ok s
def mkAll (d n : Nat) : Mk → List Ev → Except Int Mk
  | s, [] => .ok s
  | s, x :: l => match mkStep d n s x with
    | .error e => .error e
    | .ok t => mkAll d n t l
/-- What comes of it all. -/
def mkG (L : List Ev) (d n : Nat) : Gr × Int :=
  if rightsB L then match mkAll d n mk0 L with
    | .error e => (⟨[], []⟩, e)
    | .ok s => (⟨s.nodes, s.roots⟩, 0)
  else (⟨[], []⟩, 1)
/-- All that is open is there. -/
structure Mk.Ok (s : Mk) : Prop where
  way : ∀ u ∈ s.way, u < s.nodes.length
  names : ∀ p ∈ s.names, p.2 < s.nodes.length
theorem look_mem : ∀ (l : List (ByteArray × Nat)) (s : ByteArray) (i : Nat) (r : Option Nat), l.foldl (fun r p => if p.1 = s then some p.2 else r) r = some i → r = some i ∨ ∃ p ∈ l, p.2 = i := by
  intro l
  induction l with
  | nil => intro s i r h; exact .inl h
  | cons p l ih =>
    intro s i r h
    rcases ih s i _ h with h1 | ⟨q, hq, h1⟩
    · have h1 : (if p.1 = s then some p.2 else r) = some i := h1
      split at h1
      · exact .inr ⟨p, by simp, by simpa using h1⟩
      · exact .inl h1
    · exact .inr ⟨q, by simp [hq], h1⟩
theorem look_lt {s : Mk} (h : s.Ok) {a : ByteArray} {i : Nat} (hl : look s.names a = some i) : i < s.nodes.length := by
  rcases look_mem _ _ _ _ hl with h1 | ⟨p, hp, rfl⟩
  · cases h1
  · exact h.names p hp
theorem place_nodes (i : Nat) (s : Mk) : (place i s).nodes.length = s.nodes.length := by unfold place; split <;> simp
theorem place_way (i : Nat) (s : Mk) : (place i s).way = s.way := by unfold place; split <;> rfl
theorem place_names (i : Nat) (s : Mk) : (place i s).names = s.names := by unfold place; split <;> rfl
theorem newNode_nodes (e : Nd) (a : ByteArray) (s : Mk) : (newNode e a s).nodes.length = s.nodes.length + 1 := by
  unfold newNode; simp only; split <;> simp [place_nodes]
theorem newNode_way (e : Nd) (a : ByteArray) (s : Mk) : (newNode e a s).way = s.way := by
  unfold newNode; simp only; split <;> simp [place_way]
theorem newNode_names (e : Nd) (a : ByteArray) (s : Mk) : (newNode e a s).names = if a.size = 0 then s.names else s.names ++ [(a, s.nodes.length)] := by
  unfold newNode; simp only; split <;> simp [place_names]
theorem Mk.Ok.place {s : Mk} (h : s.Ok) (i : Nat) : (place i s).Ok := ⟨by rw [place_way, place_nodes]; exact h.way, by rw [place_names, place_nodes]; exact h.names⟩
theorem Mk.Ok.newNode {s : Mk} (h : s.Ok) (e : Nd) (a : ByteArray) : (newNode e a s).Ok := by
  refine ⟨by rw [newNode_way, newNode_nodes]; exact fun u hu => Nat.lt_succ_of_lt (h.way u hu), ?_⟩
  rw [newNode_names, newNode_nodes]
  intro p hp
  split at hp
  · exact Nat.lt_succ_of_lt (h.names p hp)
  · rcases List.mem_append.1 hp with hp | hp
    · exact Nat.lt_succ_of_lt (h.names p hp)
    · simp at hp; subst hp; exact Nat.lt_succ_self _
theorem Mk.Ok.step {d n : Nat} {s t : Mk} {x : Ev} (h : s.Ok) (hs : mkStep d n s x = .ok t) : t.Ok := by
  unfold mkStep at hs
  split at hs
  · cases hs; exact ⟨h.way, by simp⟩
  split at hs
  · split at hs
    · cases hs
    split at hs
    · cases hs
    · cases hs
      have k := h.newNode (nodeK x) x.anchor
      refine ⟨?_, k.names⟩
      show ∀ u ∈ s.way ++ [s.nodes.length], u < (Go.Proofs.YtiblamapjekdeaaGreat.newNode (nodeK x) x.anchor s).nodes.length
      rw [newNode_nodes]
      intro u hu
      rcases List.mem_append.1 hu with hu | hu
      · exact Nat.lt_succ_of_lt (h.way u hu)
      · simp at hu; omega
  split at hs
  · cases hs; exact ⟨fun u hu => h.way u (List.dropLast_subset _ hu), h.names⟩
  split at hs
  · split at hs
    · cases hs
    · cases hs; exact h.newNode _ _
  split at hs
  · split at hs
    · cases hs
    · cases hs; exact h.place _
  · cases hs; exact h
theorem mk0_ok : mk0.Ok := ⟨by simp [mk0], by simp [mk0]⟩
end Go.Proofs.YtiblamapjekdeaaGreat
/- What has been made of events, in memory: nodes, roots, what is open, each node's Kids, each in a row of its own. No condition but the sizes. -/
namespace Go.Proofs.YtiblamapjekdeaaGreat
open Go.RowKit
theorem Tryz.infoNodeF : (Tryz.prog.info? 46).map (fun i => (i.zero, i.size, i.bytes)) = some (some (.agg #[.int .i64 0, .string ⟨#[]⟩, .string ⟨#[]⟩, .slice none 0 0, .bool false]), 5, 72) := by kernel_rfl
def nrowF (v : Value) (e : Nd) : List Value := [.int .i64 e.kind, .string e.tag, .string e.text, v, .bool e.plain]
/-- The cells of nodes, the Kids' slices by number. -/
def nrowsF (K : Nat → Value) : Nat → List Nd → List Value
  | _, [] => []
  | k, e :: L => nrowF (K k) e ++ nrowsF K (k + 1) L
theorem nrowsF_len (K : Nat → Value) : ∀ (L : List Nd) (k : Nat), (nrowsF K k L).length = L.length * 5 := by
  intro L
  induction L with
  | nil => intro k; rfl
  | cons e L ih => intro k; simp only [nrowsF, List.length_append, ih, List.length_cons, nrowF, List.length_nil]; omega
theorem nrowsF_get (K : Nat → Value) : ∀ (L : List Nd) (k i j : Nat), i < L.length → j < 5 → (nrowsF K k L)[i * 5 + j]? = (nrowF (K (k + i)) (nd L i))[j]? := by
  intro L
  induction L with
  | nil => intro k i j h; simp at h
  | cons e L ih =>
    intro k i j h hj
    have hl : (nrowF (K k) e).length = 5 := rfl
    cases i with
    | zero => rw [nrowsF, List.getElem?_append_left (by omega)]; simp [nd]
    | succ i =>
      rw [nrowsF, List.getElem?_append_right (by omega), hl, show (i + 1) * 5 + j - 5 = i * 5 + j by omega, ih (k + 1) i j (by simpa using h) hj, show k + 1 + i = k + (i + 1) by omega]
      rfl
theorem nrowsF_snoc (K : Nat → Value) (e : Nd) : ∀ (L : List Nd) (k : Nat), nrowsF K k (L ++ [e]) = nrowsF K k L ++ nrowF (K (k + L.length)) e := by
  intro L
  induction L with
  | nil => intro k; simp [nrowsF]
  | cons a L ih => intro k; simp only [List.cons_append, nrowsF, ih, List.append_assoc, List.length_cons]; rw [show k + 1 + L.length = k + (L.length + 1) by omega]
theorem nrowsF_congr {K K' : Nat → Value} : ∀ (L : List Nd) (k : Nat), (∀ i, i < L.length → K (k + i) = K' (k + i)) → nrowsF K k L = nrowsF K' k L := by
  intro L
  induction L with
  | nil => intro k _; rfl
  | cons a L ih =>
    intro k h
    simp only [nrowsF]
    have h0 := h 0 (by simp)
    rw [Nat.add_zero] at h0
    rw [h0, ih (k + 1) fun i hi => by have := h (i + 1) (by simpa using hi); rwa [show k + 1 + i = k + (i + 1) by omega]]
theorem nd_modify (L : List Nd) (u i : Nat) (f : Nd → Nd) (hu : u < L.length) : nd (L.modify u f) i = if i = u then f (nd L u) else nd L i := by
  simp only [nd, List.getD_eq_getElem?_getD, List.getElem?_modify]
  by_cases e : i = u
  · subst e; simp [hu]
  · have e2 : u ≠ i := fun h => e h.symm
    simp [e, e2]
/-- A node's Kids grow: one cell turns. -/
theorem nrowsF_kid {K : Nat → Value} {L : List Nd} {u : Nat} (hu : u < L.length) (v : Value) (i : Int) : nrowsF (fun k => if k = u then v else K k) 0 (L.modify u (addKid i)) = (nrowsF K 0 L).set (u * 5 + 3) v := by
  apply List.ext_getElem?
  intro j
  by_cases hj : j < L.length * 5
  · obtain ⟨q, r, hr, rfl⟩ : ∃ q r, r < 5 ∧ j = q * 5 + r := ⟨j / 5, j % 5, Nat.mod_lt _ (by omega), by omega⟩
    have hq : q < L.length := by omega
    rw [nrowsF_get _ (L.modify u (addKid i)) 0 q r (by simpa using hq) hr, nd_modify _ _ _ _ hu, List.getElem?_set, nrowsF_len, nrowsF_get _ L 0 q r hq hr]
    simp only [Nat.zero_add]
    by_cases e : q = u
    · subst e
      simp only [if_true]
      match r, hr with
      | 0, _ => rw [if_neg (by omega)]; rfl
      | 1, _ => rw [if_neg (by omega)]; rfl
      | 2, _ => rw [if_neg (by omega)]; rfl
      | 3, _ => rw [if_pos rfl, if_pos (by omega)]; rfl
      | 4, _ => rw [if_neg (by omega)]; rfl
    · rw [if_neg e, if_neg e, if_neg (by omega)]
  · rw [List.getElem?_eq_none (by rw [nrowsF_len]; simp; omega), List.getElem?_eq_none (by rw [List.length_set, nrowsF_len]; omega)]
def wcells (l : List Nat) : List Value := l.map fun (n : Nat) => Value.int .i64 (n : Int)
/-- What has been made lies in rows of a family: nodes, roots, what is open, and each node's Kids from row 4 on. Row 3 is free for what else there is. -/
structure MkAt (W : World) (N : Nat) (s : Mk) (R : Nat → ORow) : Prop where
  fam : Fam W N R
  nodes : R 0 = ⟨46, 5, (R 0).v, s.nodes.length, nrowsF (fun k => (R (4 + k)).v) 0 s.nodes⟩
  roots : R 1 = ⟨3, 1, (R 1).v, s.roots.length, zcells s.roots⟩
  way : R 2 = ⟨3, 1, (R 2).v, s.way.length, wcells s.way⟩
  kids : ∀ k, R (4 + k) = ⟨3, 1, (R (4 + k)).v, (nd s.nodes k).kids.length, zcells (nd s.nodes k).kids⟩
  rest : ∀ k, s.nodes.length ≤ k → (R (4 + k)).v = .slice none 0 0
theorem nd_over {L : List Nd} {k : Nat} (h : L.length ≤ k) : nd L k = default := by simp [nd, List.getElem?_eq_none h]
theorem MkAt.of {W w' : World} {N : Nat} {s : Mk} {R : Nat → ORow} (h : MkAt W N s R) (hf : Fam w' N R) : MkAt w' N s R := ⟨hf, h.nodes, h.roots, h.way, h.kids, h.rest⟩
theorem MkAt.below {W w' : World} {N : Nat} {s : Mk} {R : Nat → ORow} (h : MkAt W N s R) (hb : Below W.heap.size W w') : MkAt w' N s R := h.of (h.fam.below hb)
/-- Row 3 turns. -/
theorem MkAt.third {W w' : World} {N : Nat} {s : Mk} {R : Nat → ORow} {r : ORow} (h : MkAt W N s R) (hf : Fam w' N (upd R 3 r)) : MkAt w' N s (upd R 3 r) := by
  have e : ∀ k, upd R 3 r (4 + k) = R (4 + k) := fun k => upd_other _ _ (by omega)
  refine ⟨hf, ?_, ?_, ?_, fun k => ?_, fun k hk => ?_⟩
  · simp only [e]; rw [upd_other _ _ (by omega)]; exact h.nodes
  · rw [upd_other _ _ (by omega)]; exact h.roots
  · rw [upd_other _ _ (by omega)]; exact h.way
  · rw [e]; exact h.kids k
  · rw [e]; exact h.rest k hk
/-- The row of what is open turns. -/
theorem MkAt.ways {W w' : World} {N : Nat} {s : Mk} {R : Nat → ORow} {v : Value} {l : List Nat} (h : MkAt W N s R) (hf : Fam w' N (upd R 2 ⟨3, 1, v, l.length, wcells l⟩)) : MkAt w' N { s with way := l } (upd R 2 ⟨3, 1, v, l.length, wcells l⟩) := by
  have e : ∀ k, upd R 2 ⟨3, 1, v, l.length, wcells l⟩ (4 + k) = R (4 + k) := fun k => upd_other _ _ (by omega)
  refine ⟨hf, ?_, ?_, ?_, fun k => ?_, fun k hk => ?_⟩
  · simp only [e]; rw [upd_other _ _ (by omega)]; exact h.nodes
  · rw [upd_other _ _ (by omega)]; exact h.roots
  · rw [upd_same]
  · rw [e]; exact h.kids k
  · rw [e]; exact h.rest k hk
theorem MkAt.root {W w' : World} {N : Nat} {s : Mk} {R : Nat → ORow} {v : Value} {l : List Int} (h : MkAt W N s R) (hf : Fam w' N (upd R 1 ⟨3, 1, v, l.length, zcells l⟩)) : MkAt w' N { s with roots := l } (upd R 1 ⟨3, 1, v, l.length, zcells l⟩) := by
  have e : ∀ k, upd R 1 ⟨3, 1, v, l.length, zcells l⟩ (4 + k) = R (4 + k) := fun k => upd_other _ _ (by omega)
  refine ⟨hf, ?_, ?_, ?_, fun k => ?_, fun k hk => ?_⟩
  · simp only [e]; rw [upd_other _ _ (by omega)]; exact h.nodes
  · rw [upd_same]
  · rw [upd_other _ _ (by omega)]; exact h.way
  · rw [e]; exact h.kids k
  · rw [e]; exact h.rest k hk
/-- A node more, without Kids. -/
theorem MkAt.node {W w' : World} {N : Nat} {s : Mk} {R : Nat → ORow} {v : Value} {e : Nd} (h : MkAt W N s R) (hk0 : e.kids = [])
    (hf : Fam w' N (upd R 0 ⟨46, 5, v, s.nodes.length + 1, nrowsF (fun k => (R (4 + k)).v) 0 s.nodes ++ nrowF (.slice none 0 0) e⟩)) :
    MkAt w' N { s with nodes := s.nodes ++ [e] } (upd R 0 ⟨46, 5, v, s.nodes.length + 1, nrowsF (fun k => (R (4 + k)).v) 0 s.nodes ++ nrowF (.slice none 0 0) e⟩) := by
  obtain ⟨r, hr⟩ : ∃ r : ORow, r = ⟨46, 5, v, s.nodes.length + 1, nrowsF (fun k => (R (4 + k)).v) 0 s.nodes ++ nrowF (.slice none 0 0) e⟩ := ⟨_, rfl⟩
  rw [← hr] at hf ⊢
  have e1 : ∀ k, upd R 0 r (4 + k) = R (4 + k) := fun k => upd_other _ _ (by omega)
  have hnd : ∀ k, (nd (s.nodes ++ [e]) k).kids = (nd s.nodes k).kids := fun k => by
    simp only [nd, List.getD_eq_getElem?_getD]
    by_cases hk : k < s.nodes.length
    · rw [List.getElem?_append_left hk]
    · rw [List.getElem?_append_right (by omega), List.getElem?_eq_none (by omega : s.nodes.length ≤ k)]
      by_cases hk2 : k - s.nodes.length = 0
      · rw [hk2]; simp [hk0]; rfl
      · rw [List.getElem?_eq_none (by simp; omega)]
  refine ⟨hf, ?_, ?_, ?_, fun k => ?_, fun k hk => ?_⟩
  · simp only [e1]
    rw [upd_same, nrowsF_snoc, List.length_append, List.length_singleton, Nat.zero_add, h.rest _ (Nat.le_refl _)]
    subst hr; rfl
  · rw [upd_other _ _ (by omega)]; exact h.roots
  · rw [upd_other _ _ (by omega)]; exact h.way
  · rw [e1]; show R (4 + k) = ⟨_, _, _, (nd (s.nodes ++ [e]) k).kids.length, zcells (nd (s.nodes ++ [e]) k).kids⟩; rw [hnd]; exact h.kids k
  · rw [e1]; exact h.rest k (by simp at hk; omega)
/-- A node's Kids grow, and its cell is written. -/
theorem MkAt.kid {W w' : World} {N : Nat} {s : Mk} {R : Nat → ORow} {v v0 : Value} {u : Nat} {i : Int} (h : MkAt W N s R) (hu : u < s.nodes.length)
    {R' : Nat → ORow} (hR : R' = upd (upd R (4 + u) ⟨3, 1, v, ((nd s.nodes u).kids ++ [i]).length, zcells ((nd s.nodes u).kids ++ [i])⟩) 0 ⟨46, 5, v0, s.nodes.length, (nrowsF (fun k => (R (4 + k)).v) 0 s.nodes).set (u * 5 + 3) v⟩) (hf : Fam w' N R') :
    MkAt w' N { s with nodes := s.nodes.modify u (addKid i) } R' := by
  have e1 : ∀ k, R' (4 + k) = if k = u then ⟨3, 1, v, ((nd s.nodes u).kids ++ [i]).length, zcells ((nd s.nodes u).kids ++ [i])⟩ else R (4 + k) := fun k => by
    rw [hR, upd_other _ _ (by omega)]
    by_cases e : k = u
    · subst e; rw [upd_same, if_pos rfl]
    · rw [upd_other _ _ (by omega), if_neg e]
  have e2 : (fun k => (R' (4 + k)).v) = fun k => if k = u then v else (R (4 + k)).v := funext fun k => by
    rw [e1]; split <;> rfl
  refine ⟨hf, ?_, ?_, ?_, fun k => ?_, fun k hk => ?_⟩
  · rw [e2]
    show R' 0 = ⟨_, _, _, (s.nodes.modify u (addKid i)).length, nrowsF (fun k => if k = u then v else (R (4 + k)).v) 0 (s.nodes.modify u (addKid i))⟩
    rw [nrowsF_kid hu, List.length_modify, hR, upd_same]
  · rw [hR, upd_other _ _ (by omega), upd_other _ _ (by omega)]; exact h.roots
  · rw [hR, upd_other _ _ (by omega), upd_other _ _ (by omega)]; exact h.way
  · show R' (4 + k) = ⟨_, _, _, (nd (s.nodes.modify u (addKid i)) k).kids.length, zcells (nd (s.nodes.modify u (addKid i)) k).kids⟩
    rw [nd_modify _ _ _ _ hu, e1]
    by_cases e : k = u
    · subst e; simp only [if_true]; rfl
    · rw [if_neg e, if_neg e]; exact h.kids k
  · have hk' : s.nodes.length ≤ k := by simpa using hk
    rw [e1, if_neg (by omega)]; exact h.rest k hk'
theorem MkAt.nodesForm {W : World} {N : Nat} {s : Mk} {R : Nat → ORow} (h : MkAt W N s R) : ∃ A c, (R 0).v = .slice A s.nodes.length c ∧ s.nodes.length ≤ c := h.fam.formA 0 (by rw [h.nodes])
theorem MkAt.rootsForm {W : World} {N : Nat} {s : Mk} {R : Nat → ORow} (h : MkAt W N s R) : ∃ A c, (R 1).v = .slice A s.roots.length c ∧ s.roots.length ≤ c := h.fam.formA 1 (by rw [h.roots])
theorem MkAt.wayForm {W : World} {N : Nat} {s : Mk} {R : Nat → ORow} (h : MkAt W N s R) : ∃ A c, (R 2).v = .slice A s.way.length c ∧ s.way.length ≤ c := h.fam.formA 2 (by rw [h.way])
theorem MkAt.kidsForm {W : World} {N : Nat} {s : Mk} {R : Nat → ORow} (h : MkAt W N s R) (k : Nat) : ∃ A c, (R (4 + k)).v = .slice A (nd s.nodes k).kids.length c ∧ (nd s.nodes k).kids.length ≤ c := h.fam.formA (4 + k) (by rw [h.kids k])
theorem zcells_ints {W : World} {N : Nat} {v : Value} {l : List Int} (h : ORow.At W N ⟨3, 1, v, l.length, zcells l⟩) : ∃ A c, v = .slice A l.length c ∧ l.length ≤ c ∧ IntsAt W W.heap.size A l ∧ (A = none → c = 0) := by
  have h' : W.ownsRow N 3 1 v l.length (zcells l) := h
  rcases h'.2 with ⟨rfl, h0⟩ | ⟨g, cap, cur, rfl, _, hg, hc, _⟩
  · rw [h0]
    exact ⟨none, 0, rfl, by simp, fun hz => by omega, fun _ => rfl⟩
  · refine ⟨_, cap, rfl, hc, fun _ => ⟨g, 0, rfl, (Array.getElem?_eq_some_iff.1 hg).1, fun k hk => ?_⟩, fun e => by cases e⟩
    have := h'.cells (g := g) rfl k (.int .i64 (nth l k)) (by simp [zcells, nth, hk])
    simpa [Addr.add_lit] using this
/-- The graph that has been made. -/
theorem MkAt.gr {W : World} {N : Nat} {s : Mk} {R : Nat → ORow} (h : MkAt W N s R) : GrAt W W.heap.size ⟨s.nodes, s.roots⟩ (.agg #[(R 0).v, (R 1).v]) := by
  have h1 := h.fam.own 1
  rw [h.roots] at h1
  obtain ⟨RA, rc, hr, _, hI, _⟩ := zcells_ints h1
  have hr' : (R 1).v = .slice RA s.roots.length rc := hr
  obtain ⟨NA, nc, hn, _⟩ := h.nodesForm
  refine ⟨NA, nc, RA, rc, by rw [hn, hr'], ?_, hI⟩
  intro hz
  have hz' : 0 < s.nodes.length := hz
  rcases h.fam.form 0 (n := s.nodes.length) (by rw [h.nodes]) with ⟨_, h0⟩ | ⟨g, cap, hv, _, _, hg⟩
  · omega
  · rw [hn] at hv
    cases hv
    refine ⟨g, 0, rfl, hg, fun k hk => ?_⟩
    have hk' : k < s.nodes.length := hk
    have hk4 := h.fam.own (4 + k)
    rw [h.kids k] at hk4
    obtain ⟨KA, kc, hkv, hkc, hkI, hkn⟩ := zcells_ints hk4
    have hkv' : (R (4 + k)).v = .slice KA (nd s.nodes k).kids.length kc := hkv
    have hR0 : R 0 = ⟨46, 5, .slice (some ⟨g, 0, none⟩) s.nodes.length nc, s.nodes.length, nrowsF (fun k => (R (4 + k)).v) 0 s.nodes⟩ := by rw [← hn]; exact h.nodes
    have hc : ∀ j u, j < 5 → (nrowF (R (4 + k)).v (nd s.nodes k))[j]? = some u → W.cell? ⟨g, 0 + k * 5 + j, none⟩ = some u := fun j u hj hu => by
      rw [Nat.zero_add]
      exact (h.fam.cell 0 hR0 (by rw [nrowsF_get _ _ 0 k j hk' hj, Nat.zero_add]; exact hu) (by omega)).1
    exact ⟨KA, kc, hc 0 _ (by omega) rfl, hc 1 _ (by omega) rfl, hc 2 _ (by omega) rfl, (hc 3 _ (by omega) rfl).trans (by rw [hkv']), hc 4 _ (by omega) rfl, hkI, hkc, hkn⟩
end Go.Proofs.YtiblamapjekdeaaGreat
