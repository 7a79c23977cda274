/- A row of events as the walks take it: a list of events that lies in a block below B. No condition. -/
import Derived.Test.YtiblamapjekdeaaGreatOpen
import Derived.Deep.Slices
import Derived.Deep.Fields
import Derived.ChangeSame
namespace Go.Proofs.YtiblamapjekdeaaGreat
open Go.ChangeShapes Go.WideShapes Go.ChangeAt Go.RowKit Go.Deep
structure Ev where
  kind : Int
  text : ByteArray
  tag : ByteArray
  anchor : ByteArray
  style : Int
  flag : Bool
namespace Ev
instance : Inhabited Ev := ⟨⟨0, ⟨#[]⟩, ⟨#[]⟩, ⟨#[]⟩, 0, false⟩⟩
/-- Its numbers are ints, its texts no longer than an int. -/
structure ok (e : Ev) : Prop where
  kind : (Lit.int .i64 e.kind).wf = true
  style : (Lit.int .i64 e.style).wf = true
  text : e.text.size ≤ maxLen
  tag : e.tag.size ≤ maxLen
  anchor : e.anchor.size ≤ maxLen
def row (e : Ev) : Array Value := #[.int .i64 e.kind, .string e.text, .string e.tag, .string e.anchor, .int .i64 e.style, .bool e.flag]
end Ev
/-- An event lies at a place. -/
structure EvAt (w : World) (b o : Nat) (e : Ev) : Prop where
  c0 : w.cell? ⟨b, o, none⟩ = some (.int .i64 e.kind)
  c1 : w.cell? ⟨b, o + 1, none⟩ = some (.string e.text)
  c2 : w.cell? ⟨b, o + 2, none⟩ = some (.string e.tag)
  c3 : w.cell? ⟨b, o + 3, none⟩ = some (.string e.anchor)
  c4 : w.cell? ⟨b, o + 4, none⟩ = some (.int .i64 e.style)
  c5 : w.cell? ⟨b, o + 5, none⟩ = some (.bool e.flag)
theorem EvAt.below {w w' : World} {b o B : Nat} {e : Ev} (h : EvAt w b o e) (hb : Below B w w') (hB : b < B) : EvAt w' b o e :=
  ⟨(hb.cell (p := ⟨b, o, none⟩) hB).trans h.c0, (hb.cell (p := ⟨b, o + 1, none⟩) hB).trans h.c1, (hb.cell (p := ⟨b, o + 2, none⟩) hB).trans h.c2,
    (hb.cell (p := ⟨b, o + 3, none⟩) hB).trans h.c3, (hb.cell (p := ⟨b, o + 4, none⟩) hB).trans h.c4, (hb.cell (p := ⟨b, o + 5, none⟩) hB).trans h.c5⟩
def evs (L : List Ev) (k : Nat) : Ev := L.getD k default
theorem evs_eq {l : List Ev} {k : Nat} (h : k < l.length) : evs l k = l[k] := by simp [evs, h]
theorem evs_mem {l : List Ev} {k : Nat} (h : k < l.length) : evs l k ∈ l := by rw [evs_eq h]; exact List.getElem_mem h
/-- The events L lie from A on, in a block below B. -/
def EvsAt (w : World) (B : Nat) (A : Option Addr) (L : List Ev) : Prop :=
  0 < L.length → ∃ b off, A = some ⟨b, off, none⟩ ∧ b < B ∧ ∀ k, k < L.length → EvAt w b (off + k * 6) (evs L k)
theorem EvsAt.nil {w : World} {B : Nat} {A : Option Addr} : EvsAt w B A [] := fun h => by simp at h
theorem EvsAt.below {w w' : World} {B B' : Nat} {A : Option Addr} {L : List Ev} (h : EvsAt w B A L) (hb : Below B' w w') (hB : B ≤ B') : EvsAt w' B A L := fun hz => by
  obtain ⟨b, off, rfl, hlt, hc⟩ := h hz
  exact ⟨b, off, rfl, hlt, fun k hk => (hc k hk).below hb (Nat.lt_of_lt_of_le hlt hB)⟩
theorem EvsAt.more {w : World} {B B' : Nat} {A : Option Addr} {L : List Ev} (h : EvsAt w B A L) (hB : B ≤ B') : EvsAt w B' A L := fun hz => by
  obtain ⟨b, off, rfl, hlt, hc⟩ := h hz
  exact ⟨b, off, rfl, Nat.lt_of_lt_of_le hlt hB, hc⟩
section
variable {H : Type} {enc : TypeId × Value → H} {P : Program} {W : World} {base : Nat}
theorem open_events {r : Reach} {b0 : Nat} {t e : TypeId} {f0 f1 f2 f3 f4 f5 : Field} {v : Value} {d : DataW H} {ps : List MemPlace} (ht : P.underlying t = some (.slice e)) (he : P.underlying e = some (.struct #[f0, f1, f2, f3, f4, f5]))
    (h0 : P.underlying f0.type = some (.int .i64)) (h1 : P.underlying f1.type = some .string) (h2 : P.underlying f2.type = some .string) (h3 : P.underlying f3.type = some .string) (h4 : P.underlying f4.type = some (.int .i64)) (h5 : P.underlying f5.type = some .bool)
    (hone : oneCellFields P #[f0, f1, f2, f3, f4, f5] = true) (hC : P.cellsOf e = 6)
    (hval : Value.okWide P W r b0 t v) (hd : DataW.Trod enc P W base (fun _ => true) true t v d ps) :
    ∃ A c L, v = .slice A (List.length L) c ∧ L.length ≤ c ∧ c ≤ maxLen ∧ EvsAt W W.heap.size A L ∧ (∀ x ∈ L, Ev.ok x) := by
  obtain ⟨a0, len, cap, rfl⟩ := okWide_slice ht hval
  obtain ⟨fuel, hf⟩ := hd
  rcases open_slice ht hf with ⟨hcs, hx⟩ | ⟨a, len', cap', m, n, D, Pl, hcs, _, hl, hm, hmm, _, hi⟩
  · simp [Value.cells] at hcs
    obtain ⟨rfl, rfl, rfl⟩ := hcs
    exact ⟨none, 0, [], rfl, by simp, by simp [maxLen], EvsAt.nil, by simp⟩
  · simp [Value.cells] at hcs
    obtain ⟨rfl, rfl, rfl⟩ := hcs
    have hstep : ∀ i, i < m → ∃ x : Ev, x.ok ∧ (∀ j (hj : j < 6), W.cell? (a.add (i * 6 + j)) = some (x.row[j]'(by simpa [Ev.row] using hj))) := by
      intro i him
      obtain ⟨cs', hc, ht'⟩ := hi i him
      rw [hC] at hc
      obtain ⟨ys, n', hn', hy, hlen, hyl, hf'⟩ := DataW.trod_struct he ht'
      obtain ⟨_, hcl, hat⟩ := World.cells?_some hc
      obtain ⟨o0, k0⟩ := hone_of hone 0 f0 rfl
      obtain ⟨o1, k1⟩ := hone_of hone 1 f1 rfl
      obtain ⟨o2, k2⟩ := hone_of hone 2 f2 rfl
      obtain ⟨o3, k3⟩ := hone_of hone 3 f3 rfl
      obtain ⟨o4, k4⟩ := hone_of hone 4 f4 rfl
      obtain ⟨o5, k5⟩ := hone_of hone 5 f5 rfl
      match cs', hcl with
      | [v0, v1, v2, v3, v4, v5], _ =>
      match ys, hyl with
      | [y0, y1, y2, y3, y4, y5], _ =>
        have g0 := hf' 0 f0 rfl
        have g1 := hf' 1 f1 rfl
        have g2 := hf' 2 f2 rfl
        have g3 := hf' 3 f3 rfl
        have g4 := hf' 4 f4 rfl
        have g5 := hf' 5 f5 rfl
        simp only [o0, k0, o1, k1, o2, k2, o3, k3, o4, k4, o5, k5, List.drop, List.take, List.getElem?_cons_zero, List.getElem?_cons_succ] at g0 g1 g2 g3 g4 g5
        obtain ⟨n0, e0, _, w0⟩ := DataW.trod_int h0 g0
        obtain ⟨s1, e1, _, w1⟩ := DataW.trod_string h1 g1
        obtain ⟨s2, e2, _, w2⟩ := DataW.trod_string h2 g2
        obtain ⟨s3, e3, _, w3⟩ := DataW.trod_string h3 g3
        obtain ⟨n4, e4, _, w4⟩ := DataW.trod_int h4 g4
        obtain ⟨b5, e5, _⟩ := DataW.trod_bool h5 g5
        simp only [List.cons.injEq, and_true] at e0 e1 e2 e3 e4 e5
        subst e0 e1 e2 e3 e4 e5
        refine ⟨⟨n0, s1, s2, s3, n4, b5⟩, ⟨w0, w4, w1, w2, w3⟩, fun j hj => ?_⟩
        have h := hat j hj
        rw [Go.Deep.add_add] at h
        rw [h]
        match j, hj with
        | 0, _ => rfl
        | 1, _ => rfl
        | 2, _ => rfl
        | 3, _ => rfl
        | 4, _ => rfl
        | 5, _ => rfl
    have hm1 : len ≤ m := by rw [hmm]; simpa using hl
    have hex : ∃ f : Nat → Ev, ∀ i, i < m → (f i).ok ∧ (∀ j (hj : j < 6), W.cell? (a.add (i * 6 + j)) = some ((f i).row[j]'(by simpa [Ev.row] using hj))) := by
      have h : ∀ i, ∃ x : Ev, i < m → x.ok ∧ (∀ j (hj : j < 6), W.cell? (a.add (i * 6 + j)) = some (x.row[j]'(by simpa [Ev.row] using hj))) := fun i => by
        by_cases hi' : i < m
        · obtain ⟨x, hx⟩ := hstep i hi'; exact ⟨x, fun _ => hx⟩
        · exact ⟨default, fun h => (hi' h).elim⟩
      exact ⟨fun i => Classical.choose (h i), fun i => Classical.choose_spec (h i)⟩
    obtain ⟨f, hf2⟩ := hex
    refine ⟨some a, cap, (List.range len).map f, by simp, by simpa using hl, hm, ?_, ?_⟩
    · intro h0
      have h0' : 0 < len := by simpa using h0
      obtain ⟨b, off, sh⟩ := a
      have hc0 := (hf2 0 (by omega)).2 0 (by omega)
      cases sh with
      | some x => simp only [Addr.add, World.cell?] at hc0; split at hc0 <;> simp_all
      | none =>
        have hb : b < W.heap.size := World.block_lt_of_cell? W _ (by simpa using hc0)
        refine ⟨b, off, rfl, hb, fun k hk => ?_⟩
        have hk' : k < len := by simpa using hk
        have he : evs ((List.range len).map f) k = f k := by simp [evs, hk']
        rw [he]
        have hg := (hf2 k (by omega)).2
        have ea : ∀ j, (⟨b, off, none⟩ : Addr).add (k * 6 + j) = ⟨b, off + k * 6 + j, none⟩ := fun j => by
          simp only [Addr.add]; split <;> simp_all
        simp only [ea] at hg
        exact ⟨hg 0 (by omega), hg 1 (by omega), hg 2 (by omega), hg 3 (by omega), hg 4 (by omega), hg 5 (by omega)⟩
    · intro x hx
      obtain ⟨i, hi', rfl⟩ := List.mem_map.1 hx
      exact (hf2 i (by have := List.mem_range.1 hi'; omega)).1
end
end Go.Proofs.YtiblamapjekdeaaGreat
