/- A range over a function where the iterator writes cells of its own: one law, from the library's law of the statement, in which the iterator's walk and the body's share an invariant of the caller's choice. No condition. -/
import Derived.Test.YtnofdlpifpjlbaaDoorAux
import Derived.RangeFuncNested
import Derived.RangeFuncBound
import Derived.RangeFuncCalls
import Derived.RangeFuncLeaves
import Derived.Shelf.Abstract
import Derived.Shelf.RegionOpen
import Derived.OwnWalkIn
import Derived.TacticsInMore
import Derived.LoopNIn
import Derived.LoopIn
namespace Go.Proofs.YtnofdlpifpjlbaaDoor
open Go.RowKit Go.Shelf
/-- A block that holds no cells, laid since B, may turn: the predicate abides. -/
def Calm (B : Nat) (p : World → Prop) : Prop := ∀ (W : World) (l : Nat) (o o' : Obj), B ≤ l → W.heap[l]? = some o → o.isCells = false → p W → p (W.putObj l o')
theorem Calm.and {B : Nat} {p q : World → Prop} (hp : Calm B p) (hq : Calm B q) : Calm B (fun W => p W ∧ q W) := fun W l o o' hl h hc hs => ⟨hp W l o o' hl h hc hs.1, hq W l o o' hl h hc hs.2⟩
theorem Calm.ex {B : Nat} {α : Type} {p : α → World → Prop} (hp : ∀ x, Calm B (p x)) : Calm B (fun W => ∃ x, p x W) := fun W l o o' hl h hc ⟨x, hs⟩ => ⟨x, hp x W l o o' hl h hc hs⟩
theorem Calm.pure {B : Nat} {p : Prop} : Calm B (fun _ => p) := fun _ _ _ _ _ _ _ hs => hs
theorem Calm.below {B n : Nat} {w : World} (hn : n ≤ B) : Calm B (fun W => Below n w W) := fun W l o o' hl h _ hs =>
  ⟨hs.os, hs.tape, hs.output, by simpa using hs.size, fun k hk => (World.putObj_heap_other (by omega)).trans (hs.block k hk)⟩
theorem Calm.cell {B : Nat} {a : Addr} {v : Value} : Calm B (fun W => W.cell? a = some v) := fun W l o o' _ h hc hs => by
  obtain ⟨o2, ho2, hc2⟩ := cells_of_cell hs
  have hne : a.block ≠ l := by rintro rfl; rw [h] at ho2; cases ho2; rw [hc] at hc2; cases hc2
  exact (World.cell?_of_block (World.putObj_heap_other hne)).trans hs
theorem Calm.row {B g : Nat} {cs : Array Value} {t : TypeId} {fr : Nat × Nat} : Calm B (fun W => W.heap[g]? = some (.cells cs t fr)) := fun W l o o' _ h hc hs => by
  have hs' : W.heap[g]? = some (.cells cs t fr) := hs
  have hne : g ≠ l := by rintro rfl; rw [h] at hs'; cases hs'; cases hc
  exact (World.putObj_heap_other hne).trans hs
theorem Calm.owns {B base : Nat} {e : TypeId} {size n : Nat} {v : Value} {xs : List Value} : Calm B (fun W => W.ownsRow base e size v n xs) := fun W l o o' _ h hc hs => by
  refine hs.kept (grownBy_putObj' W l o') ?_
  rcases hs.2 with ⟨rfl, _⟩ | ⟨g, cap, cur, rfl, _, hg, _⟩
  · exact .inl rfl
  · refine .inr ?_
    intro e
    have e' : g = l := by simpa [Value.ownBlock] using e
    subst e'
    rw [h] at hg; cases hg; cases hc
theorem keeps_of_below {W W' : World} (h : Below W.heap.size W W') : KeepsOthers W W' := ⟨h.size, fun k _o hk _ => (h.block k (Array.getElem?_eq_some_iff.1 hk).1).trans hk⟩
/-- How a round may be left. -/
def roundEnd {β : Type} (Af : β → World → Prop) (Lv : Code → β → World → Prop) (s : β) (W : World) : Exit → Act → World → Prop
  | .normal, _, W' => KeepsOthers W W' ∧ Af s W'
  | .ret, _, W' => KeepsOthers W W' ∧ Lv .ret s W'
  | .exit id, _, W' => KeepsOthers W W' ∧ Lv (.exit id) s W'
  | .goto t, _, W' => KeepsOthers W W' ∧ Lv (.goto t) s W'
  | .panic _, _, _ => False
  | .outgrown, _, _ => False
variable {F : Fence} {n : Nat} {P : Program}
theorem range_law {β : Type} {g : Operand} {ps : Array Tmp} {assign body : Code} {Q : Exit → Act → World → Prop} {a : Act} {w : World}
    (hro : F.round = none) (h1 : 1 ≤ n) {gf : Nat} {lb : Array Value} (hg : a.eval g = .func (.func gf) #[] lb) (hFg : F.fn gf) (eg : ∀ args w, (callFunc gf args).run P w = .ok (.enter gf args) w)
    (encs : β → Array Value) (hps : ∀ s, (encs s).size = ps.size)
    (Rd Af : β → World → Prop) (Lv : Code → β → World → Prop) (Fin : World → Prop) (Lx : Code → World → Prop)
    (cRd : ∀ s, Calm w.heap.size (Rd s)) (cAf : ∀ s, Calm w.heap.size (Af s)) (cLv : ∀ c s, Calm w.heap.size (Lv c s)) (cFin : Calm w.heap.size Fin) (cLx : ∀ c, Calm w.heap.size (Lx c))
    (a₁ : β → Act)
    (hassign : ∀ (l : Nat) (s : β) (W : World) (K : Act → World → Prop), K (a₁ s) W →
      assign.wpIn (F.inRound l) (n - 1 - 1) P (Exit.then K (fun _ _ _ => False)) { tmps := (ps.zip (encs s)).foldl (fun t (p, v) => t.setIfInBounds p v) a.tmps, defers := [] } W)
    (hbody : ∀ (l : Nat) (s : β) (W : World), Rd s W → body.wpIn (F.inRound l) (n - 1 - 1) P (roundEnd Af Lv s W) (a₁ s) W)
    (hiter : ∀ (l : Nat) (Bk : World → Prop) (Bx : Code → World → Prop) (o : Obj), (∀ A B, KeepsOthers A B → Bk A → Bk B) → (∀ c A B, KeepsOthers A B → Bx c A → Bx c B) →
      (∀ s W, Rd s W → Bk W → YieldAt F (n - 1 - 1) P l (encs s) W fun e W' => (e = .returned (.bool true) ∧ Af s W' ∧ Bk W') ∨ (e = .returned (.bool false) ∧ ∃ c, Lv c s W' ∧ Bx c W')) →
      Bk ((w.alloc (.deferred (some []))).alloc o) →
      CallsIn F (n - 1) P gf (#[.func (.yield l) #[] #[]] ++ lb) ((w.alloc (.deferred (some []))).alloc o) fun e W' => (∃ v, e = .returned v) ∧ ((Fin W' ∧ Bk W') ∨ (∃ c, Lx c W' ∧ Bx c W')))
    (hdone : ∀ (D : Nat) (W : World), w.heap.size ≤ D → Fin W → W.heap[D]? = some (.deferred (some [])) → Q .normal { a with defers := { target := .collected D, args := #[] } :: a.defers } W)
    (hstop : ∀ (D : Nat) (c : Code) (W : World), w.heap.size ≤ D → Lx c W → W.heap[D]? = some (.deferred (some [])) → c.wpIn F n P Q { a with defers := { target := .collected D, args := #[] } :: a.defers } W) :
    (Code.rangeFunc g ps assign body).wpIn F n P Q a w := by
  refine wpIn_rangeFunc fun fn hfn => ?_
  rw [hro]
  let rec_ : LoopState → Option Code → Loop := fun st pe => { state := st, pending := pe, fn, tmps := a.tmps, params := ps, assign, body, defers := w.heap.size }
  let Bk : World → Prop := fun W => W.heap[w.heap.size + 1]? = some (.loop (rec_ .ready none)) ∧ W.heap[w.heap.size]? = some (.deferred (some []))
  let Bx : Code → World → Prop := fun c W => W.heap[w.heap.size + 1]? = some (.loop (rec_ .done (some c))) ∧ W.heap[w.heap.size]? = some (.deferred (some []))
  have hL1 : ((w.alloc (.deferred (some []))).alloc (.loop (rec_ .ready none))).heap[w.heap.size + 1]? = some (.loop (rec_ .ready none)) := by
    have h := World.alloc_heap_new (w.alloc (.deferred (some []))) (.loop (rec_ .ready none))
    rwa [World.size_alloc] at h
  have hK1 : ((w.alloc (.deferred (some []))).alloc (.loop (rec_ .ready none))).heap[w.heap.size]? = some (.deferred (some [])) :=
    (Below.heap_alloc _ _ _ (by simp)).trans (World.alloc_heap_new w _)
  refine ⟨w.heap.size + 1, [{ target := .collected w.heap.size, args := #[] }], _, { target := .fn (.func gf) lb, args := #[.func (.yield (w.heap.size + 1)) #[] #[]] }, _, gf,
    #[.func (.yield (w.heap.size + 1)) #[] #[]] ++ lb, _, run_enterLoop_outer _ _ _ _ _, by simp only [resolve, hg]; simp [go_sem]; rfl, fun f' hf' => by simp [Target.leads] at hf'; subst hf'; exact hFg, by simp [invoke, go_sem, eg]; rfl, fun _ => h1, ?_⟩
  refine (hiter (w.heap.size + 1) Bk Bx (.loop (rec_ .ready none)) (fun A B hk hs => ⟨hk.same _ _ hs.1 rfl, hk.same _ _ hs.2 rfl⟩) (fun c A B hk hs => ⟨hk.same _ _ hs.1 rfl, hk.same _ _ hs.2 rfl⟩) ?_ ⟨hL1, hK1⟩).mono ?_
  · rintro s W hs ⟨hl, hk⟩
    have hlt := (Array.getElem?_eq_some_iff.1 hl).1
    have hy := run_yield (P := P) (args := encs s) hl (hps s)
    refine ⟨fn, _, assign, body, hy, roundIn_of_wpIn hfn (hassign _ s W _ ⟨_, run_beginRound hl rfl, ?_⟩)⟩
    have hl2 : (W.putObj (w.heap.size + 1) (.loop (rec_ .busy none))).heap[w.heap.size + 1]? = some (.loop (rec_ .busy none)) := World.putObj_heap_same hlt
    have hk2 : (W.putObj (w.heap.size + 1) (.loop (rec_ .busy none))).heap[w.heap.size]? = some (.deferred (some [])) := (World.putObj_heap_other (by omega)).trans hk
    have hs2 : Rd s (W.putObj (w.heap.size + 1) (.loop (rec_ .busy none))) := cRd s _ _ _ _ (by omega) hl rfl hs
    have fin : ∀ (jump : Option Code) (W3 : World), KeepsOthers (W.putObj (w.heap.size + 1) (.loop (rec_ .busy none))) W3 →
        (Instr.endRound (w.heap.size + 1) jump).run P W3 = .ok (.bool jump.isNone) (W3.putObj (w.heap.size + 1) (.loop (rec_ (if jump.isNone then .ready else .done) jump))) ∧
        W3.heap[w.heap.size + 1]? = some (.loop (rec_ .busy none)) ∧
        (W3.putObj (w.heap.size + 1) (.loop (rec_ (if jump.isNone then .ready else .done) jump))).heap[w.heap.size + 1]? = some (.loop (rec_ (if jump.isNone then .ready else .done) jump)) ∧
        (W3.putObj (w.heap.size + 1) (.loop (rec_ (if jump.isNone then .ready else .done) jump))).heap[w.heap.size]? = some (.deferred (some [])) := fun jump W3 hk3 => by
      have hl3 := hk3.same _ _ hl2 rfl
      exact ⟨run_endRound (P := P) jump hl3, hl3, World.putObj_heap_same (Array.getElem?_eq_some_iff.1 hl3).1, (World.putObj_heap_other (by omega)).trans (hk3.same _ _ hk2 rfl)⟩
    refine wpIn_mono (hbody _ s _ hs2) ?_
    rintro e a3 W3 hp
    cases e with
    | normal =>
      obtain ⟨hk3, hi3⟩ := hp
      obtain ⟨hr, hl3, hl4, hk4⟩ := fin none W3 hk3
      exact ⟨_, _, hr, .inl ⟨rfl, cAf s _ _ _ _ (by omega) hl3 rfl hi3, hl4, hk4⟩⟩
    | ret =>
      obtain ⟨hk3, hi3⟩ := hp
      obtain ⟨hr, hl3, hl4, hk4⟩ := fin (some .ret) W3 hk3
      exact ⟨_, _, hr, .inr ⟨rfl, .ret, cLv _ s _ _ _ _ (by omega) hl3 rfl hi3, hl4, hk4⟩⟩
    | exit id =>
      obtain ⟨hk3, hi3⟩ := hp
      obtain ⟨hr, hl3, hl4, hk4⟩ := fin (some (.exit id)) W3 hk3
      exact ⟨_, _, hr, .inr ⟨rfl, .exit id, cLv _ s _ _ _ _ (by omega) hl3 rfl hi3, hl4, hk4⟩⟩
    | goto t =>
      obtain ⟨hk3, hi3⟩ := hp
      obtain ⟨hr, hl3, hl4, hk4⟩ := fin (some (.goto t)) W3 hk3
      exact ⟨_, _, hr, .inr ⟨rfl, .goto t, cLv _ s _ _ _ _ (by omega) hl3 rfl hi3, hl4, hk4⟩⟩
    | panic ch => exact hp.elim
    | outgrown => exact hp.elim
  · rintro e W2 ⟨⟨v, rfl⟩, (⟨hF, hl, hk⟩ | ⟨c, hX, hl, hk⟩)⟩
    · exact ⟨none, _, run_endLoop (P := P) hl (by simp [rec_]), hdone _ _ (Nat.le_refl _) (cFin _ _ _ _ (by omega) hl rfl hF) ((World.putObj_heap_other (by omega)).trans hk)⟩
    · exact ⟨some c, _, run_endLoop (P := P) hl (by simp [rec_]), hstop _ c _ (Nat.le_refl _) (cLx c _ _ _ _ (by omega) hl rfl hX) ((World.putObj_heap_other (by omega)).trans hk)⟩
end Go.Proofs.YtnofdlpifpjlbaaDoor
