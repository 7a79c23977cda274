/- The walk of the law on words of letters. Condition: none but what the row's reading gives. -/
import Derived.Test.YtifhnjaeegmfkaaPlainL
import Derived.Test.YtifhnjaeegmfkaaPlainW
import Derived.Deep.AppendLies
import Derived.Deep.RegionLaw
import Derived.Deep.Draws
import Derived.Deep.RegionHeld
import Derived.Laws.AppendOwnNone
namespace Go.Proofs.Ytifhnjaeegmfkaa
open Go.RowKit
theorem Try.infoIntX : (Try.prog.info? 3).map (fun i => (i.zero, i.size, i.bytes)) = some (some (.int .i64 0), 1, 8) := by kernel_rfl
def icellsX (zs : List Int) : List Value := zs.map (Value.int .i64)
/-- 'append' of ints to a row that the call owns: its run. -/
theorem run_app_ints (w : World) (ty : TypeId) (B : Nat) (v : Value) (zs ts : List Int) (hown : w.ownsRow B 3 1 v zs.length (icellsX zs)) (A : Option Addr) (B' c : Nat) (hI : IntsAt w B' A ts) (hn : A = none → ts.length = 0 ∧ c = 0)
    (h1 : zs.length ≤ 100000) (h2 : ts.length ≤ 100000) (hB : B ≤ w.heap.size) :
    ∃ v' w', (Builtin.append_ #[25, 25] ty #[v, .slice A ts.length c]).run Try.prog w = .ok v' w' ∧ w'.ownsRow B 3 1 v' (zs ++ ts).length (icellsX (zs ++ ts)) ∧ w.grownBy w' v.ownBlock := by
  obtain ⟨i0, hi, hz0, hz1, hz2⟩ := info_parts Try.infoIntX
  cases A with
  | none =>
    obtain ⟨e1, e2⟩ := hn rfl
    have e3 : ts = [] := List.length_eq_zero_iff.1 e1
    subst e3 e2
    exact ⟨v, w, run_append_owned_none (P := Try.prog) (w := w) B 25 ty 3 i0 1 rfl hi v _ _ hown, by simpa [icellsX] using hown, World.grownBy.refl _ _⟩
  | some a =>
    have hc : ∀ j u, (icellsX ts)[j]? = some u → w.cell? (a.add j) = some u := fun j u hj => by
      have hlt : j < ts.length := by have := (List.getElem?_eq_some_iff.1 hj).1; simpa [icellsX] using this
      obtain ⟨b, off, ha, _, hc⟩ := hI (by omega)
      obtain rfl := Option.some.inj ha
      rw [Addr.add_lit, hc j hlt]
      rw [← hj]; simp [icellsX, nth, hlt]
    obtain ⟨v', w', hr, o1, o2, _⟩ := run_append_own (P := Try.prog) w B 25 ty 3 i0 (.int .i64 0) 1 8 rfl hi hz0 hz1 hz2 rfl (by decide) v zs.length (icellsX zs) hown a ts.length c (icellsX ts) (by simp [icellsX]) hc
      (fun u hu => by simp only [icellsX, List.mem_map] at hu; obtain ⟨_, _, rfl⟩ := hu; rfl) (by unfold maxLen; omega) (by omega) hB
    exact ⟨v', w', hr, by simpa [icellsX] using o1, o2⟩
theorem step_app_ints {w : World} {ops : Array Oper} {o : Oper} {a : Act} {K : Act → World → Prop} {Q : Exit → Act → World → Prop} {E : Prop} (hgd : o.guard = none) (s x : Operand)
    (ho : o.op = .call { callee := .builtin .append, args := #[s, x], argTypes := #[25, 25] }) (B : Nat) (v : Value) (zs ts : List Int) (hs : a.eval s = v) (hown : w.ownsRow B 3 1 v zs.length (icellsX zs))
    (A : Option Addr) (B' c : Nat) (hx : a.eval x = .slice A ts.length c) (hI : IntsAt w B' A ts) (hn : A = none → ts.length = 0 ∧ c = 0) (h1 : zs.length ≤ 100000) (h2 : ts.length ≤ 100000) (hB : B ≤ w.heap.size)
    (h : ∀ v' w', w'.ownsRow B 3 1 v' (zs ++ ts).length (icellsX (zs ++ ts)) → w.grownBy w' v.ownBlock → K (a.put o.dst v') w') :
    if Region.wanted o (yielded ops a.tmps) = true then Oper.wp Try.prog o a w K Q else E := by
  have hw : Region.wanted o (yielded ops a.tmps) = true := by simp [Region.wanted, hgd]
  rw [if_pos hw]
  obtain ⟨v', w', hr, o1, o2⟩ := run_app_ints w o.type B v zs ts hown A B' c hI hn h1 h2 hB
  unfold Oper.wp execOp
  simp only [ho, resolve, invoke, builtin, Sem.run_bind, Sem.run_pure, Result.andThen_ok, List.map_toArray, List.map_cons, List.map_nil, hs, hx, hr]
  exact h v' w' o1 o2
theorem own_form {w : World} {B : Nat} {v : Value} {zs : List Int} (h : w.ownsRow B 3 1 v zs.length (icellsX zs)) : ∃ A c, v = .slice A zs.length c ∧ zs.length ≤ c ∧ IntsAt w w.heap.size A zs := by
  have h' := h
  rcases h.2 with ⟨rfl, h0⟩ | ⟨g, cap, cur, rfl, _, hg, hc, _⟩
  · rw [h0]; exact ⟨none, 0, rfl, by simp, fun hz => by omega⟩
  · refine ⟨_, cap, rfl, hc, fun _ => ⟨g, 0, rfl, (Array.getElem?_eq_some_iff.1 hg).1, fun k hk => ?_⟩⟩
    have := h'.cells (g := g) rfl k (.int .i64 (nth zs k)) (by simp [icellsX, nth, hk])
    simpa [Addr.add_lit] using this
def tailL : Nat → List Int
  | 1 => [58]
  | 2 => [58, 32, 120]
  | 3 => [32, 58]
  | 4 => [32, 35, 120]
  | 5 => [44, 120]
  | 6 => [35, 120]
  | 7 => [58, 120]
  | _ => []
/-- Where a tail lies. -/
def tailA (B : Nat) : Nat → Option Addr
  | 1 => some ⟨B, 0, none⟩
  | 2 => some ⟨B + 1, 0, none⟩
  | 3 => some ⟨B + 1 + 1, 0, none⟩
  | 4 => some ⟨B + 1 + 1 + 1, 0, none⟩
  | 5 => some ⟨B + 1 + 1 + 1 + 1, 0, none⟩
  | 6 => some ⟨B + 1 + 1 + 1 + 1 + 1, 0, none⟩
  | 7 => some ⟨B + 1 + 1 + 1 + 1 + 1 + 1, 0, none⟩
  | _ => none
theorem tailA_none (B p : Nat) (h : tailA B p = none) : (tailL p).length = 0 ∧ (tailL p).length = 0 := by
  unfold tailA at h; split at h <;> first | (cases h; done) | (unfold tailL; split <;> simp_all)
theorem tailL_len (p : Nat) : (tailL p).length ≤ 3 := by unfold tailL; split <;> decide
theorem row_at {W V : World} {B b : Nat} {zs : List Int} {t : TypeId} (hb : Below B W V) (h : W.heap[b]? = some (.cells (zs.map (Value.int .i64)).toArray t)) (hlt : b < B) : IntsAt V V.heap.size (some ⟨b, 0, none⟩) zs := fun _ => by
  have hV : V.heap[b]? = some (.cells (zs.map (Value.int .i64)).toArray t (0, 0)) := (hb.block b hlt).trans h
  refine ⟨b, 0, rfl, (Array.getElem?_eq_some_iff.1 hV).1, fun k hk => ?_⟩
  rw [Lib.cell_of_heap hV]
  simp [nth, hk]
theorem tails_world (w : World) : ∃ V, ((((((((w.alloc (.cells #[.int .i64 58] 3)).alloc (.cells #[.int .i64 58, .int .i64 32, .int .i64 120] 3)).alloc (.cells #[.int .i64 32, .int .i64 58] 3)).alloc (.cells #[.int .i64 32, .int .i64 35, .int .i64 120] 3)).alloc
      (.cells #[.int .i64 44, .int .i64 120] 3)).alloc (.cells #[.int .i64 35, .int .i64 120] 3)).alloc (.cells #[.int .i64 58, .int .i64 120] 3)).alloc
      (.cells #[.slice none 0 0, .slice (some ⟨w.heap.size, 0, none⟩) 1 1, .slice (some ⟨w.heap.size + 1, 0, none⟩) 3 3, .slice (some ⟨w.heap.size + 1 + 1, 0, none⟩) 2 2, .slice (some ⟨w.heap.size + 1 + 1 + 1, 0, none⟩) 3 3,
        .slice (some ⟨w.heap.size + 1 + 1 + 1 + 1, 0, none⟩) 2 2, .slice (some ⟨w.heap.size + 1 + 1 + 1 + 1 + 1, 0, none⟩) 2 2, .slice (some ⟨w.heap.size + 1 + 1 + 1 + 1 + 1 + 1, 0, none⟩) 2 2] 25)) = V ∧
    V.heap.size = w.heap.size + 8 ∧ Below w.heap.size w V ∧
    (∀ p, p < 8 → V.cell? ⟨w.heap.size + 1 + 1 + 1 + 1 + 1 + 1 + 1, p, none⟩ = some (.slice (tailA w.heap.size p) (tailL p).length (tailL p).length)) ∧
    (∀ p, p < 8 → IntsAt V V.heap.size (tailA w.heap.size p) (tailL p)) := by
  obtain ⟨w1, h1⟩ : ∃ w1, w.alloc (.cells #[.int .i64 58] 3) = w1 := ⟨_, rfl⟩
  obtain ⟨w2, h2⟩ : ∃ w2, w1.alloc (.cells #[.int .i64 58, .int .i64 32, .int .i64 120] 3) = w2 := ⟨_, rfl⟩
  obtain ⟨w3, h3⟩ : ∃ w3, w2.alloc (.cells #[.int .i64 32, .int .i64 58] 3) = w3 := ⟨_, rfl⟩
  obtain ⟨w4, h4⟩ : ∃ w4, w3.alloc (.cells #[.int .i64 32, .int .i64 35, .int .i64 120] 3) = w4 := ⟨_, rfl⟩
  obtain ⟨w5, h5⟩ : ∃ w5, w4.alloc (.cells #[.int .i64 44, .int .i64 120] 3) = w5 := ⟨_, rfl⟩
  obtain ⟨w6, h6⟩ : ∃ w6, w5.alloc (.cells #[.int .i64 35, .int .i64 120] 3) = w6 := ⟨_, rfl⟩
  obtain ⟨w7, h7⟩ : ∃ w7, w6.alloc (.cells #[.int .i64 58, .int .i64 120] 3) = w7 := ⟨_, rfl⟩
  rw [h1, h2, h3, h4, h5, h6, h7]
  have n1 := World.alloc_heap_new w (.cells #[.int .i64 58] 3)
  have n2 := World.alloc_heap_new w1 (.cells #[.int .i64 58, .int .i64 32, .int .i64 120] 3)
  have n3 := World.alloc_heap_new w2 (.cells #[.int .i64 32, .int .i64 58] 3)
  have n4 := World.alloc_heap_new w3 (.cells #[.int .i64 32, .int .i64 35, .int .i64 120] 3)
  have n5 := World.alloc_heap_new w4 (.cells #[.int .i64 44, .int .i64 120] 3)
  have n6 := World.alloc_heap_new w5 (.cells #[.int .i64 35, .int .i64 120] 3)
  have n7 := World.alloc_heap_new w6 (.cells #[.int .i64 58, .int .i64 120] 3)
  have al : ∀ (W : World) (o : Obj), Below W.heap.size W (W.alloc o) ∧ (W.alloc o).heap.size = W.heap.size + 1 := fun W o => ⟨(Below.refl _ W).alloc (Nat.le_refl _) o, by simp⟩
  have b1 := al w (.cells #[.int .i64 58] 3)
  have b2 := al w1 (.cells #[.int .i64 58, .int .i64 32, .int .i64 120] 3)
  have b3 := al w2 (.cells #[.int .i64 32, .int .i64 58] 3)
  have b4 := al w3 (.cells #[.int .i64 32, .int .i64 35, .int .i64 120] 3)
  have b5 := al w4 (.cells #[.int .i64 44, .int .i64 120] 3)
  have b6 := al w5 (.cells #[.int .i64 35, .int .i64 120] 3)
  have b7 := al w6 (.cells #[.int .i64 58, .int .i64 120] 3)
  rw [h1] at n1 b1
  rw [h2] at n2 b2
  rw [h3] at n3 b3
  rw [h4] at n4 b4
  rw [h5] at n5 b5
  rw [h6] at n6 b6
  rw [h7] at n7 b7
  clear h1 h2 h3 h4 h5 h6 h7
  obtain ⟨o, ho⟩ : ∃ o, (Obj.cells #[.slice none 0 0, .slice (some ⟨w.heap.size, 0, none⟩) 1 1, .slice (some ⟨w.heap.size + 1, 0, none⟩) 3 3, .slice (some ⟨w.heap.size + 1 + 1, 0, none⟩) 2 2, .slice (some ⟨w.heap.size + 1 + 1 + 1, 0, none⟩) 3 3,
        .slice (some ⟨w.heap.size + 1 + 1 + 1 + 1, 0, none⟩) 2 2, .slice (some ⟨w.heap.size + 1 + 1 + 1 + 1 + 1, 0, none⟩) 2 2, .slice (some ⟨w.heap.size + 1 + 1 + 1 + 1 + 1 + 1, 0, none⟩) 2 2] 25) = o := ⟨_, rfl⟩
  rw [ho]
  have n8 := World.alloc_heap_new w7 o
  have b8 := al w7 o
  have s7 : w7.heap.size = w.heap.size + 1 + 1 + 1 + 1 + 1 + 1 + 1 := by omega
  have B7 := b8.1
  have B6 : Below w6.heap.size w6 (w7.alloc o) := b7.1.trans (B7.mono (by omega))
  have B5 : Below w5.heap.size w5 (w7.alloc o) := b6.1.trans (B6.mono (by omega))
  have B4 : Below w4.heap.size w4 (w7.alloc o) := b5.1.trans (B5.mono (by omega))
  have B3 : Below w3.heap.size w3 (w7.alloc o) := b4.1.trans (B4.mono (by omega))
  have B2 : Below w2.heap.size w2 (w7.alloc o) := b3.1.trans (B3.mono (by omega))
  have B1 : Below w1.heap.size w1 (w7.alloc o) := b2.1.trans (B2.mono (by omega))
  have B0 : Below w.heap.size w (w7.alloc o) := b1.1.trans (B1.mono (by omega))
  rw [s7] at n8
  refine ⟨_, rfl, by omega, B0, fun p hp => ?_, fun p hp => ?_⟩
  · subst ho
    rw [Lib.cell_of_heap n8]
    match p, hp with
    | 0, _ => rfl
    | 1, _ => rfl
    | 2, _ => rfl
    | 3, _ => rfl
    | 4, _ => rfl
    | 5, _ => rfl
    | 6, _ => rfl
    | 7, _ => rfl
  · rw [show w1.heap.size = w.heap.size + 1 by omega] at n2
    rw [show w2.heap.size = w.heap.size + 1 + 1 by omega] at n3
    rw [show w3.heap.size = w.heap.size + 1 + 1 + 1 by omega] at n4
    rw [show w4.heap.size = w.heap.size + 1 + 1 + 1 + 1 by omega] at n5
    rw [show w5.heap.size = w.heap.size + 1 + 1 + 1 + 1 + 1 by omega] at n6
    rw [show w6.heap.size = w.heap.size + 1 + 1 + 1 + 1 + 1 + 1 by omega] at n7
    match p, hp with
    | 0, _ => exact fun h => by simp [tailL] at h
    | 1, _ => exact row_at (zs := [58]) B1 n1 (by omega)
    | 2, _ => exact row_at (zs := [58, 32, 120]) B2 n2 (by omega)
    | 3, _ => exact row_at (zs := [32, 58]) B3 n3 (by omega)
    | 4, _ => exact row_at (zs := [32, 35, 120]) B4 n4 (by omega)
    | 5, _ => exact row_at (zs := [44, 120]) B5 n5 (by omega)
    | 6, _ => exact row_at (zs := [35, 120]) B6 n6 (by omega)
    | 7, _ => exact row_at (zs := [58, 120]) B7 n7 (by omega)
/-- Where the texts end, and by a colon at which place: as the law says it. -/
def endL (n : Nat) (f : Bool) : Nat → Int
  | 5 => if f then n else (n : Int) + 2
  | 6 => (n : Int) + 2
  | 7 => (n : Int) + 2
  | _ => n
def keyL (n : Nat) : Nat → Int
  | 1 => n
  | 2 => n
  | 3 => (n : Int) + 1
  | _ => -1
theorem ends_world (V : World) (n : Nat) (f : Bool) (e : Int) (he : e = endL n f 5) : ∃ U, ((V.alloc (.cells #[.int .i64 n, .int .i64 n, .int .i64 n, .int .i64 n, .int .i64 n, .int .i64 e, .int .i64 ((n : Int) + 2), .int .i64 ((n : Int) + 2)] 3)).alloc
      (.cells #[.int .i64 (-1), .int .i64 n, .int .i64 n, .int .i64 ((n : Int) + 1), .int .i64 (-1), .int .i64 (-1), .int .i64 (-1), .int .i64 (-1)] 3)) = U ∧ U.heap.size = V.heap.size + 2 ∧ Below V.heap.size V U ∧
    (∀ p, p < 8 → U.cell? ⟨V.heap.size, p, none⟩ = some (.int .i64 (endL n f p))) ∧ (∀ p, p < 8 → U.cell? ⟨V.heap.size + 1, p, none⟩ = some (.int .i64 (keyL n p))) := by
  obtain ⟨w1, h1⟩ : ∃ w1, V.alloc (.cells #[.int .i64 n, .int .i64 n, .int .i64 n, .int .i64 n, .int .i64 n, .int .i64 e, .int .i64 ((n : Int) + 2), .int .i64 ((n : Int) + 2)] 3) = w1 := ⟨_, rfl⟩
  obtain ⟨o, ho⟩ : ∃ o, (Obj.cells #[.int .i64 (-1), .int .i64 n, .int .i64 n, .int .i64 ((n : Int) + 1), .int .i64 (-1), .int .i64 (-1), .int .i64 (-1), .int .i64 (-1)] 3) = o := ⟨_, rfl⟩
  have n1 := World.alloc_heap_new V (.cells #[.int .i64 n, .int .i64 n, .int .i64 n, .int .i64 n, .int .i64 n, .int .i64 e, .int .i64 ((n : Int) + 2), .int .i64 ((n : Int) + 2)] 3)
  have b1 : Below V.heap.size V w1 ∧ w1.heap.size = V.heap.size + 1 := by rw [← h1]; exact ⟨(Below.refl _ V).alloc (Nat.le_refl _) _, by simp⟩
  rw [h1] at n1 ⊢
  rw [ho]
  have n2 := World.alloc_heap_new w1 o
  have b2 : Below w1.heap.size w1 (w1.alloc o) := (Below.refl _ w1).alloc (Nat.le_refl _) o
  have n1' : (w1.alloc o).heap[V.heap.size]? = _ := (b2.block V.heap.size (by omega)).trans n1
  have b3 : Below V.heap.size V (w1.alloc o) := b1.1.trans (b2.mono (by omega))
  rw [b1.2] at n2
  have hk : ∀ p, p < 8 → (w1.alloc o).cell? ⟨V.heap.size + 1, p, none⟩ = some (.int .i64 (keyL n p)) := fun p hp => by
    subst ho
    rw [Lib.cell_of_heap n2]
    match p, hp with
    | 0, _ => rfl
    | 1, _ => rfl
    | 2, _ => rfl
    | 3, _ => rfl
    | 4, _ => rfl
    | 5, _ => rfl
    | 6, _ => rfl
    | 7, _ => rfl
  have hec : ∀ p, p < 8 → (w1.alloc o).cell? ⟨V.heap.size, p, none⟩ = some (.int .i64 (endL n f p)) := fun p hp => by
    subst he
    rw [Lib.cell_of_heap n1']
    match p, hp with
    | 0, _ => rfl
    | 1, _ => rfl
    | 2, _ => rfl
    | 3, _ => rfl
    | 4, _ => rfl
    | 5, _ => rfl
    | 6, _ => rfl
    | 7, _ => rfl
  exact ⟨_, rfl, by simp; omega, b3, hec, hk⟩
theorem tails_ok {l : List Int} (h : wordsB l) (f : Bool) {p : Nat} (hp : p < 8) : begB (l ++ tailL p) f = true ∧ ((endN (l ++ tailL p) f : Nat) : Int) = endL l.length f p ∧ keyI (l ++ tailL p) f = keyL l.length p := by
  refine ⟨words_beg h _ f, ?_, ?_⟩
  · rw [words_end h]
    have hall : ∀ q : Fin 8, ∀ g : Bool, ((endN (tailL q) g : Nat) : Int) = endL 0 g q := by decide +kernel
    have := hall ⟨p, hp⟩ f
    simp only at this
    have he : endL l.length f p = (l.length : Int) + endL 0 f p := by
      unfold endL; split <;> (try split) <;> omega
    rw [he, ← this]; omega
  · rw [words_key h]
    have hall : ∀ q : Fin 8, ∀ g : Bool, keyI (tailL q) g = keyL 0 q := by decide +kernel
    have := hall ⟨p, hp⟩ f
    simp only at this
    rw [this]
    unfold keyL; split <;> simp
def okAt (l : List Int) (i : Nat) : Prop := (97 ≤ nth l i ∧ nth l i ≤ 122) ∨ (nth l i = 32 ∧ 0 < i ∧ i + 1 < l.length)
set_option maxRecDepth 100000 in
set_option maxHeartbeats 8000000 in
theorem plainLetters_walk (A : Option Addr) (c : Nat) (l : List Int) (_hc : l.length ≤ c) (hm : c ≤ maxLen) (w : World) (hI : IntsAt w w.heap.size A l) (_wl : ∀ z ∈ l, (Lit.int .i64 z).wf = true) (which : Int) (_ww : (Lit.int .i64 which).wf = true) (flow : Bool) :
    Calls Try.prog 8 #[.slice A l.length c, .int .i64 which, .bool flow] w fun e w' => e = .returned (.bool true) ∧ Below w.heap.size w w' := by
  have hl : l.length ≤ 9223372036854775807 := by unfold maxLen at hm; omega
  clear hm
  go_enter Try.func8, Try.ntmps8
  go_wp2_with fail
  refine (alive9_any _).mono ?_
  rintro e w1 ⟨rfl, hb1⟩
  have hlen : l.length < 1 ∨ 100 < l.length ∨ (1 ≤ l.length ∧ l.length ≤ 100) := by omega
  rcases hlen with h1 | h1 | ⟨h1, h2⟩
  · have h1' : (l.length : Int) < 1 := by omega
    go_wp2_with fail
    go_ret
    exact ⟨rfl, hb1⟩
  · have h1' : ¬ (l.length : Int) < 1 := by omega
    have h2' : (100 : Int) < (l.length : Int) := by omega
    go_wp2_with fail
    go_ret
    exact ⟨rfl, hb1⟩
  · have h1' : ¬ (l.length : Int) < 1 := by omega
    have h2' : ¬ (100 : Int) < (l.length : Int) := by omega
    have d1 : decide ((l.length : Int) < 1) = false := decide_eq_false h1'
    have d2 : decide ((100 : Int) < (l.length : Int)) = false := decide_eq_false h2'
    have hI1 : IntsAt w1 w1.heap.size A l := (hI.below hb1 (Nat.le_refl _)).more hb1.size
    go_wp2_with fail
    go_loop [8] (fun i => ∃ k : Nat, k ≤ l.length ∧ i = .int .i64 k ∧ Hid (∀ i, i < k → okAt l i)) (fun i => l.length - (intOf i).toNat)
    case atStart => exact ⟨0, Nat.zero_le _, rfl, fun i hi => by omega⟩
    case round =>
      obtain ⟨k, hk, rfl, hok⟩ := hrel
      by_cases hlt : k < l.length
      · obtain ⟨b, off, hA, hbw, hcc⟩ := hI1 (by omega)
        subst hA
        have hci := hcc k hlt
        have hlt' : (k : Int) < (l.length : Int) := by omega
        have HI := Lib.hid hcc
        have HN : Hid (okAt l k → ∀ i, i < k + 1 → okAt l i) := fun h i hi => by
          by_cases e : i = k
          · subst e; exact h
          · exact hok.out i (by omega)
        have HO : Hid (okAt l k ↔ ((97 ≤ nth l k ∧ nth l k ≤ 122) ∨ (nth l k = 32 ∧ 0 < k ∧ k + 1 < l.length))) := Iff.rfl
        obtain ⟨x, hx⟩ : ∃ x, nth l k = x := ⟨_, rfl⟩
        rw [hx] at hci HO
        clear hcc hx
        have hcs : (97 ≤ x ∧ x ≤ 122) ∨ ((x < 97 ∨ (97 ≤ x ∧ 122 < x)) ∧ x ≠ 32) ∨ x = 32 := by omega
        rcases hcs with ⟨x1, x2⟩ | ⟨x1, x2⟩ | rfl
        · have HK := Lib.hid (HN.out (HO.out.2 (.inl ⟨x1, x2⟩)))
          go_wp2_with fail
          go_round
          case rel => exact ⟨k + 1, by omega, by go_num, HK.out⟩
          case measure => simp [intOf]; omega
        · have x2' : (x != 32) = true := bne_iff_ne.2 x2
          rcases x1 with x1 | ⟨x1, x3⟩
          · have x1' : ¬ (97 : Int) ≤ x := by omega
            go_wp2_with fail
            go_ret
            exact ⟨rfl, hb1⟩
          · have x3' : ¬ x ≤ (122 : Int) := by omega
            go_wp2_with fail
            go_ret
            exact ⟨rfl, hb1⟩
        · have hks : k = 0 ∨ (0 < k ∧ k + 1 = l.length) ∨ (0 < k ∧ k + 1 < l.length) := by omega
          rcases hks with k0 | ⟨k1, k2⟩ | ⟨k1, k2⟩
          · have k0' : ((k : Int) == 0) = true := beq_iff_eq.2 (by omega)
            clear k0
            go_wp2_with fail
            go_ret
            exact ⟨rfl, hb1⟩
          · have k1' : ((k : Int) == 0) = false := beq_eq_false_iff_ne.2 (by omega)
            have k2' : ((k : Int) + 1 == (l.length : Int)) = true := beq_iff_eq.2 (by omega)
            clear k2
            go_wp2_with fail
            go_ret
            exact ⟨rfl, hb1⟩
          · have HK := Lib.hid (HN.out (HO.out.2 (.inr ⟨rfl, k1, k2⟩)))
            have k1' : ((k : Int) == 0) = false := beq_eq_false_iff_ne.2 (by omega)
            have k2' : ((k : Int) + 1 == (l.length : Int)) = false := beq_eq_false_iff_ne.2 (by omega)
            go_wp2_with fail
            go_round
            case rel => exact ⟨k + 1, by omega, by go_num, HK.out⟩
            case measure => simp [intOf]; omega
      · obtain rfl : k = l.length := by omega
        have HW : Hid (wordsB l) := ⟨by omega, fun i hi => hok.out i hi⟩
        clear hok
        by_cases hin : 0 ≤ which ∧ which < 8
        · obtain ⟨w0, w8⟩ := hin
          obtain ⟨p, rfl⟩ : ∃ p : Nat, which = p := ⟨which.toNat, by omega⟩
          go_wp2_with fail
          obtain ⟨V, hV, hsz, hbV, hT, hTI⟩ := tails_world w1
          rw [hV]
          have hTc := hT p (by omega)
          have hp8 : (p : Int) < 8 := w8
          have hAn : A = none → l.length = 0 ∧ c = 0 := fun e => by
            obtain ⟨b, off, hA, _, _⟩ := hI1 (by omega)
            rw [hA] at e; cases e
          have hIV : IntsAt V V.heap.size A l := (hI1.below hbV (Nat.le_refl _)).more hbV.size
          go_region_law (first
            | (refine step_app_ints rfl (.const (.slice none 0 0)) (.tmp 81) rfl V.heap.size (.slice none 0 0) [] l rfl ⟨rfl, .inl ⟨rfl, rfl⟩⟩ A V.heap.size c rfl hIV hAn (by simp) (by omega) (by simp) ?_; intro v1 V1 hown1 hgrow1; have hbV1 : Below V.heap.size V V1 := (Below.refl _ V).drew.grown hgrow1 (by simp) (fun _ h => by cases h); have hT1 := (hbV1.cell (p := ⟨w1.heap.size + 1 + 1 + 1 + 1 + 1 + 1 + 1, p, none⟩) (by simp only; omega)).trans hTc)
            | (refine step_app_ints rfl (.tmp 82) (.tmp 86) rfl V.heap.size v1 ([] ++ l) (tailL p) (by simp [Act.eval]) hown1 (tailA w1.heap.size p) V.heap.size (tailL p).length (by simp [Act.eval]) ((hTI p (by omega)).below hbV1 (Nat.le_refl _)) (tailA_none w1.heap.size p) (by simp; omega) (by have := tailL_len p; omega) hbV1.size ?_; intro v2 V2 hown2 hgrow2; have hbV2 : Below V.heap.size V V2 := hbV1.grown hgrow2 hbV1.size (fun _ h => (hown1.lt _ h).1); obtain ⟨A2, c2, rfl, hc2, hI2⟩ := own_form hown2; have HB2 := Lib.hid hbV2; have HI2 := Lib.hid hI2; clear hown1 hgrow1 hown2 hgrow2 hbV2 HI2 hT1 hTc hTI hT hbV1))
          all_goals
            have hall : ([] ++ l ++ tailL p).length ≤ 9223372036854775807 := by have := tailL_len p; simp; omega
            have hwr1 : IntKind.i64.wrap ((l.length : Int) + 1) = (l.length : Int) + 1 := IntWalk.i64_in _ (by omega)
            have hwr2 : IntKind.i64.wrap ((l.length : Int) + 2) = (l.length : Int) + 2 := IntWalk.i64_in _ (by omega)
            have hbz : Below w.heap.size w V2 := below_then hb1 (below_then hbV (HB2.out))
            obtain ⟨L, hL⟩ : ∃ L, [] ++ l ++ tailL p = L := ⟨_, rfl⟩
            have HT := Lib.hid (fun f => tails_ok HW.out f (p := p) (by omega))
            rw [show l ++ tailL p = L from by simpa using hL] at HT
            rw [hL] at hI2 hall
            have HS := Lib.hid (show l.length ≤ 100 from h2)
            have hLl : L.length = l.length + (tailL p).length := by rw [← hL]; simp
            clear hL hIV hAn HB2
            have hBg : ∀ W : World, IntsAt W W.heap.size A2 L → Calls Try.prog 26 #[.slice A2 (l.length + (tailL p).length) c2, .bool flow] W fun e w' => e = .returned (.bool true) ∧ Below W.heap.size W w' := fun W h => by
              have := Begins_any A2 c2 L flow W hall h
              rw [hLl, (HT.out flow).1] at this; exact this
            have hEn : ∀ W : World, IntsAt W W.heap.size A2 L → Calls Try.prog 25 #[.slice A2 (l.length + (tailL p).length) c2, .bool flow] W fun e w' => e = .returned (.int .i64 (endL l.length flow p)) ∧ Below W.heap.size W w' := fun W h => by
              have := End_any A2 c2 L flow W hall h
              rw [hLl, (HT.out flow).2.1] at this; exact this
            have hKy : ∀ W : World, IntsAt W W.heap.size A2 L → Calls Try.prog 27 #[.slice A2 (l.length + (tailL p).length) c2, .bool flow] W fun e w' => e = .returned (.int .i64 (keyL l.length p)) ∧ Below W.heap.size W w' := fun W h => by
              have := Key_any A2 c2 L flow W hall h
              rw [hLl, (HT.out flow).2.2] at this; exact this
            obtain ⟨U, hU, hUs, hbU, hEc, hKc⟩ := ends_world V2 l.length flow _ rfl
            have hEp := hEc p (by omega)
            have hKp := hKc p (by omega)
            have hIU : IntsAt U U.heap.size A2 L := (hI2.below hbU (Nat.le_refl _)).more hbU.size
            have hbzU : Below w.heap.size w U := below_then hbz hbU
            obtain ⟨eV, heV⟩ : ∃ x, endL l.length flow p = x := ⟨_, rfl⟩
            obtain ⟨kV, hkV⟩ : ∃ x, keyL l.length p = x := ⟨_, rfl⟩
            rw [heV] at hEn hEp
            rw [hkV] at hKy hKp
            clear heV hkV
            have HBg := Lib.hid hBg
            have HEn := Lib.hid hEn
            have HKy := Lib.hid hKy
            have HEp := Lib.hid hEp
            have HKp := Lib.hid hKp
            have HU := Lib.hid hU
            clear hBg hEn hKy hEp hKp hEc hKc HT hV hU hIU hc2 hLl
            have HIU : Hid (IntsAt U U.heap.size A2 L) := (hI2.below hbU (Nat.le_refl _)).more hbU.size
            cases flow
            all_goals
              go_wp2_with fail
              have hU := HU.out
              simp only [endL, ite_true, ite_false, Bool.false_eq_true] at hU
              rw [hU]
              clear hU HU d1 d2 hwr1 hwr2 hsz h1 h2 hI1 hI hbV hb1 hbz HW
              have HUs := Lib.hid hUs
              have HbU := Lib.hid hbU
              have HbzU := Lib.hid hbzU
              clear hUs hbU hbzU hI2
              have HSS : Hid (∀ W', Below U.heap.size U W' → (fun W' => Below U.heap.size U W' ∧ W'.cell? ⟨V2.heap.size, p, none⟩ = some (.int .i64 eV) ∧ W'.cell? ⟨V2.heap.size + 1, p, none⟩ = some (.int .i64 kV)) W') := fun W' h => ⟨h, (h.cell (by have := HUs.out; simp only; omega)).trans HEp.out, (h.cell (by have := HUs.out; simp only; omega)).trans HKp.out⟩
              have HIB : Hid (∀ W', Below U.heap.size U W' → IntsAt W' W'.heap.size A2 L) := fun W' h => (HIU.out.below h (Nat.le_refl _)).more h.size
              have TBg : Hid (∀ W', (fun W' => Below U.heap.size U W' ∧ W'.cell? ⟨V2.heap.size, p, none⟩ = some (.int .i64 eV) ∧ W'.cell? ⟨V2.heap.size + 1, p, none⟩ = some (.int .i64 kV)) W' → Calls Try.prog 26 #[.slice A2 (l.length + (tailL p).length) c2, .bool _] W' fun e w2 => e = .returned (.bool true) ∧ (fun W' => Below U.heap.size U W' ∧ W'.cell? ⟨V2.heap.size, p, none⟩ = some (.int .i64 eV) ∧ W'.cell? ⟨V2.heap.size + 1, p, none⟩ = some (.int .i64 kV)) w2) := fun W' h => (HBg.out W' (HIB.out W' h.1)).mono fun e w2 he => ⟨he.1, HSS.out w2 (below_then h.1 he.2)⟩
              have TEn : Hid (∀ W', (fun W' => Below U.heap.size U W' ∧ W'.cell? ⟨V2.heap.size, p, none⟩ = some (.int .i64 eV) ∧ W'.cell? ⟨V2.heap.size + 1, p, none⟩ = some (.int .i64 kV)) W' → Calls Try.prog 25 #[.slice A2 (l.length + (tailL p).length) c2, .bool _] W' fun e w2 => e = .returned (.int .i64 eV) ∧ (fun W' => Below U.heap.size U W' ∧ W'.cell? ⟨V2.heap.size, p, none⟩ = some (.int .i64 eV) ∧ W'.cell? ⟨V2.heap.size + 1, p, none⟩ = some (.int .i64 kV)) w2) := fun W' h => (HEn.out W' (HIB.out W' h.1)).mono fun e w2 he => ⟨he.1, HSS.out w2 (below_then h.1 he.2)⟩
              have TKy : Hid (∀ W', (fun W' => Below U.heap.size U W' ∧ W'.cell? ⟨V2.heap.size, p, none⟩ = some (.int .i64 eV) ∧ W'.cell? ⟨V2.heap.size + 1, p, none⟩ = some (.int .i64 kV)) W' → Calls Try.prog 27 #[.slice A2 (l.length + (tailL p).length) c2, .bool _] W' fun e w2 => e = .returned (.int .i64 kV) ∧ (fun W' => Below U.heap.size U W' ∧ W'.cell? ⟨V2.heap.size, p, none⟩ = some (.int .i64 eV) ∧ W'.cell? ⟨V2.heap.size + 1, p, none⟩ = some (.int .i64 kV)) w2) := fun W' h => (HKy.out W' (HIB.out W' h.1)).mono fun e w2 he => ⟨he.1, HSS.out w2 (below_then h.1 he.2)⟩
              obtain ⟨hs0, hs1, hs2⟩ := HSS.out U.drew (Below.refl _ U).drew
              clear HBg HEn HKy HEp HKp HIU HUs HbU HIB
              go_region_held (fun W' => Below U.heap.size U W' ∧ W'.cell? ⟨V2.heap.size, p, none⟩ = some (.int .i64 eV) ∧ W'.cell? ⟨V2.heap.size + 1, p, none⟩ = some (.int .i64 kV)) (exact ⟨by assumption, by assumption, by assumption⟩) (first
                | (go_at_call 26; refine (TBg.out _ ⟨by assumption, by assumption, by assumption⟩).mono ?_; rintro e W1 ⟨rfl, h1, h2, h3⟩)
                | (go_at_call 25; refine (TEn.out _ ⟨by assumption, by assumption, by assumption⟩).mono ?_; rintro e W1 ⟨rfl, h1, h2, h3⟩)
                | (go_at_call 27; refine (TKy.out _ ⟨by assumption, by assumption, by assumption⟩).mono ?_; rintro e W1 ⟨rfl, h1, h2, h3⟩))
              all_goals
                go_wp2_with fail
                go_ret
                exact ⟨rfl, below_then HbzU.out (by assumption)⟩
        · have hout : which < 0 ∨ (¬ which < 0 ∧ 8 ≤ which) := by omega
          clear hin
          rcases hout with w0 | ⟨w0, w8⟩
          · go_wp2_with fail
            go_ret
            obtain ⟨V, hV, hsz, hbV, _⟩ := tails_world w1
            rw [hV]
            exact ⟨rfl, below_then hb1 hbV⟩
          · have w0' : decide (which < 0) = false := decide_eq_false w0
            have w8' : decide (8 ≤ which) = true := decide_eq_true w8
            go_wp2_with fail
            go_ret
            obtain ⟨V, hV, hsz, hbV, _⟩ := tails_world w1
            rw [hV]
            exact ⟨rfl, below_then hb1 hbV⟩
end Go.Proofs.Ytifhnjaeegmfkaa
