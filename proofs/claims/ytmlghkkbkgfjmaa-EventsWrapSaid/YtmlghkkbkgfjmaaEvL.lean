/- The walks of the laws on events. No condition. -/
import Derived.Test.YtmlghkkbkgfjmaaEvH
import Derived.Deep.AppendLies
import Derived.Laws.AppendOwnNone
namespace Go.Proofs.Ytmlghkkbkgfjmaa
open Go.RowKit Go.ChangeShapes Go.WideShapes Go.ChangeAt Go.Deep
def rows (L : List Ev) : List Value := L.flatMap (fun e => e.row.toList)
theorem rows_len (L : List Ev) : (rows L).length = L.length * 6 := by
  induction L with
  | nil => rfl
  | cons x L ih => simp only [rows, List.flatMap_cons, List.length_append] at ih ⊢; rw [ih]; simp [Ev.row]; omega
theorem rows_append (L M : List Ev) : rows (L ++ M) = rows L ++ rows M := by simp [rows]
theorem row_size (e : Ev) : e.row.size = 6 := rfl
theorem rows_get : ∀ (L : List Ev) (k j : Nat), k < L.length → j < 6 → (rows L)[k * 6 + j]? = (evs L k).row[j]?
  | [], k, j, hk, _ => by simp at hk
  | x :: L, 0, j, _, hj => by
    have h : rows (x :: L) = x.row.toList ++ rows L := rfl
    rw [h, List.getElem?_append_left (by simp [Ev.row]; omega)]
    simp [evs]
  | x :: L, k + 1, j, hk, hj => by
    have h : rows (x :: L) = x.row.toList ++ rows L := rfl
    have hs : x.row.toList.length = 6 := by simp [Ev.row]
    rw [h, List.getElem?_append_right (by omega), hs, show (k + 1) * 6 + j - 6 = k * 6 + j by omega, rows_get L k j (by simpa using hk) hj]
    simp [evs]
/-- Cells that lie as a row's say: the events lie there. -/
theorem evsAt_rows {w : World} {b off : Nat} {L : List Ev} {B : Nat} (hb : b < B) (h : ∀ j u, (rows L)[j]? = some u → w.cell? ((⟨b, off, none⟩ : Addr).add j) = some u) : EvsAt w B (some ⟨b, off, none⟩) L := fun _ => by
  refine ⟨b, off, rfl, hb, fun k hk => ?_⟩
  have g : ∀ j (hj : j < 6), w.cell? ⟨b, off + k * 6 + j, none⟩ = some ((evs L k).row[j]'(by simpa [Ev.row] using hj)) := fun j hj => by
    have e := h (k * 6 + j) _ ((rows_get L k j hk hj).trans (Array.getElem?_eq_getElem (by simpa [Ev.row] using hj)))
    rw [Addr.add_lit] at e
    rwa [show off + k * 6 + j = off + (k * 6 + j) by omega]
  exact ⟨g 0 (by omega), g 1 (by omega), g 2 (by omega), g 3 (by omega), g 4 (by omega), g 5 (by omega)⟩
/-- The cells of events that lie somewhere, as a row. -/
theorem evsAt_cells {w : World} {a : Addr} {L : List Ev} {B : Nat} (h : EvsAt w B (some a) L) : ∀ j u, (rows L)[j]? = some u → w.cell? (a.add j) = some u := fun j u hj => by
  have hlt : j < L.length * 6 := by rw [← rows_len]; exact (List.getElem?_eq_some_iff.1 hj).1
  obtain ⟨b, off, ha, _, hc⟩ := h (by omega)
  obtain rfl := Option.some.inj ha
  rw [Addr.add_lit]
  obtain ⟨k, r, hr, rfl⟩ : ∃ k r, r < 6 ∧ j = k * 6 + r := ⟨j / 6, j % 6, Nat.mod_lt _ (by omega), by omega⟩
  rw [rows_get L k r (by omega) hr] at hj
  obtain ⟨c0, c1, c2, c3, c4, c5⟩ := hc k (by omega)
  rw [← Nat.add_assoc]
  match r, hr with
  | 0, _ => simp [Ev.row] at hj; subst hj; exact c0
  | 1, _ => simp [Ev.row] at hj; subst hj; exact c1
  | 2, _ => simp [Ev.row] at hj; subst hj; exact c2
  | 3, _ => simp [Ev.row] at hj; subst hj; exact c3
  | 4, _ => simp [Ev.row] at hj; subst hj; exact c4
  | 5, _ => simp [Ev.row] at hj; subst hj; exact c5
theorem rows_one (L : List Ev) : ∀ u ∈ rows L, u.oneCell' = true := by
  intro u hu
  simp only [rows, List.mem_flatMap, Ev.row, List.mem_cons, List.not_mem_nil, or_false] at hu
  obtain ⟨e, _, rfl | rfl | rfl | rfl | rfl | rfl⟩ := hu <;> rfl
/-- A row of its own holds events: they lie there. -/
theorem evsAt_own {w : World} {B : Nat} {v : Value} {L : List Ev} (h : w.ownsRow B 27 6 v L.length (rows L)) : ∃ A c, v = .slice A L.length c ∧ L.length ≤ c ∧ EvsAt w w.heap.size A L := by
  have h' := h
  rcases h.2 with ⟨rfl, h0⟩ | ⟨g, cap, cur, rfl, _, hg, hc, _⟩
  · rw [List.length_eq_zero_iff.1 h0]
    exact ⟨none, 0, rfl, by simp, EvsAt.nil⟩
  · refine ⟨_, cap, rfl, hc, evsAt_rows (Array.getElem?_eq_some_iff.1 hg).1 (h'.cells (g := g) rfl)⟩
theorem own_new (w : World) (L : List Ev) (B : Nat) (hB : B ≤ w.heap.size) (hl : L.length ≤ maxLen) : (w.alloc (.cells (rows L).toArray 27)).ownsRow B 27 6 (.slice (some ⟨w.heap.size, 0, none⟩) L.length L.length) L.length (rows L) :=
  ⟨rows_len L, .inr ⟨w.heap.size, L.length, (rows L).toArray, rfl, hB, World.alloc_heap_new _ _, Nat.le_refl _, hl, by simp [rows_len], by rw [← rows_len]; simp⟩⟩
/-- An event that has but a kind. -/
def Ev.one (k : Int) : Ev := ⟨k, ⟨#[]⟩, ⟨#[]⟩, ⟨#[]⟩, 0, false⟩
theorem new_evs (w : World) (L : List Ev) {cs : Array Value} (hcs : cs = (rows L).toArray) : EvsAt (w.alloc (.cells cs 27)) (w.alloc (.cells cs 27)).heap.size (some ⟨w.heap.size, 0, none⟩) L := by
  subst hcs
  refine evsAt_rows (by simp) fun j u hj => ?_
  rw [Addr.add_lit, cell_of_row _ _ _ _ _ _ (World.alloc_heap_new _ _)]
  simpa using hj
theorem Right_new (w : World) (L : List Ev) (cs : Array Value) (hcs : cs = (rows L).toArray) (hl : L.length ≤ 100000) {n : Nat} (hn : n = L.length) {r : Bool} (hr : rightsB L = r) :
    Calls Try.prog 10 #[.slice (some ⟨w.heap.size, 0, none⟩) n n] (w.alloc (.cells cs 27)) fun e w' => e = .returned (.bool r) ∧ Below w.heap.size w w' := by
  subst hn hr
  refine (Right_any _ L.length L _ hl (new_evs w L hcs)).mono ?_
  rintro e w' ⟨he, hb⟩
  exact ⟨he, ((Below.refl _ w).alloc (Nat.le_refl _) _).trans (hb.mono (by simp))⟩
theorem alive_any (w : World) : Calls Try.prog 6 #[] w fun e w' => e = .returned (.bool true) ∧ Below w.heap.size w w' := by
  have hR := Right_any none 0 [] w (by simp) EvsAt.nil
  rw [show rightsB [] = true from by decide +kernel] at hR
  go_enter Try.func6, Try.ntmps6
  go_wp2_with fail
  refine hR.mono ?_
  rintro e w1 ⟨rfl, hb1⟩
  clear hR
  go_wp2_with fail
  refine (Right_new w1 [Ev.one 1] _ rfl (by decide) rfl (r := false) (by decide +kernel)).mono ?_
  rintro e w2 ⟨rfl, hb2⟩
  go_wp2_with fail
  refine (Right_new w2 [Ev.one 1, { Ev.one 7 with style := 1 }, Ev.one 2] _ rfl (by decide) rfl (r := true) (by decide +kernel)).mono ?_
  rintro e w3 ⟨rfl, hb3⟩
  go_wp2_with fail
  go_ret
  exact ⟨rfl, (hb1.trans (hb2.mono hb1.size)).trans (hb3.mono (Nat.le_trans hb1.size hb2.size))⟩
section
variable {H : Type} {enc : TypeId × Value → H} {P : Program} {W : World} {base : Nat}
theorem open_events_nil {r : Reach} {b0 : Nat} {t e : TypeId} {f0 f1 f2 f3 f4 f5 : Field} {v : Value} {d : DataW H} {ps : List MemPlace} (ht : P.underlying t = some (.slice e)) (he : P.underlying e = some (.struct #[f0, f1, f2, f3, f4, f5]))
    (h0 : P.underlying f0.type = some (.int .i64)) (h1 : P.underlying f1.type = some .string) (h2 : P.underlying f2.type = some .string) (h3 : P.underlying f3.type = some .string) (h4 : P.underlying f4.type = some (.int .i64)) (h5 : P.underlying f5.type = some .bool)
    (hone : oneCellFields P #[f0, f1, f2, f3, f4, f5] = true) (hC : P.cellsOf e = 6)
    (hval : Value.okWide P W r b0 t v) (hd : DataW.Trod enc P W base (fun _ => true) true t v d ps) :
    ∃ A c L, v = .slice A (List.length L) c ∧ L.length ≤ c ∧ c ≤ maxLen ∧ EvsAt W W.heap.size A L ∧ (∀ x ∈ L, Ev.ok x) ∧ (A = none → c = 0) := by
  obtain ⟨A, c, L, rfl, hc, hm, hE, hok⟩ := open_events ht he h0 h1 h2 h3 h4 h5 hone hC hval hd
  refine ⟨A, c, L, rfl, hc, hm, hE, hok, ?_⟩
  rintro rfl
  obtain ⟨fuel, hf⟩ := hd
  rcases open_slice ht hf with ⟨hcs, _⟩ | ⟨a, len', cap', m, n, D, Pl, hcs, _⟩
  · simp [Value.cells] at hcs; exact hcs.2
  · simp [Value.cells] at hcs
end
theorem small_of {L : List Ev} (h : bigB L = false) : L.length ≤ 300 := by
  simp only [bigB, Bool.or_eq_false_iff, decide_eq_false_iff_not] at h; omega
set_option maxHeartbeats 1000000 in
theorem eventsTell_walk (A : Option Addr) (c : Nat) (L : List Ev) (hc : L.length ≤ c) (hm : c ≤ maxLen) (w : World) (hE : EvsAt w w.heap.size A L) (hok : ∀ x ∈ L, Ev.ok x) (_hn : A = none → c = 0) (i : Int) (_wi : (Lit.int .i64 i).wf = true) :
    Calls Try.prog 4 #[.slice A L.length c, .int .i64 i] w fun e w' => e = .returned (.bool true) ∧ Below w.heap.size w w' := by
  have hl : L.length ≤ 9223372036854775807 := by unfold maxLen at hm; omega
  clear hm
  go_enter Try.func4, Try.ntmps4
  go_wp2_with fail
  refine (alive_any _).mono ?_
  rintro e w1 ⟨rfl, hb1⟩
  go_wp2_with fail
  refine (Big_any A c L w1 hl ((hE.below hb1 (Nat.le_refl _)).more hb1.size) hok).mono ?_
  rintro e w2 ⟨rfl, rfl⟩
  cases hbig : bigB L with
  | true =>
    go_wp2_with fail
    go_ret
    exact ⟨rfl, hb1⟩
  | false =>
    have hl' : L.length ≤ 100000 := by have := small_of hbig; omega
    have hX : ∀ w1, Below w.heap.size w w1 → EvsAt w1 w1.heap.size A L := fun w1 h => (hE.below h (Nat.le_refl _)).more h.size
    have HX := Lib.hid hX
    clear hX hE hok
    go_wp2_with fail
    refine (Right_any A c L w1 hl' (HX.out _ hb1)).mono ?_
    rintro e w2 ⟨rfl, hb2⟩
    have hb2 := below_then hb1 hb2
    go_wp2_with fail
    refine (RRight_any A c L w2 hl' hc (HX.out _ hb2)).mono ?_
    rintro e w3 ⟨rfl, hb3⟩
    have hb3 := below_then hb2 hb3
    go_wp2_with fail
    refine (Depth_any A c L w3 hl' (HX.out _ hb3)).mono ?_
    rintro e w4 ⟨rfl, hb4⟩
    have hb4 := below_then hb3 hb4
    go_wp2_with fail
    refine (RDepth_any A c L w4 hl' hc (HX.out _ hb4)).mono ?_
    rintro e w5 ⟨rfl, hb5⟩
    have hb5 := below_then hb4 hb5
    go_wp2_with fail
    refine (Nodes_any A c L w5 hl (HX.out _ hb5)).mono ?_
    rintro e w51 ⟨rfl, hb51⟩
    have hb51 := below_then hb5 hb51
    go_wp2_with fail
    refine (RNodes_any A c L w51 hl (HX.out _ hb51)).mono ?_
    rintro e w52 ⟨rfl, rfl⟩
    go_wp2_with fail
    refine (End_any A c L i w51 hl' (HX.out _ hb51)).mono ?_
    rintro e w6 ⟨rfl, hb6⟩
    have hb6 := below_then hb51 hb6
    go_wp2_with fail
    refine (REnd_any A c L i w6 hl' hc (HX.out _ hb6)).mono ?_
    rintro e w7 ⟨rfl, hb7⟩
    have hb7 := below_then hb6 hb7
    go_wp2_with fail
    go_ret
    exact ⟨rfl, hb7⟩
end Go.Proofs.Ytmlghkkbkgfjmaa
