/- Where a text's lines are cut (strings.SplitSeq's iterator at one byte), handed to any body; what legal's folded returns. Condition: a text is no longer than a million bytes. -/
import Derived.Test.YtnofdlpifpjlbaaDoorLgF
import Derived.Test.YtnofdlpifpjlbaaDoorLgN
import Derived.Test.YtnofdlpifpjlbaaDoorPlainI
import Derived.Lib.IndexLaws
import Derived.Lib.SmallJoins
namespace Go.Proofs.YtnofdlpifpjlbaaDoor
open Go.RowKit Go.Shelf
attribute [local go_sem] Oper.semAt_some
theorem bytesI_extract (s : ByteArray) (i j : Nat) : bytesI (s.extract i j) = ((bytesI s).take j).drop i := by
  unfold bytesI
  simp [ByteArray.data_extract, Array.toList_extract, List.extract, List.map_take, List.map_drop, List.drop_take]
theorem no_ten (l : List UInt8) (h : ∀ k : Nat, l[k]? ≠ some 10) : (10 : Int) ∉ l.map fun b => (b.toNat : Int) := by
  intro hm
  obtain ⟨b, hb, e⟩ := List.mem_map.1 hm
  have hb2 : b = 10 := UInt8.toNat_inj.1 (by show b.toNat = 10; omega)
  subst hb2
  obtain ⟨k, hk⟩ := List.getElem?_of_mem hb
  exact h k hk
theorem idx_cases (r : ByteArray) : (Lib.indexByte r.data.toList 10 = -1 ∧ (10 : Int) ∉ bytesI r) ∨ ∃ i : Nat, Lib.indexByte r.data.toList 10 = (i : Int) ∧ i < r.size ∧ (10 : Int) ∉ bytesI (r.extract 0 i) ∧ bytesI r = bytesI (r.extract 0 i) ++ 10 :: bytesI (r.extract (i + 1) r.size) := by
  rcases (by omega : Lib.indexByte r.data.toList 10 < 0 ∨ 0 ≤ Lib.indexByte r.data.toList 10) with h | h
  · left
    have hge := Lib.indexByte_ge r.data.toList 10
    have e : Lib.indexByte r.data.toList 10 = -1 := by omega
    exact ⟨e, no_ten _ (Lib.indexByte_none e)⟩
  · right
    obtain ⟨i, hi⟩ : ∃ i : Nat, Lib.indexByte r.data.toList 10 = (i : Int) := ⟨_, (Int.toNat_of_nonneg h).symm⟩
    obtain ⟨h1, h2⟩ := Lib.indexByte_some hi
    have hlt : i < r.data.toList.length := (List.getElem?_eq_some_iff.1 h1).1
    have hlt' : i < r.size := by rw [Array.length_toList] at hlt; exact hlt
    have hlen : (bytesI r).length = r.size := bytesI_len r
    refine ⟨i, hi, hlt', ?_, ?_⟩
    · rw [bytesI_extract, List.drop_zero]
      unfold bytesI
      rw [← List.map_take]
      refine no_ten _ fun k e => ?_
      rw [List.getElem?_take] at e
      split at e
      · exact h2 k (by assumption) e
      · cases e
    · rw [bytesI_extract, bytesI_extract, List.drop_zero, List.take_of_length_le (show (bytesI r).length ≤ r.size by omega)]
      have hg : (bytesI r)[i]'(by omega) = 10 := by
        have : (bytesI r)[i]? = some 10 := by unfold bytesI; rw [List.getElem?_map, h1]; rfl
        rw [List.getElem?_eq_getElem (by omega)] at this
        exact Option.some.inj this
      conv => lhs; rw [← List.take_append_drop i (bytesI r), List.drop_eq_getElem_cons (by omega), hg]
structure SplSt (w : World) (r : ByteArray) (W : World) : Prop where
  below : Below w.heap.size w W
  res : W.heap[w.heap.size]? = some (.cells #[.bool false] 4 (0, 0))
  str : W.heap[w.heap.size + 1]? = some (.cells #[.string r] 9 (0, 0))
  sep : W.heap[w.heap.size + 2]? = some (.cells #[.string ⟨#[10]⟩] 9 (0, 0))
  save : W.heap[w.heap.size + 3]? = some (.cells #[.int .i64 0] 3 (0, 0))
theorem SplSt.calm {w : World} {r : ByteArray} {B : Nat} (hB : w.heap.size ≤ B) : Calm B (SplSt w r) := fun W l o o' hl h hc hs =>
  ⟨Calm.below hB W l o o' hl h hc hs.below, Calm.row W l o o' hl h hc hs.res, Calm.row W l o o' hl h hc hs.str, Calm.row W l o o' hl h hc hs.sep, Calm.row W l o o' hl h hc hs.save⟩
theorem SplSt.cut {w W : World} {r : ByteArray} (h : SplSt w r W) (r2 : ByteArray) : SplSt w r2 (W.setCell ⟨w.heap.size + 1, 0, none⟩ (.string r2)) :=
  ⟨h.below.setCell (p := ⟨w.heap.size + 1, 0, none⟩) (by show w.heap.size ≤ w.heap.size + 1; omega) _, (Below.heap_setCell W _ _ _ (by show w.heap.size ≠ w.heap.size + 1; omega)).trans h.res, Go.Joins.block_setCell h.str (.string r2),
    (Below.heap_setCell W _ _ _ (by show w.heap.size + 2 ≠ w.heap.size + 1; omega)).trans h.sep, (Below.heap_setCell W _ _ _ (by show w.heap.size + 3 ≠ w.heap.size + 1; omega)).trans h.save⟩
theorem SplSt.cells {w W : World} {r : ByteArray} (h : SplSt w r W) : W.cell? ⟨w.heap.size, 0, none⟩ = some (.bool false) ∧ W.frozen? ⟨w.heap.size, 0, none⟩ = false ∧ W.cell? ⟨w.heap.size + 1, 0, none⟩ = some (.string r) ∧ W.frozen? ⟨w.heap.size + 1, 0, none⟩ = false ∧
    W.cell? ⟨w.heap.size + 1 + 1, 0, none⟩ = some (.string ⟨#[10]⟩) ∧ W.cell? ⟨w.heap.size + 1 + 1 + 1, 0, none⟩ = some (.int .i64 0) :=
  ⟨Lib.cell_of_heap h.res 0, Go.Joins.unfrozen_of_block h.res 0, Lib.cell_of_heap h.str 0, Go.Joins.unfrozen_of_block h.str 0, Lib.cell_of_heap h.sep 0, Lib.cell_of_heap h.save 0⟩
/-- A line that is handed to the body: what is left of the text, and the line. -/
structure Line where
  p : ByteArray
  v : ByteArray
def LineRd (s : ByteArray) (w : World) (l : Line) (W : World) : Prop := SplSt w l.p W ∧ l.v.size ≤ s.size ∧ (foldsB (bytesI l.v) = false → foldableB (bytesI s) = false)
def LineAf (w : World) (l : Line) (W : World) : Prop := SplSt w l.p W ∧ foldsB (bytesI l.v) = true
def LineLv (s : ByteArray) (w : World) (cd : Code) (W : World) : Prop := cd = .ret ∧ foldableB (bytesI s) = false ∧ W.cell? ⟨w.heap.size, 0, none⟩ = some (.bool false) ∧ Below w.heap.size w W
def LineFin (s : ByteArray) (w : World) (W : World) : Prop := foldableB (bytesI s) = true ∧ ∃ r, SplSt w r W
def restLen (w W : World) : Nat := match W.cell? ⟨w.heap.size + 1, 0, none⟩ with
  | some (.string r) => r.size
  | _ => 0
theorem restLen_eq {w W : World} {r : ByteArray} (h : SplSt w r W) : restLen w W = r.size := by
  unfold restLen
  rw [h.cells.2.2.1]
set_option maxRecDepth 100000 in
theorem splitSeq_any (s : ByteArray) (w : World) : Calls Tryd.prog 53 #[.string s, .string ⟨#[10]⟩, .int .i64 0] w fun e w' =>
    e = .returned (.func (.func 59) #[] #[.pointer (some ⟨w.heap.size + 1, 0, none⟩), .pointer (some ⟨w.heap.size, 0, none⟩), .pointer (some ⟨w.heap.size + 1 + 1, 0, none⟩)]) ∧ ((w.alloc (.cells #[.string s] 9)).alloc (.cells #[.string ⟨#[10]⟩] 9)).alloc (.cells #[.int .i64 0] 3) = w' := by
  go_enter Tryd.func53, Tryd.ntmps53
  go_wp2
  go_ret
  exact ⟨rfl, rfl⟩
set_option maxRecDepth 100000 in
theorem split_any (s : ByteArray) (w : World) : Calls Tryd.prog 39 #[.string s, .string ⟨#[10]⟩] w fun e w' =>
    e = .returned (.func (.func 59) #[] #[.pointer (some ⟨w.heap.size + 1, 0, none⟩), .pointer (some ⟨w.heap.size, 0, none⟩), .pointer (some ⟨w.heap.size + 1 + 1, 0, none⟩)]) ∧ ((w.alloc (.cells #[.string s] 9)).alloc (.cells #[.string ⟨#[10]⟩] 9)).alloc (.cells #[.int .i64 0] 3) = w' := by
  go_enter Tryd.func39, Tryd.ntmps39
  go_wp2_with (go_at_call 53; refine (splitSeq_any s w).mono ?_; rintro e w' ⟨rfl, rfl⟩)
  go_ret
  exact ⟨rfl, rfl⟩
set_option maxRecDepth 100000 in
set_option maxHeartbeats 2000000 in
theorem splitIter (s : ByteArray) (lp : Nat) (w W : World) (hs : s.size ≤ 1000000) (h0 : SplSt w s W)
    (Bk : World → Prop) (Bx : Code → World → Prop) (keep : ∀ A B, KeepsOthers A B → Bk A → Bk B)
    (hY : ∀ (l : Line) (W1 : World), LineRd s w l W1 → Bk W1 → YieldAt Fence.wide (3 - 1 - 1) Tryd.prog lp #[.string l.v] W1 fun e W' =>
      (e = .returned (.bool true) ∧ LineAf w l W' ∧ Bk W') ∨ (e = .returned (.bool false) ∧ ∃ cd, LineLv s w cd W' ∧ Bx cd W'))
    (hk : Bk W) :
    CallsIn Fence.wide (3 - 1) Tryd.prog 59 #[.func (.yield lp) #[] #[], .pointer (some ⟨w.heap.size + 1 + 1, 0, none⟩), .pointer (some ⟨w.heap.size + 1, 0, none⟩), .pointer (some ⟨w.heap.size + 1 + 1 + 1, 0, none⟩)] W fun e W' => (∃ v, e = .returned v) ∧
      ((LineFin s w W' ∧ Bk W') ∨ (∃ cd, LineLv s w cd W' ∧ Bx cd W')) := by
  refine callsIn_of_wp Tryd.func59 rfl trivial ?_ rfl
  simp only [Tryd.ntmps59, List.size_toArray, List.length_cons, List.length_nil, Nat.reduceAdd, Nat.reduceSub, Array.replicate_succ, Array.replicate_zero, List.push_toArray, List.append_toArray, List.nil_append, List.cons_append]
  have Hs := Lib.hid hs
  have H0 := Lib.hid h0
  have Hk := Lib.hid hk
  obtain ⟨c0, c1, c2, c3, c4, c5⟩ := h0.cells
  clear hs h0 hk
  gi_wp2
  clear c0 c1 c2 c3 c4 c5
  gi_loopw [] (fun wr => ∃ r : ByteArray, r.size ≤ s.size ∧ Hid (foldableB (bytesI s) = foldableB (bytesI r)) ∧ Hid (SplSt w r wr) ∧ Hid (Bk wr)) (fun wr => restLen w wr)
  case atStart => exact ⟨s, Nat.le_refl _, rfl, H0, Hk⟩
  case round =>
    obtain ⟨r, hr, hf, hst, hb⟩ := hrel
    obtain ⟨c0, c1, c2, c3, c4, c5⟩ := hst.out.cells
    have HI : Hid (Calls Tryd.prog 61 #[.string r, .string ⟨#[10]⟩] wr fun e w' => e = .returned (.int .i64 (Lib.indexByte r.data.toList 10)) ∧ w' = wr) := strings_Index_one r 10 wr
    have hge := hst.out.below.size
    have hYr := hY
    clear hY
    rcases idx_cases r with ⟨hi, hno⟩ | ⟨i, hi, hlt, hno, hcut⟩
    · rw [hi] at HI
      have HZ : Hid (foldableB (bytesI s) = foldsB (bytesI r)) := by show _ = _; rw [hf.out, folds_line hno]
      obtain ⟨fn, tmps, assign, body, hy, hR⟩ := hYr ⟨r, r⟩ wr ⟨hst.out, hr, fun h => by rw [HZ.out]; exact h⟩ hb.out
      clear hYr
      gi_wp2_with (refine ⟨trivial, ?_⟩; gi_at_call 61; refine (callsIn_wide.2 HI.out).mono ?_; rintro e w' ⟨rfl, rfl⟩)
      refine hR.mono ?_
      rintro e W3 (⟨rfl, hm3, hk3⟩ | ⟨rfl, cd, hL, hx⟩)
      · gi_wp2
        go_end0
        exact ⟨⟨_, rfl⟩, .inl ⟨⟨HZ.out.trans hm3.2, _, hm3.1⟩, hk3⟩⟩
      · gi_wp2
        go_end0
        exact ⟨⟨_, rfl⟩, .inr ⟨cd, hL, hx⟩⟩
    · rw [hi] at HI
      obtain ⟨p, hp⟩ : ∃ p, r.extract 0 i = p := ⟨_, rfl⟩
      obtain ⟨r2, hr2⟩ : ∃ r2, r.extract (i + 1) r.size = r2 := ⟨_, rfl⟩
      rw [hp, hr2] at hcut
      rw [hp] at hno
      have HF : Hid (foldableB (bytesI s) = (foldsB (bytesI p) && foldableB (bytesI r2))) := by show _ = _; rw [hf.out, hcut, fold_cut hno]
      have HZ : Hid (p.size ≤ s.size ∧ r2.size ≤ s.size ∧ r2.size < r.size) := by
        have h1 : (bytesI r).length = (bytesI p).length + (1 + (bytesI r2).length) := by rw [hcut]; simp; omega
        rw [bytesI_len, bytesI_len, bytesI_len] at h1
        exact ⟨by omega, by omega, by omega⟩
      have hw0 : wrap64 (i : Int) = i := IntWalk.wrap64_in _ (by have := Hs.out; omega)
      have hw1 : wrap64 ((i : Int) + 1) = i + 1 := IntWalk.wrap64_in _ (by have := Hs.out; omega)
      have hi0 : ¬ (i : Int) < 0 := by omega
      have hi1 : (i : Int) ≤ (r.size : Int) := by omega
      have hi2 : (i : Int) + 1 ≤ (r.size : Int) := by omega
      have hi3 : ((i : Int) + 1).toNat = i + 1 := by omega
      have hi4 : (0 : Int) ≤ (i : Int) + 1 := by omega
      obtain ⟨fn, tmps, assign, body, hy, hR⟩ := hYr ⟨r, p⟩ wr ⟨hst.out, HZ.out.1, fun h => by rw [HF.out]; rw [show foldsB (bytesI p) = false from h]; rfl⟩ hb.out
      have HRl : Hid (restLen w wr = r.size) := restLen_eq hst.out
      clear hYr hno hcut
      gi_wp2_with (refine ⟨trivial, ?_⟩; gi_at_call 61; refine (callsIn_wide.2 HI.out).mono ?_; rintro e w' ⟨rfl, rfl⟩)
      refine hR.mono ?_
      rintro e W3 (⟨rfl, hm3, hk3⟩ | ⟨rfl, cd, hL, hx⟩)
      · obtain ⟨d0, d1, d2, d3, d4, d5⟩ := hm3.1.cells
        have HM := Lib.hid (hm3.1.cut r2)
        have HFf : Hid (foldableB (bytesI s) = foldableB (bytesI r2)) := by show _ = _; rw [HF.out, show foldsB (bytesI p) = true from hm3.2]; rfl
        have HB : Hid (Bk (W3.setCell ⟨w.heap.size + 1, 0, none⟩ (.string r2))) := keep _ _ (KeepsOthers.setCell _ _ _) hk3
        clear c0 c1 c2 c3 c4 c5 hb hst hm3 hk3
        gi_wp2
        refine ⟨⟨r2, HZ.out.2.1, HFf, HM, HB⟩, ?_⟩
        rw [restLen_eq HM.out, HRl.out]; exact HZ.out.2.2
      · gi_wp2
        refine bodyPost_ret (results_none rfl _ _ _) rfl ?_
        exact ⟨⟨_, rfl⟩, .inr ⟨cd, hL, hx⟩⟩
set_option maxRecDepth 100000 in
set_option maxHeartbeats 2000000 in
theorem folded_any (s : ByteArray) (w : World) (hs : s.size ≤ 1000000) :
    Calls Tryd.prog 22 #[.string s] w fun e w' => e = .returned (.bool (foldableB (bytesI s))) ∧ Below w.heap.size w w' := by
  refine (callsIn_wide (n := 3)).1 ?_
  refine callsIn_of_wp_marks Tryd.func22 rfl trivial ?_ rfl
  simp only [Tryd.ntmps22, List.size_toArray, List.length_cons, List.length_nil, Nat.reduceAdd, Nat.reduceSub, Array.replicate_succ, Array.replicate_zero, List.push_toArray, List.append_toArray, List.nil_append, List.cons_append]
  gi_wp2_with (refine ⟨trivial, ?_⟩; gi_at_call 39; refine (callsIn_wide.2 (split_any _ _)).mono ?_; rintro e w' ⟨rfl, rfl⟩)
  obtain ⟨V, hV, hsz, h0⟩ : ∃ V, ((((w.alloc (.cells #[.bool false] 4)).alloc (.cells #[.string s] 9)).alloc (.cells #[.string ⟨#[10]⟩] 9)).alloc (.cells #[.int .i64 0] 3)) = V ∧ V.heap.size = w.heap.size + 4 ∧ SplSt w s V := by
    have b0 := World.alloc_heap_new w (.cells #[.bool false] 4)
    have b1 := World.alloc_heap_new (w.alloc (.cells #[.bool false] 4)) (.cells #[.string s] 9)
    have b2 := World.alloc_heap_new ((w.alloc (.cells #[.bool false] 4)).alloc (.cells #[.string s] 9)) (.cells #[.string ⟨#[10]⟩] 9)
    have b3 := World.alloc_heap_new (((w.alloc (.cells #[.bool false] 4)).alloc (.cells #[.string s] 9)).alloc (.cells #[.string ⟨#[10]⟩] 9)) (.cells #[.int .i64 0] 3)
    simp only [World.size_alloc] at b1 b2 b3
    refine ⟨_, rfl, by simp, ?_, ?_, ?_, ?_, b3⟩
    · exact ((((Below.refl _ w).alloc (Nat.le_refl _) _).alloc (by simp) _).alloc (by simp <;> omega) _).alloc (by simp <;> omega) _
    · exact (Below.heap_alloc _ _ _ (by simp <;> omega)).trans ((Below.heap_alloc _ _ _ (by simp <;> omega)).trans ((Below.heap_alloc _ _ _ (by simp)).trans b0))
    · exact (Below.heap_alloc _ _ _ (by simp <;> omega)).trans ((Below.heap_alloc _ _ _ (by simp)).trans b1)
    · exact (Below.heap_alloc _ _ _ (by simp)).trans b2
  rw [hV]
  clear hV
  have Hs := Lib.hid hs
  have Hz := Lib.hid hsz
  have H0 := Lib.hid h0
  clear hs hsz h0
  have hwV : w.heap.size ≤ V.heap.size := by have := Hz.out; omega
  refine range_law (β := Line) rfl (by decide) (gf := 59) (lb := #[.pointer (some ⟨w.heap.size + 1 + 1, 0, none⟩), .pointer (some ⟨w.heap.size + 1, 0, none⟩), .pointer (some ⟨w.heap.size + 1 + 1 + 1, 0, none⟩)]) rfl trivial (enters_of Tryd.func59 (by kernel_rfl) rfl)
    (fun l => #[.string l.v]) (fun _ => rfl)
    (LineRd s w) (LineAf w) (fun cd _ W => LineLv s w cd W) (LineFin s w) (LineLv s w)
    (fun l => (SplSt.calm hwV).and (Calm.pure.and Calm.pure)) (fun l => (SplSt.calm hwV).and Calm.pure)
    (fun cd l => Calm.pure.and (Calm.pure.and (Calm.cell.and (Calm.below hwV)))) (Calm.pure.and (Calm.ex fun r => SplSt.calm hwV)) (fun cd => Calm.pure.and (Calm.pure.and (Calm.cell.and (Calm.below hwV))))
    (fun l => { tmps := #[.string s, undef, .pointer (some ⟨w.heap.size, 0, none⟩), .string l.v, .string s, .func (.func 59) #[] #[.pointer (some ⟨w.heap.size + 1 + 1, 0, none⟩), .pointer (some ⟨w.heap.size + 1, 0, none⟩), .pointer (some ⟨w.heap.size + 1 + 1 + 1, 0, none⟩)], .string l.v, undef, undef, undef], defers := [] }) ?assign ?body ?iter ?done ?stop
  case assign =>
    intro lp l W K hK
    gi_wp2
    exact hK
  case iter =>
    intro lp Bk Bx o kBk kBx hY hk
    have hbW : Below V.heap.size V ((V.alloc (.deferred (some []))).alloc o) := ((Below.refl _ V).alloc (Nat.le_refl _) _).alloc (by simp) _
    have hz := Hz.out
    have h0 := H0.out
    exact splitIter s lp w _ Hs.out ⟨h0.below.trans (hbW.mono hwV), (hbW.block _ (by omega)).trans h0.res, (hbW.block _ (by omega)).trans h0.str, (hbW.block _ (by omega)).trans h0.sep, (hbW.block _ (by omega)).trans h0.save⟩ Bk Bx kBk hY hk
  case done =>
    rintro D W hD ⟨hR, r, hr⟩ hK
    obtain ⟨d0, d1, _⟩ := hr.cells
    have HR := Lib.hid hR
    have Hb := Lib.hid hr.below
    clear hR hr
    gi_wp2
    have hK' := (KeepsOthers.setCell W ⟨w.heap.size, 0, none⟩ (.bool true)).same D _ hK rfl
    refine ⟨by simp, .inl ⟨_, _, rfl, run_takeDeferred hK', ?_⟩⟩
    have hc5 := cell_kept (World.cell?_setCell_same' W ⟨w.heap.size, 0, none⟩ (.bool true) (by rw [d0]; rfl)) (grownBy_putObj' _ D (.deferred none)) (fun r e => by cases e; exact ⟨_, hK', rfl⟩)
    refine ⟨.bool true, ?_, ret_bool HR.out.symm, (Hb.out.setCell (p := ⟨w.heap.size, 0, none⟩) (Nat.le_refl _) _).trans (belowK_b (w := w) (Nat.le_refl _) _ D _ _ (by omega) hK' rfl rfl)⟩
    simp [results, Tryd.f22, go_sem, hc5]
  case stop =>
    rintro D cd W hD ⟨rfl, hR, hc, hb⟩ hK
    gi_wp2
    refine ⟨by simp, .inl ⟨_, _, rfl, run_takeDeferred hK, ?_⟩⟩
    have hc5 := cell_kept hc (grownBy_putObj' _ D (.deferred none)) (fun r e => by cases e; exact ⟨_, hK, rfl⟩)
    refine ⟨.bool false, ?_, ret_bool hR.symm, hb.trans (belowK_b (w := w) (Nat.le_refl _) W D _ _ (by omega) hK rfl rfl)⟩
    simp [results, Tryd.f22, go_sem, hc5]
  case body =>
    rintro lp l W ⟨hst, hv, hx⟩
    obtain ⟨d0, d1, _⟩ := hst.cells
    have HS := Lib.hid hst
    have HX := Lib.hid hx
    have hF := folds_any l.v W (by have := Hs.out; omega)
    obtain ⟨b, hb⟩ : ∃ b, foldsB (bytesI l.v) = b := ⟨_, rfl⟩
    rw [hb] at hF HX
    have HB := Lib.hid hb
    clear hst hx hv hb
    cases b with
    | true =>
      gi_wp2_with (refine ⟨trivial, ?_⟩; gi_at_call 40; refine (CallsIn.inRound lp (callsIn_wide.2 hF)).mono ?_; rintro e w1 ⟨rfl, rfl⟩)
      exact ⟨KeepsOthers.refl _, HS.out, HB.out⟩
    | false =>
      gi_wp2_with (refine ⟨trivial, ?_⟩; gi_at_call 40; refine (CallsIn.inRound lp (callsIn_wide.2 hF)).mono ?_; rintro e w1 ⟨rfl, rfl⟩)
      exact ⟨KeepsOthers.setCell _ _ _, rfl, HX.out (by simp), World.cell?_setCell_same' _ _ _ (by rw [d0]; rfl), HS.out.below.setCell (p := ⟨w.heap.size, 0, none⟩) (Nat.le_refl _) _⟩
end Go.Proofs.YtnofdlpifpjlbaaDoor
