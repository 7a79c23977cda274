/- The program's table of names: put, get. No condition but the sizes. -/
import Derived.Test.YtiblamapjekdeaaGreatFc
import Derived.Maps.OwnOps
namespace Go.Proofs.YtiblamapjekdeaaGreat
open Go.RowKit Go.Maps Go.WideMaps
theorem lawS : Keyed Tryz.prog 9 := string_keyed Tryz.underlying9
theorem zeroI (w : World) : (zeroValue 3).run Tryz.prog w = .ok (.int .i64 0) w := by kernel_rfl
theorem isKey (s : ByteArray) : WideAt.IsKeyLit (keyL s) := trivial
@[go_sem] theorem eqlNil (w : World) : (binOp .eql 53 (.map none) (.map none)).run Tryz.prog w = .ok (.bool true) w := by kernel_rfl
@[go_sem] theorem eqlSome (bm : Nat) (w : World) : (binOp .eql 53 (.map (some bm)) (.map none)).run Tryz.prog w = .ok (.bool false) w := by kernel_rfl
def getI (l : List (ByteArray × Nat)) (s : ByteArray) : Nat := (look l s).getD 0
theorem tget_any (a : ByteArray) (tb to N : Nat) (m : Value) (l : List (ByteArray × Nat)) (w : World) (c0 : w.cell? ⟨tb, to, none⟩ = some m) (h : NmAt w N m l) (ha : a.size ≤ maxLen) :
    Calls Tryz.prog 36 #[.pointer (some ⟨tb, to, none⟩), .string a] w fun e w' => e = .returned (.tuple #[.int .i64 (getI l a : Nat), .bool (look l a).isSome]) ∧ w = w' := by
  have hkey : keyOf Tryz.prog 9 (.string a) = some (keyL a) := keyOf_string_mk Tryz.underlying9 ha
  rcases h with ⟨rfl, rfl⟩ | ⟨b, D, rfl, h1, hown, hl⟩
  · have hrun := look_nil (w := w) true lawS Tryz.underlying53 (zeroI _) hkey
    go_enter Tryz.func36, Tryz.ntmps36
    go_wp2
    go_ret2
    exact ⟨rfl, rfl⟩
  · obtain ⟨hn, hs⟩ := hl a
    have HN := Lib.hid hn
    have HS := Lib.hid hs
    clear hl hn hs
    go_enter Tryz.func36, Tryz.ntmps36
    go_wp2_with (first
      | (at_lookup; refine wpList_lookup_own_ok_int _ rfl _ _ 53 rfl 9 3 .i64 lawS Tryz.underlying53 Tryz.underlying3 (zeroI _) b l.length D rfl hown _ _ rfl hkey ?_; intro c hat hwc)
      | go_in)
    go_ret2
    obtain ⟨r, hr⟩ : ∃ r, look l a = r := ⟨_, rfl⟩
    cases r with
    | none =>
      have e1 := HN.out hr
      rw [atKey_of_not_has e1] at hat
      have : c = 0 := by simp only [DataW.lit.injEq, Lit.int.injEq, true_and] at hat; exact hat.symm
      subst this
      exact ⟨by rw [e1, getI, hr]; rfl, rfl⟩
    | some i =>
      obtain ⟨e1, e2⟩ := HS.out i hr
      rw [e2] at hat
      have : c = (i : Int) := by simp only [DataW.lit.injEq, Lit.int.injEq, true_and] at hat; exact hat.symm
      subst this
      exact ⟨by rw [e1, getI, hr]; rfl, rfl⟩
/-- The map takes one name more. -/
theorem BdAt.put {W w' : World} {N bb b : Nat} {s : Mk} {R : Nat → ORow} {d n : Int} {D : DataW Unit} {a : ByteArray} {i : Nat} (h : BdAt W N bb s R (.map (some b)) d n) (hb : N ≤ b) (hD : W.ownsMap Tryz.prog 9 (plainElem (H := Unit) Tryz.prog 3) b s.names.length D)
    (hl : ∀ x, (look s.names x = none → Maps.has D (keyL x) = false) ∧ ∀ i, look s.names x = some i → Maps.has D (keyL x) = true ∧ D.atKey (keyL x) (.lit (.int .i64 0)) = .lit (.int .i64 (i : Int)))
    (hown : w'.ownsMap Tryz.prog 9 (plainElem (H := Unit) Tryz.prog 3) b (s.names.length + 1) (D.put (keyL a) (.lit (.int .i64 (i : Int))))) (hg : W.grownBy w' (some b)) :
    Bd w' N bb { s with names := s.names ++ [(a, i)] } d n ∧ Below N W w' := by
  obtain ⟨es, c, hbm⟩ := ownsMap_block hD
  have hfr := h.made.fam.noMap hbm
  have hf : Fam w' N R := ⟨fun j => ownsRow_by (h.made.fam.own j) fun g hg' => hg.block g ((h.made.fam.own j).lt g hg').2 (by intro e; injection e with e; subst e; exact hfr j hg'), h.made.fam.sep⟩
  have hm := h.made.of hf
  refine ⟨⟨R, _, ⟨hm.fam, hm.nodes, hm.roots, hm.way, hm.kids, hm.rest⟩, h.bd, .inr ⟨b, _, rfl, hb, by rw [List.length_append]; exact hown, fun x => ?_⟩, Nat.le_trans h.lt hg.size⟩, hg.os, hg.tape, hg.output, hg.size, fun k hk => hg.block k (by have := h.lt; omega) (by intro e; injection e with e; omega)⟩
  have hI : IsMap D := hD.isMap
  show (look (s.names ++ [(a, i)]) x = none → _) ∧ ∀ j, look (s.names ++ [(a, i)]) x = some j → _
  rw [look_snoc]
  by_cases e : a = x
  · subst e
    rw [if_pos rfl]
    refine ⟨fun h => (by cases h), fun j hj => ?_⟩
    obtain rfl : i = j := by simpa using hj
    exact ⟨has_put_same hI (isKey a) _, atKey_put_same hI (isKey a) _ _⟩
  · have hne : keyL x ≠ keyL a := keyL_ne fun e2 => e e2.symm
    rw [if_neg e, has_put_other hne, atKey_put_other hne]
    exact hl x
set_option maxRecDepth 10000 in
set_option maxHeartbeats 1000000 in
theorem tput_any (a : ByteArray) (i N bb : Nat) (s : Mk) (d n : Int) (W : World) (h : Bd W N bb s d n) (ha : a.size ≤ maxLen) (hi : i ≤ 4000000) (hs : s.names.length ≤ 1900000) :
    Calls Tryz.prog 61 #[.pointer (some ⟨bb, 2, none⟩), .string a, .int .i64 (i : Int)] W fun e w' => e = .returned (.tuple #[]) ∧ Bd w' N bb { s with names := s.names ++ [(a, i)] } d n ∧ Below N W w' := by
  have hkey : keyOf Tryz.prog 9 (.string a) = some (keyL a) := keyOf_string_mk Tryz.underlying9 ha
  have hwi : plainElem (H := Unit) Tryz.prog 3 (.int .i64 (i : Int)) = some (.lit (.int .i64 (i : Int)), []) := plainElem_int Tryz.underlying3 (WalkArith.wf_i64 (by omega))
  have hmx : s.names.length < maxLen := by unfold maxLen; omega
  have hmm := @run_makeMap Tryz.prog
  obtain ⟨R, m, h⟩ := h
  obtain ⟨_, _, c2, _, _, _, hfz, hbb⟩ := h.cells
  have f2 := hfz 2
  have H := Lib.hid h
  rcases h.nm with ⟨rfl, hl0⟩ | ⟨b, D, rfl, hb, hD, hl⟩
  · have hn0 : NmAt ((W.alloc (.map #[] 0)).setCell ⟨bb, 2, none⟩ (.map (some W.heap.size))) N (.map (some W.heap.size)) [] := by
      refine .inr ⟨_, _, rfl, h.lt, ((World.ownsMap_made W _ _ _).setCell (by show W.heap.size ≠ bb; omega) _).mono (Nat.zero_le _), fun x => ⟨fun _ => rfl, fun i hx => by cases hx⟩⟩
    obtain ⟨R', h', hbel⟩ := h.named (World.grownBy_alloc W (.map #[] 0) none) (.map (some W.heap.size)) hn0
    obtain ⟨V, hV⟩ : ∃ V, (W.alloc (.map #[] 0)).setCell ⟨bb, 2, none⟩ (.map (some W.heap.size)) = V := ⟨_, rfl⟩
    rw [hV] at h' hbel
    obtain ⟨_, _, k2, _⟩ := h'.cells
    rcases h'.nm with ⟨he, _⟩ | ⟨b', D, hbe, hb, hD, hl⟩
    · cases he
    · cases hbe
      have HP := Lib.hid (And.intro h' (And.intro hb (And.intro hD hl)))
      have hba := (Below.refl W.heap.size W).alloc (Nat.le_refl _) (.map #[] 0)
      have ka := (hba.cell (p := ⟨bb, 2, none⟩) hbb).trans c2
      have fa := (hba.frozen (p := ⟨bb, 2, none⟩) hbb).trans f2
      clear hba
      have Hb := Lib.hid hbel
      have Hl0 := Lib.hid hl0
      clear h h' hn0 hl hb hbel hbb hfz hl0
      go_enter Tryz.func61, Tryz.ntmps61
      go_wp2_with (first
        | (at_mapUpdate; refine wpList_mapUpdate_own _ rfl _ _ _ 53 rfl 9 3 lawS Tryz.underlying53 _ W.heap.size 0 D rfl hD (by unfold maxLen; omega) _ _ _ rfl rfl hkey _ [] hwi ?_; intro w1 hown1 hgrow1)
        | go_in)
      go_end0
      obtain ⟨h', hb, hD', hl⟩ := HP.out
      obtain ⟨q1, q2⟩ := h'.put (a := a) (i := i) hb hD' hl hown1 hgrow1
      refine ⟨rfl, ?_, Hb.out.trans q2⟩
      rw [Hl0.out]; exact q1
  · have HP := Lib.hid (And.intro hb (And.intro hD hl))
    clear h hl hb hbb hfz
    go_enter Tryz.func61, Tryz.ntmps61
    go_wp2_with (first
      | (at_mapUpdate; refine wpList_mapUpdate_own _ rfl _ _ _ 53 rfl 9 3 lawS Tryz.underlying53 _ b s.names.length D rfl hD hmx _ _ _ rfl rfl hkey _ [] hwi ?_; intro w1 hown1 hgrow1)
      | go_in)
    go_end0
    obtain ⟨hb, hD', hl⟩ := HP.out
    exact ⟨rfl, H.out.put hb hD' hl hown1 hgrow1⟩
end Go.Proofs.YtiblamapjekdeaaGreat
