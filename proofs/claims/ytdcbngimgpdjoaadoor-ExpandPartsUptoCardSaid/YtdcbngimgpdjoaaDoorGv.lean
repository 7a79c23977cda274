/- Words and URI signs: what the functions return, in every world. No condition (a text's size at most the greatest int). -/
import Derived.Test.YtdcbngimgpdjoaaDoorHex
import Derived.Test.YtdcbngimgpdjoaaDoorOpen
import Derived.RangeFuncRecord
import Derived.Lib.Builder
import Derived.Lib.SmallJoins
import Derived.Test.YtdcbngimgpdjoaaDoorRange
import Derived.BigGuardIn
import Derived.Deep.AppendLies
namespace Go.Proofs.YtdcbngimgpdjoaaDoor
open Go.RowKit
set_option maxHeartbeats 400000 in
theorem Ramong_any (s : ByteArray) (c : Int) (w : World) (hs : s.size ≤ maxLen) :
    Calls Tryd.prog 86 #[.string s, .int .i64 c] w fun e w' => e = .returned (.bool (amongB s.data.toList c)) ∧ w = w' := by
  unfold maxLen at hs
  go_enter Tryd.func86, Tryd.ntmps86
  go_wp2
  go_loop [5] (fun i => ∃ k : Nat, k ≤ s.size ∧ i = .int .i64 k ∧ Hid (amongB (s.data.toList.take k) c = false)) (fun i => s.size - (intOf i).toNat)
  case atStart => exact ⟨0, Nat.zero_le _, rfl, rfl⟩
  case round =>
    obtain ⟨k, hk, rfl, hm⟩ := hrel
    by_cases hlt : k < s.size
    · go_wp2
      · have hh : (wrap64 (s[k].toNat : Int) == c) = true := by assumption
        rw [wrap64_u8] at hh
        go_ret
        exact ⟨ret_bool (among_hit hlt (by simpa using hh)).symm, rfl⟩
      · have hh : (wrap64 (s[k].toNat : Int) == c) = false := by assumption
        rw [wrap64_u8] at hh
        go_round
        case rel => exact ⟨k + 1, by omega, by go_num, among_miss hlt hm.out hh⟩
        case measure => simp [intOf]; omega
    · go_wp2
      go_ret
      have hm' := hm.out
      rw [List.take_of_length_le (by simp; omega)] at hm'
      exact ⟨ret_bool hm'.symm, rfl⟩
set_option maxHeartbeats 1000000 in
theorem Word_any (c : Int) (w : World) : Calls Tryd.prog 92 #[.int .i64 c] w fun e w' => e = .returned (.bool (wordB c)) ∧ w = w' := by
  go_enter Tryd.func92, Tryd.ntmps92
  go_wp2
  all_goals (go_ret; exact ⟨ret_bool (by rw [Bool.eq_iff_iff]; simp [wordB]; try omega), rfl⟩)
set_option maxHeartbeats 1000000 in
theorem RWord_any (c : Int) (w : World) : Calls Tryd.prog 85 #[.int .i64 c] w fun e w' => e = .returned (.bool (wordB c)) ∧ w = w' := by
  go_enter Tryd.func85, Tryd.ntmps85
  go_wp2
  all_goals (go_ret; exact ⟨ret_bool (by rw [Bool.eq_iff_iff]; simp [wordB]; try omega), rfl⟩)
/-- The URI signs that are no words. -/
def uriL : List UInt8 := [35, 59, 47, 63, 58, 64, 38, 61, 43, 36, 44, 95, 46, 33, 126, 42, 39, 40, 41, 91, 93]
/-- How many code points the URI sign at a list's beginning has. -/
def signN (l : List Int) : Nat :=
  if l.length = 0 then 0 else if nth l 0 = 37 then (if 2 < l.length ∧ 0 ≤ hexI (nth l 1) ∧ 0 ≤ hexI (nth l 2) then 3 else 0)
  else if wordB (nth l 0) = true ∨ amongB uriL (nth l 0) = true then 1 else 0
end Go.Proofs.YtdcbngimgpdjoaaDoor
/- props.sign: what it returns, in every world. No condition. -/
namespace Go.Proofs.YtdcbngimgpdjoaaDoor
open Go.RowKit
def uriRow (t : TypeId) : Obj := .cells #[.int .u8 35, .int .u8 59, .int .u8 47, .int .u8 63, .int .u8 58, .int .u8 64, .int .u8 38, .int .u8 61, .int .u8 43, .int .u8 36, .int .u8 44, .int .u8 95, .int .u8 46, .int .u8 33, .int .u8 126, .int .u8 42, .int .u8 39, .int .u8 40, .int .u8 41, .int .u8 91, .int .u8 93] t (21, 22)
theorem uri_cell (w : World) (t : TypeId) (k : Nat) (hk : k < 21) : (w.alloc (uriRow t)).cell? ⟨w.heap.size, k, none⟩ = some (.int .u8 ((uriL[k]'hk).toNat : Int)) := by
  rw [Lib.cell_of_heap (World.alloc_heap_new w (uriRow t))]
  have : ∀ k : Fin 21, (#[.int .u8 35, .int .u8 59, .int .u8 47, .int .u8 63, .int .u8 58, .int .u8 64, .int .u8 38, .int .u8 61, .int .u8 43, .int .u8 36, .int .u8 44, .int .u8 95, .int .u8 46, .int .u8 33, .int .u8 126, .int .u8 42, .int .u8 39, .int .u8 40, .int .u8 41, .int .u8 91, .int .u8 93] : Array Value)[k.val]? = some (.int .u8 ((uriL[k.val]'k.2).toNat : Int)) := by
    intro k
    match k with
    | ⟨0, _⟩ => rfl
    | ⟨1, _⟩ => rfl
    | ⟨2, _⟩ => rfl
    | ⟨3, _⟩ => rfl
    | ⟨4, _⟩ => rfl
    | ⟨5, _⟩ => rfl
    | ⟨6, _⟩ => rfl
    | ⟨7, _⟩ => rfl
    | ⟨8, _⟩ => rfl
    | ⟨9, _⟩ => rfl
    | ⟨10, _⟩ => rfl
    | ⟨11, _⟩ => rfl
    | ⟨12, _⟩ => rfl
    | ⟨13, _⟩ => rfl
    | ⟨14, _⟩ => rfl
    | ⟨15, _⟩ => rfl
    | ⟨16, _⟩ => rfl
    | ⟨17, _⟩ => rfl
    | ⟨18, _⟩ => rfl
    | ⟨19, _⟩ => rfl
    | ⟨20, _⟩ => rfl
    | ⟨n + 21, h⟩ => exact absurd h (by omega)
  exact this ⟨k, hk⟩
theorem uri_hit {k : Nat} (hk : k < 21) : amongB uriL ((uriL[k]'hk).toNat : Int) = true := by
  unfold amongB
  exact List.any_eq_true.2 ⟨uriL[k]'hk, List.getElem_mem _, by simp⟩
theorem uri_miss {k : Nat} {x : Int} (hk : k < 21) (hp : amongB (uriL.take k) x = false) (h : ((uriL[k]'hk).toNat : Int) ≠ x) : amongB (uriL.take (k + 1)) x = false := by
  unfold amongB at hp ⊢
  rw [List.take_succ_eq_append_getElem hk, List.any_append, hp]
  simpa using h
set_option maxRecDepth 100000 in
set_option maxHeartbeats 2000000 in
theorem sign_any (A : Option Addr) (c : Nat) (l : List Int) (w : World) (hl : l.length ≤ 9223372036854775807) (hI : IntsAt w w.heap.size A l) :
    Calls Tryd.prog 89 #[.slice A l.length c] w fun e w' => e = .returned (.int .i64 (signN l)) ∧ Below w.heap.size w w' := by
  by_cases h0 : l.length = 0
  · have h0' : ((l.length : Int) == 0) = true := beq_iff_eq.2 (by omega)
    have hs : signN l = 0 := by simp [signN, h0]
    rw [hs]
    clear hs h0
    go_enter Tryd.func89, Tryd.ntmps89
    go_wp2_with fail
    go_ret
    exact ⟨rfl, Below.refl _ _⟩
  · have h0' : ((l.length : Int) == 0) = false := beq_eq_false_iff_ne.2 (by omega)
    have h0i : (0 : Int) < (l.length : Int) := by omega
    obtain ⟨b, off, rfl, hbw, hcc⟩ := hI (by omega)
    have hc0 : w.cell? ⟨b, off, none⟩ = some (.int .i64 (nth l 0)) := hcc 0 (by omega)
    have HC := Lib.hid hcc
    obtain ⟨r, hr⟩ : ∃ r, signN l = r := ⟨_, rfl⟩
    rw [hr]
    unfold signN at hr
    rw [if_neg h0] at hr
    have HR := Lib.hid hr
    obtain ⟨x, hx⟩ : ∃ x, nth l 0 = x := ⟨_, rfl⟩
    rw [hx] at HR hc0
    clear hr hcc hx h0
    by_cases hp : x = 37
    · subst hp
      have HR2 : Hid ((if 2 < l.length ∧ 0 ≤ hexI (nth l 1) ∧ 0 ≤ hexI (nth l 2) then 3 else 0) = r) := by have := HR.out; rwa [if_pos rfl] at this
      clear HR
      by_cases h2 : 2 < l.length
      · have h2i : (2 : Int) < (l.length : Int) := by omega
        have h1i : (1 : Int) < (l.length : Int) := by omega
        have hc1 := HC.out 1 (by omega)
        have hc2 := HC.out 2 (by omega)
        obtain ⟨z1, hz1⟩ : ∃ z, nth l 1 = z := ⟨_, rfl⟩
        obtain ⟨z2, hz2⟩ : ∃ z, nth l 2 = z := ⟨_, rfl⟩
        rw [hz1] at hc1 HR2
        rw [hz2] at hc2 HR2
        clear hz1 hz2
        by_cases k1 : 0 ≤ hexI z1
        · by_cases k2 : 0 ≤ hexI z2
          · have HR3 : Hid (3 = r) := by have := HR2.out; rwa [if_pos ⟨h2, k1, k2⟩] at this
            clear HR2 h2
            go_enter Tryd.func89, Tryd.ntmps89
            go_wp2_with (go_at_call 91; refine (Hex_any _ _).mono ?_; rintro e w' ⟨rfl, rfl⟩)
            go_ret
            exact ⟨ret_int (by have := HR3.out; omega), Below.refl _ _⟩
          · have HR3 : Hid (0 = r) := by have := HR2.out; rwa [if_neg (fun h => k2 h.2.2)] at this
            have k2' : decide (0 ≤ hexI z2) = false := decide_eq_false k2
            clear HR2 h2
            go_enter Tryd.func89, Tryd.ntmps89
            go_wp2_with (go_at_call 91; refine (Hex_any _ _).mono ?_; rintro e w' ⟨rfl, rfl⟩)
            go_ret
            exact ⟨ret_int (by have := HR3.out; omega), Below.refl _ _⟩
        · have HR3 : Hid (0 = r) := by have := HR2.out; rwa [if_neg (fun h => k1 h.2.1)] at this
          have k1' : decide (0 ≤ hexI z1) = false := decide_eq_false k1
          clear HR2 h2
          go_enter Tryd.func89, Tryd.ntmps89
          go_wp2_with (go_at_call 91; refine (Hex_any _ _).mono ?_; rintro e w' ⟨rfl, rfl⟩)
          go_ret
          exact ⟨ret_int (by have := HR3.out; omega), Below.refl _ _⟩
      · have h2i : ¬ (2 : Int) < (l.length : Int) := by omega
        have HR3 : Hid (0 = r) := by have := HR2.out; rwa [if_neg (fun h => h2 h.1)] at this
        have h2d : decide ((2 : Int) < (l.length : Int)) = false := decide_eq_false h2i
        clear HR2 h2
        go_enter Tryd.func89, Tryd.ntmps89
        go_wp2_with fail
        go_ret
        exact ⟨ret_int (by have := HR3.out; omega), Below.refl _ _⟩
    · have hp' : (x == 37) = false := beq_eq_false_iff_ne.2 hp
      have HR2 : Hid ((if wordB x = true ∨ amongB uriL x = true then 1 else 0) = r) := by have := HR.out; rwa [if_neg hp] at this
      clear HR hp
      have hW := fun w => Word_any x w
      cases hw : wordB x with
      | true =>
        rw [hw] at hW HR2
        have HW := Lib.hid hW
        have HR3 : Hid (1 = r) := by have := HR2.out; rwa [if_pos (.inl rfl)] at this
        clear hW hw HR2
        go_enter Tryd.func89, Tryd.ntmps89
        go_wp2_with (go_at_call 92; refine (HW.out _).mono ?_; rintro e w' ⟨rfl, rfl⟩)
        go_ret
        exact ⟨ret_int (by have := HR3.out; omega), Below.refl _ _⟩
      | false =>
        rw [hw] at hW HR2
        have HW := Lib.hid hW
        clear hW hw
        have HL : ∀ k, (hk : k < 21) → (w.alloc (uriRow 5)).cell? ⟨w.heap.size, k, none⟩ = some (.int .u8 ((uriL[k]'hk).toNat : Int)) := uri_cell w 5
        have hb0 : Below w.heap.size w (w.alloc (uriRow 5)) := (Below.refl _ _).alloc (Nat.le_refl _) _
        have hc0' : (w.alloc (uriRow 5)).cell? ⟨b, off, none⟩ = some (.int .i64 x) := (hb0.cell hbw).trans hc0
        unfold uriRow at HL hb0 hc0'
        have hcv : (convert 92 92 (.slice (some ⟨w.heap.size, 0, none⟩) 21 21)).run Tryd.prog (w.alloc (.cells #[.int .u8 35, .int .u8 59, .int .u8 47, .int .u8 63, .int .u8 58, .int .u8 64, .int .u8 38, .int .u8 61, .int .u8 43, .int .u8 36, .int .u8 44, .int .u8 95, .int .u8 46, .int .u8 33, .int .u8 126, .int .u8 42, .int .u8 39, .int .u8 40, .int .u8 41, .int .u8 91, .int .u8 93] 5)) = .ok (.slice (some ⟨w.heap.size, 0, none⟩) 21 21) (w.alloc (.cells #[.int .u8 35, .int .u8 59, .int .u8 47, .int .u8 63, .int .u8 58, .int .u8 64, .int .u8 38, .int .u8 61, .int .u8 43, .int .u8 36, .int .u8 44, .int .u8 95, .int .u8 46, .int .u8 33, .int .u8 126, .int .u8 42, .int .u8 39, .int .u8 40, .int .u8 41, .int .u8 91, .int .u8 93] 5 (21, 22))) :=
          Lib.run_convert_bytes_const w _ _ _ _ _ Tryd.underlying92 Tryd.underlying5
        go_enter Tryd.func89, Tryd.ntmps89
        go_wp2_with (go_at_call 92; refine (HW.out _).mono ?_; rintro e w' ⟨rfl, rfl⟩)
        obtain ⟨V, hV⟩ : ∃ V, w.alloc (.cells #[.int .u8 35, .int .u8 59, .int .u8 47, .int .u8 63, .int .u8 58, .int .u8 64, .int .u8 38, .int .u8 61, .int .u8 43, .int .u8 36, .int .u8 44, .int .u8 95, .int .u8 46, .int .u8 33, .int .u8 126, .int .u8 42, .int .u8 39, .int .u8 40, .int .u8 41, .int .u8 91, .int .u8 93] 5 (21, 22)) = V := ⟨_, rfl⟩
        rw [hV] at HL hb0 hc0' ⊢
        clear hV hc0 hI hcv
        have HLh := Lib.hid HL
        clear HL
        go_loop [36] (fun i => ∃ k : Nat, k ≤ 21 ∧ i = .int .i64 k ∧ Hid (amongB (uriL.take k) x = false)) (fun i => 21 - (intOf i).toNat)
        case atStart => exact ⟨0, Nat.zero_le _, rfl, rfl⟩
        case round =>
          obtain ⟨k, hk, rfl, hm⟩ := hrel
          by_cases hlt : k < 21
          · have hlt' : (k : Int) < 21 := by omega
            have hck := HLh.out k hlt
            obtain ⟨u, hu⟩ : ∃ u, uriL[k]'hlt = u := ⟨_, rfl⟩
            rw [hu] at hck
            have HU := Lib.hid hu
            clear hu
            have hw8 : wrap64 (u.toNat : Int) = (u.toNat : Int) := wrap64_u8 _
            by_cases hx : x = (u.toNat : Int)
            · have hx' : (x == (u.toNat : Int)) = true := beq_iff_eq.2 hx
              have HR3 : Hid (1 = r) := by
                have := HR2.out
                rwa [if_pos (.inr (by rw [hx, ← HU.out]; exact uri_hit hlt))] at this
              clear hx
              go_wp2_with fail
              go_ret
              exact ⟨ret_int (by have := HR3.out; omega), hb0⟩
            · have hx' : (x == (u.toNat : Int)) = false := beq_eq_false_iff_ne.2 hx
              have HM : Hid (amongB (uriL.take (k + 1)) x = false) := uri_miss hlt hm.out (by rw [HU.out]; exact fun h => hx h.symm)
              clear hx
              go_wp2_with fail
              go_round
              case rel => exact ⟨k + 1, by omega, by go_num, HM⟩
              case measure => simp [intOf]; omega
          · obtain rfl : k = 21 := by omega
            have HR3 : Hid (0 = r) := by
              have := HR2.out
              have hm' := hm.out
              rw [List.take_of_length_le (by decide)] at hm'
              rwa [if_neg (by rw [hm']; decide)] at this
            go_wp2_with fail
            go_ret
            exact ⟨ret_int (by have := HR3.out; omega), hb0⟩
end Go.Proofs.YtdcbngimgpdjoaaDoor
/- props.uri with 'all': how far URI signs go. Condition: a list is no longer than an int. -/
namespace Go.Proofs.YtdcbngimgpdjoaaDoor
open Go.RowKit Go.Shelf
attribute [local go_sem] Oper.semAt_some
theorem signN_le (l : List Int) : signN l ≤ l.length := by unfold signN; split <;> (try split) <;> (try split) <;> omega
/-- Is a list all of URI signs? -/
def goV : Nat → List Int → Bool
  | 0, l => l.isEmpty
  | f + 1, l => l.isEmpty || (signN l != 0 && goV f (l.drop (signN l)))
theorem goV_more : ∀ (f : Nat) (l : List Int), l.length ≤ f → ∀ g, l.length ≤ g → goV f l = goV g l := by
  intro f
  induction f with
  | zero =>
    intro l hl g _
    obtain rfl : l = [] := List.length_eq_zero_iff.1 (by omega)
    cases g <;> rfl
  | succ f ih =>
    intro l hl g hg
    cases g with
    | zero =>
      obtain rfl : l = [] := List.length_eq_zero_iff.1 (by omega)
      rfl
    | succ g =>
      unfold goV
      by_cases h0 : signN l = 0
      · simp [h0]
      · rw [ih (l.drop (signN l)) (by simp; omega) g (by simp; omega)]
def validS (l : List Int) : Bool := goV l.length l
theorem validS_step {l : List Int} (h : signN l ≠ 0) : validS l = validS (l.drop (signN l)) := by
  have hle := signN_le l
  unfold validS
  cases l with
  | nil => simp [signN] at h
  | cons a r =>
    rw [List.length_cons, goV]
    have : (signN (a :: r) != 0) = true := by simpa using h
    rw [this]
    simp only [List.isEmpty_cons, Bool.false_or, Bool.true_and]
    exact goV_more _ _ (by simp; omega) _ (Nat.le_refl _)
theorem validS_stop {l : List Int} (h : signN l = 0) : validS l = l.isEmpty := by
  unfold validS
  cases l with
  | nil => rfl
  | cons a r => rw [List.length_cons, goV, h]; simp
theorem each_any (A : Option Addr) (n c : Nat) (w : World) : Calls Tryd.prog 82 #[.slice A n c] w fun e w' =>
    e = .returned (.func (.func 88) #[] #[.pointer (some ⟨w.heap.size, 0, none⟩)]) ∧ w.alloc (.cells #[.slice A n c] 23) = w' := by
  go_enter Tryd.func82, Tryd.ntmps82
  go_wp2
  go_ret
  exact ⟨rfl, rfl⟩
theorem all_any (c : Int) (w : World) : Calls Tryd.prog 77 #[.int .i64 c] w fun e w' => e = .returned (.bool true) ∧ w = w' := by
  go_enter Tryd.func77, Tryd.ntmps77
  go_wp2
  go_ret
  exact ⟨rfl, rfl⟩
/-- How the boxes of uri stand when n signs were told. -/
structure UriSt (w : World) (A : Option Addr) (c : Nat) (l : List Int) (n : Nat) (W : World) : Prop where
  below : Below w.heap.size w W
  r0 : W.heap[w.heap.size]? = some (.cells #[.slice A l.length c] 23 (0, 0))
  r1 : W.heap[w.heap.size + 1]? = some (.cells #[.func (.func 77) #[] #[]] 37 (0, 0))
  r2 : W.heap[w.heap.size + 1 + 1]? = some (.cells #[.int .i64 n] 3 (0, 0))
  r3 : W.heap[w.heap.size + 1 + 1 + 1]? = some (.cells #[.slice A l.length c] 23 (0, 0))
theorem UriSt.calm {B : Nat} {w : World} {A : Option Addr} {c : Nat} {l : List Int} {n : Nat} (hB : w.heap.size ≤ B) : Calm B (UriSt w A c l n) := fun W i o o' hl h hc hs =>
  ⟨Calm.below hB W i o o' hl h hc hs.below, Calm.row (B := B) W i o o' hl h hc hs.r0, Calm.row (B := B) W i o o' hl h hc hs.r1, Calm.row (B := B) W i o o' hl h hc hs.r2, Calm.row (B := B) W i o o' hl h hc hs.r3⟩
theorem row_lt {W : World} {g : Nat} {o : Obj} (h : W.heap[g]? = some o) : g < W.heap.size := (Array.getElem?_eq_some_iff.1 h).1
theorem UriSt.then {w W W' : World} {A : Option Addr} {c : Nat} {l : List Int} {n : Nat} (h : UriSt w A c l n W) (k : Below W.heap.size W W') : UriSt w A c l n W' :=
  ⟨h.below.trans (k.mono h.below.size), (k.block _ (row_lt h.r0)).trans h.r0, (k.block _ (row_lt h.r1)).trans h.r1, (k.block _ (row_lt h.r2)).trans h.r2, (k.block _ (row_lt h.r3)).trans h.r3⟩
theorem UriSt.store {w W : World} {A : Option Addr} {c : Nat} {l : List Int} {n : Nat} (h : UriSt w A c l n W) (m : Nat) : UriSt w A c l m (W.setCell ⟨w.heap.size + 1 + 1, 0, none⟩ (.int .i64 m)) := by
  have hf : ∀ g, g ≠ w.heap.size + 1 + 1 → (W.setCell ⟨w.heap.size + 1 + 1, 0, none⟩ (.int .i64 m)).heap[g]? = W.heap[g]? := fun g hg => Below.heap_setCell W ⟨w.heap.size + 1 + 1, 0, none⟩ _ g hg
  exact ⟨h.below.setCell (p := ⟨w.heap.size + 1 + 1, 0, none⟩) (by show w.heap.size ≤ w.heap.size + 1 + 1; omega) _, (hf _ (by omega)).trans h.r0, (hf _ (by omega)).trans h.r1, Go.Joins.block_setCell h.r2 _, (hf _ (by omega)).trans h.r3⟩
theorem uri_boxes (w : World) (A : Option Addr) (c : Nat) (l : List Int) : UriSt w A c l 0 ((((w.alloc (.cells #[.slice A l.length c] 23)).alloc (.cells #[.func (.func 77) #[] #[]] 37)).alloc (.cells #[.int .i64 0] 3)).alloc (.cells #[.slice A l.length c] 23)) := by
  have n0 := World.alloc_heap_new w (.cells #[.slice A l.length c] 23)
  have n1 := World.alloc_heap_new (w.alloc (.cells #[.slice A l.length c] 23)) (.cells #[.func (.func 77) #[] #[]] 37)
  have n2 := World.alloc_heap_new ((w.alloc (.cells #[.slice A l.length c] 23)).alloc (.cells #[.func (.func 77) #[] #[]] 37)) (.cells #[.int .i64 0] 3)
  have n3 := World.alloc_heap_new (((w.alloc (.cells #[.slice A l.length c] 23)).alloc (.cells #[.func (.func 77) #[] #[]] 37)).alloc (.cells #[.int .i64 0] 3)) (.cells #[.slice A l.length c] 23)
  simp only [World.size_alloc] at n1 n2 n3
  exact ⟨((((Below.refl _ w).alloc (Nat.le_refl _) _).alloc (by simp) _).alloc (by simp; omega) _).alloc (by simp; omega) _,
    ((Below.heap_alloc _ _ _ (by simp; omega)).trans ((Below.heap_alloc _ _ _ (by simp; omega)).trans ((Below.heap_alloc _ _ _ (by simp)).trans n0))),
    ((Below.heap_alloc _ _ _ (by simp)).trans ((Below.heap_alloc _ _ _ (by simp)).trans n1)), (Below.heap_alloc _ _ _ (by simp)).trans n2, n3⟩
set_option maxRecDepth 100000 in
set_option maxHeartbeats 2000000 in
theorem eachIter (A : Option Addr) (c : Nat) (l : List Int) (lp : Nat) (w W : World) (hlc : l.length ≤ c) (hA : A = none → c = 0) (hl : l.length ≤ 9223372036854775807) (hI : IntsAt w w.heap.size A l) (hS : UriSt w A c l 0 W)
    (Bk : World → Prop) (Bx : Code → World → Prop) (keep : ∀ A B, KeepsOthers A B → Bk A → Bk B)
    (hY : ∀ (i k : Nat) (W1 : World), (UriSt w A c l i W1 ∧ i ≤ l.length ∧ validS l = validS (l.drop i) ∧ k = signN (l.drop i) ∧ k ≠ 0) → Bk W1 → YieldAt Fence.wide (3 - 1 - 1) Tryd.prog lp #[.int .i64 i, .int .i64 ((i : Int) + (k : Int))] W1 fun e W' =>
      (e = .returned (.bool true) ∧ UriSt w A c l (i + k) W' ∧ Bk W') ∨ (e = .returned (.bool false) ∧ ∃ cd, False ∧ Bx cd W'))
    (hk : Bk W) :
    CallsIn Fence.wide (3 - 1) Tryd.prog 88 #[.func (.yield lp) #[] #[], .pointer (some ⟨w.heap.size + 1 + 1 + 1, 0, none⟩)] W fun e W' => (∃ v, e = .returned v) ∧
      (((∃ n : Nat, n ≤ l.length ∧ UriSt w A c l n W' ∧ decide (n = l.length) = validS l) ∧ Bk W') ∨ (∃ cd, False ∧ Bx cd W')) := by
  refine callsIn_of_wp Tryd.func88 rfl trivial ?_ rfl
  simp only [Tryd.ntmps88, List.size_toArray, List.length_cons, List.length_nil, Nat.reduceAdd, Nat.reduceSub, Array.replicate_succ, Array.replicate_zero, List.push_toArray, List.append_toArray, List.nil_append, List.cons_append]
  gi_wp2
  gi_loopw [3] (fun i wr => ∃ k : Nat, k ≤ l.length ∧ i = .int .i64 k ∧ Hid (validS l = validS (l.drop k)) ∧ UriSt w A c l k wr ∧ Bk wr) (fun i _ => l.length - (intOf i).toNat)
  case atStart => exact ⟨0, Nat.zero_le _, rfl, rfl, hS, hk⟩
  case round =>
    obtain ⟨k, hk, rfl, hm, hst, hbk⟩ := hrel
    have hc3 := Lib.cell_of_heap hst.r3 0
    have hkl : (k : Int) ≤ (l.length : Int) := by omega
    have HSg : Hid (∀ A' c', IntsAt wr wr.heap.size A' (l.drop k) → Calls Tryd.prog 89 #[.slice A' (l.length - k) c'] wr fun e w' => e = .returned (.int .i64 (signN (l.drop k))) ∧ Below wr.heap.size wr w') := fun A' c' h => by
      have := sign_any A' c' (l.drop k) wr (by simp; omega) h
      rwa [List.length_drop] at this
    have HIr : Hid (IntsAt wr wr.heap.size A l) := (hI.below hst.below (Nat.le_refl _)).more hst.below.size
    have HD : Hid (∀ a, A = some a → IntsAt wr wr.heap.size (some (a.add k)) (l.drop k)) := fun a ha h => by
      subst ha
      obtain ⟨b, off, hb, hbw, hc⟩ := HIr.out (by simp at h; omega)
      cases hb
      refine ⟨b, off + k, by simp [Addr.add], hbw, fun j hj => ?_⟩
      have := hc (k + j) (by simp at hj; omega)
      rw [show nth (l.drop k) j = nth l (k + j) by simp [nth], show off + k + j = off + (k + j) by omega]
      exact this
    have HE : Hid (∀ A', l.length ≤ k → IntsAt wr wr.heap.size A' (l.drop k)) := fun A' hk' h => absurd h (by simp; omega)
    obtain ⟨s, hs⟩ : ∃ s, signN (l.drop k) = s := ⟨_, rfl⟩
    rw [hs] at HSg
    have HSv := Lib.hid hs
    have HSl : Hid (s ≤ l.length - k) := by have := signN_le (l.drop k); rw [hs, List.length_drop] at this; exact this
    clear hs
    have HL := Lib.hid hlc
    have HA := Lib.hid hA
    have HKL := Lib.hid hk
    have HST := Lib.hid hst
    have HY := Lib.hid hY
    have HM := hm
    have hcases : (A = none ∧ c = 0) ∨ (∃ a, A = some a ∧ c = k) ∨ (∃ a, A = some a ∧ k < c) := by
      cases A with
      | none => exact .inl ⟨rfl, hA rfl⟩
      | some a => rcases Nat.lt_or_ge k c with h | h
                  · exact .inr (.inr ⟨a, rfl, h⟩)
                  · exact .inr (.inl ⟨a, rfl, by omega⟩)
    have HSt2 : Hid (∀ w2, Below wr.heap.size wr w2 → UriSt w A c l k w2) := fun w2 h => hst.then h
    have HY2 : Hid (∀ w2, Below wr.heap.size wr w2 → s ≠ 0 → YieldAt Fence.wide (3 - 1 - 1) Tryd.prog lp #[.int .i64 k, .int .i64 ((k : Int) + (s : Int))] w2 fun e W' =>
      (e = .returned (.bool true) ∧ UriSt w A c l (k + s) W' ∧ Bk W') ∨ (e = .returned (.bool false) ∧ ∃ cd, False ∧ Bx cd W')) := fun w2 h h0 => hY k s w2 ⟨hst.then h, hk, hm.out, HSv.out.symm, h0⟩ (keep _ _ (keeps_of_below h) hbk)
    have hkadd : IntKind.i64.wrap ((k : Int) + (s : Int)) = (k : Int) + (s : Int) := IntWalk.i64_in _ (by have := HSl.out; omega)
    have HBk : Hid (∀ w2, Below wr.heap.size wr w2 → Bk w2) := fun w2 h => keep _ _ (keeps_of_below h) hbk
    have HStop : Hid (s = 0 → decide (k = l.length) = validS l) := fun h => by
      rw [hm.out, validS_stop (HSv.out.trans h)]
      by_cases e : k = l.length
      · simp [e]
      · have : (l.drop k).isEmpty = false := by cases hq : l.drop k with
          | nil => have := congrArg List.length hq; simp at this; omega
          | cons _ _ => rfl
        simp [e, this]
    have HNext : Hid (s ≠ 0 → validS l = validS (l.drop (k + s))) := fun h => by
      rw [hm.out, validS_step (by rw [HSv.out]; exact h), HSv.out, List.drop_drop]
    clear hm hst hY hbk hlc hA HST
    by_cases h0 : s = 0
    · rcases hcases with ⟨rfl, rfl⟩ | ⟨a, rfl, rfl⟩ | ⟨a, rfl, hkc⟩
      all_goals
        gi_wp2_with (refine ⟨trivial, ?_⟩; gi_at_call 89; refine (callsIn_wide.2 (HSg.out _ _ (by first | exact HD.out _ rfl | exact HE.out _ (by have := HL.out; omega)))).mono ?_; rintro e w2 ⟨rfl, hb2⟩; subst h0)
        refine ⟨fun _ h => (by cases h), ?_⟩
        gi_wp2
        refine bodyPost_ret (results_none rfl _ _ _) rfl ?_
        exact ⟨⟨_, rfl⟩, .inl ⟨⟨_, hk, HSt2.out w2 hb2, HStop.out trivial⟩, HBk.out w2 hb2⟩⟩
    · have h0' : ((s : Int) == 0) = false := beq_eq_false_iff_ne.2 (by omega)
      have HK0 := Lib.hid h0
      clear h0
      rcases hcases with ⟨rfl, rfl⟩ | ⟨a, rfl, rfl⟩ | ⟨a, rfl, hkc⟩
      all_goals
        gi_wp2_with (refine ⟨trivial, ?_⟩; gi_at_call 89; refine (callsIn_wide.2 (HSg.out _ _ (by first | exact HD.out _ rfl | exact HE.out _ (by have := HL.out; omega)))).mono ?_; rintro e w2 ⟨rfl, hb2⟩; obtain ⟨fn, tmps, assign, body, hy, hR⟩ := HY2.out w2 hb2 HK0.out)
        refine hR.mono ?_
        rintro e W3 (⟨rfl, hst3, hk3⟩ | ⟨rfl, cd, hF, _⟩)
        · gi_wp2
          go_roundw
          case rel => exact ⟨_, by have := HSl.out; have := HKL.out; omega, by go_num, Lib.hid (HNext.out HK0.out), hst3, hk3⟩
          case measure => simp [intOf]; have := HSl.out; have := HK0.out; omega
        · exact hF.elim
set_option maxRecDepth 100000 in
set_option maxHeartbeats 2000000 in
theorem uri_any (A : Option Addr) (c : Nat) (l : List Int) (w : World) (hlc : l.length ≤ c) (hA : A = none → c = 0) (hl : l.length ≤ 9223372036854775807) (hI : IntsAt w w.heap.size A l) :
    Calls Tryd.prog 76 #[.slice A l.length c, .func (.func 77) #[] #[]] w fun e w' => ∃ v, e = .returned v ∧ (∃ n : Nat, v = .int .i64 n ∧ n ≤ l.length ∧ decide (n = l.length) = validS l) ∧ Below w.heap.size w w' := by
  refine (callsIn_wide (n := 3)).1 ?_
  refine callsIn_of_wp_marks Tryd.func76 rfl trivial ?_ rfl
  simp only [Tryd.ntmps76, List.size_toArray, List.length_cons, List.length_nil, Nat.reduceAdd, Nat.reduceSub, Array.replicate_succ, Array.replicate_zero, List.push_toArray, List.append_toArray, List.nil_append, List.cons_append]
  gi_wp2_with (refine ⟨trivial, ?_⟩; gi_at_call 82; refine (callsIn_wide.2 (each_any _ _ _ _)).mono ?_; rintro e w' ⟨rfl, rfl⟩)
  obtain ⟨V, hV⟩ : ∃ V, ((((w.alloc (.cells #[.slice A l.length c] 23)).alloc (.cells #[.func (.func 77) #[] #[]] 37)).alloc (.cells #[.int .i64 0] 3)).alloc (.cells #[.slice A l.length c] 23)) = V := ⟨_, rfl⟩
  have hSV : UriSt w A c l 0 V := by rw [← hV]; exact uri_boxes w A c l
  rw [hV]
  clear hV
  refine range_law (β := Nat × Nat) rfl (by decide) (gf := 88) (lb := #[.pointer (some ⟨w.heap.size + 1 + 1 + 1, 0, none⟩)]) rfl trivial (enters_of Tryd.func88 (by kernel_rfl) rfl)
    (fun x => #[.int .i64 (x.1 : Int), .int .i64 ((x.1 : Int) + (x.2 : Int))]) (fun _ => rfl)
    (fun x W => UriSt w A c l x.1 W ∧ x.1 ≤ l.length ∧ validS l = validS (l.drop x.1) ∧ x.2 = signN (l.drop x.1) ∧ x.2 ≠ 0)
    (fun x W => UriSt w A c l (x.1 + x.2) W)
    (fun _ _ _ => False)
    (fun W => ∃ n : Nat, n ≤ l.length ∧ UriSt w A c l n W ∧ decide (n = l.length) = validS l)
    (fun _ _ => False)
    (fun x => (UriSt.calm (by have := hSV.below.size; exact this)).and Calm.pure)
    (fun x => UriSt.calm (by have := hSV.below.size; exact this))
    (fun cd i => Calm.pure)
    (Calm.ex fun n W l' o o' hl' h hc hs => ⟨hs.1, UriSt.calm (by have := hSV.below.size; exact this) W l' o o' hl' h hc hs.2.1, hs.2.2⟩)
    (fun cd => Calm.pure)
    (fun x => { tmps := #[.slice A l.length c, .func (.func 77) #[] #[], .pointer (some ⟨w.heap.size, 0, none⟩), .pointer (some ⟨w.heap.size + 1, 0, none⟩), .int .i64 0, .pointer (some ⟨w.heap.size + 1 + 1, 0, none⟩), .int .i64 (x.1 : Int), .int .i64 ((x.1 : Int) + (x.2 : Int)), .slice A l.length c,
      .func (.func 88) #[] #[.pointer (some ⟨w.heap.size + 1 + 1 + 1, 0, none⟩)], .int .i64 (x.1 : Int), .int .i64 ((x.1 : Int) + (x.2 : Int)), undef, undef, undef, undef, undef, undef, undef, undef, undef], defers := [] }) ?assign ?body ?iter ?done ?stop
  case assign =>
    intro lp x W K hK
    gi_wp2
    exact hK
  case iter =>
    intro lp Bk Bx o kBk kBx hY hk
    have hS0 : UriSt w A c l 0 ((V.alloc (.deferred (some []))).alloc o) := hSV.then (((Below.refl _ V).alloc (Nat.le_refl _) _).alloc (by simp) _)
    exact eachIter A c l lp w _ hlc hA hl hI hS0 Bk Bx kBk (fun i k W1 hs hb => hY (i, k) W1 hs hb) hk
  case done =>
    rintro D W hD ⟨n, hn, hst, hv⟩ hK
    have hc2 := Lib.cell_of_heap hst.r2 0
    gi_wp2
    refine ⟨by simp, .inl ⟨_, _, rfl, run_takeDeferred hK, ?_⟩⟩
    have hlt : w.heap.size ≤ D := by have := hSV.below.size; omega
    refine ⟨.int .i64 n, ?_, _, rfl, ⟨n, rfl, hn, hv⟩, hst.below.trans (belowK_b (w := w) (Nat.le_refl _) W D _ _ hlt hK rfl rfl)⟩
    simp [results, Tryd.f76, go_sem]
  case stop => exact fun D cd W hD hF => hF.elim
  case body =>
    rintro lp ⟨i, k⟩ W ⟨hst, hi, hm, hk, h0⟩
    simp only at hst hi hm hk h0 ⊢
    have hil : i < l.length := by
      rcases Nat.lt_or_ge i l.length with h | h
      · exact h
      · rw [List.drop_eq_nil_of_le h] at hk
        exact absurd (hk.trans rfl) h0
    obtain ⟨b, off, rfl, hbw, hc⟩ := hI (by omega)
    have hci := (hst.below.drew.cell (p := ⟨b, off + i, none⟩) hbw).trans (hc i hil)
    have HD : Hid (UriSt w (some ⟨b, off, none⟩) c l i W.drew) := hst.then (Below.refl _ W).drew
    have hc0 : W.drew.cell? ⟨w.heap.size, 0, none⟩ = some (.slice (some ⟨b, off, none⟩) l.length c) := Lib.cell_of_heap HD.out.r0 0
    have hc1 : W.drew.cell? ⟨w.heap.size + 1, 0, none⟩ = some (.func (.func 77) #[] #[]) := Lib.cell_of_heap HD.out.r1 0
    have hc2 : W.drew.cell? ⟨w.heap.size + 1 + 1, 0, none⟩ = some (.int .i64 i) := Lib.cell_of_heap HD.out.r2 0
    have hf2 : W.drew.frozen? ⟨w.heap.size + 1 + 1, 0, none⟩ = false := Go.Joins.unfrozen_of_block HD.out.r2 0
    have hi' : (i : Int) < (l.length : Int) := by omega
    have HK : Hid (KeepsOthers W (W.setCell ⟨w.heap.size + 1 + 1, 0, none⟩ (.int .i64 ((i : Int) + (k : Int)))).drew) := (KeepsOthers.setCell _ _ _).trans (keeps_of_below (Below.refl _ _).drew)
    have HU : Hid (UriSt w (some ⟨b, off, none⟩) c l (i + k) (W.setCell ⟨w.heap.size + 1 + 1, 0, none⟩ (.int .i64 ((i : Int) + (k : Int)))).drew) := by
      have := (hst.store (i + k)).then (Below.refl _ _).drew
      rwa [Int.natCast_add] at this
    clear hst hc hk h0 hm hi
    gi_wp2
    gi_region_with (refine ⟨trivial, ?_⟩; gi_at_call 77; refine (CallsIn.inRound lp (callsIn_wide.2 (all_any _ _))).mono ?_; rintro e w1 ⟨rfl, rfl⟩)
    all_goals (first | exact ⟨HK.out, HU.out⟩ | (gi_wp2; exact ⟨HK.out, HU.out⟩))
end Go.Proofs.YtdcbngimgpdjoaaDoor
/- Rows of ints that a call owns: what they look like, and 'append' of one int. No condition but the sizes. -/
namespace Go.Proofs.YtdcbngimgpdjoaaDoor
open Go.RowKit
theorem Tryd.infoIntZ : (Tryd.prog.info? 3).map (fun i => (i.zero, i.size, i.bytes)) = some (some (.int .i64 0), 1, 8) := by kernel_rfl
def zcells (l : List Int) : List Value := l.map (Value.int .i64)
/-- A row of ints that the call owns; nil where it is empty. -/
structure ZOwn (w : World) (B : Nat) (v : Value) (l : List Int) : Prop where
  own : w.ownsRow B 3 1 v l.length (zcells l)
  nil : l = [] → v = .slice none 0 0
theorem ZOwn.empty (w : World) (B : Nat) : ZOwn w B (.slice none 0 0) [] := ⟨⟨rfl, .inl ⟨rfl, rfl⟩⟩, fun _ => rfl⟩
theorem ZOwn.form {w : World} {B : Nat} {v : Value} {l : List Int} (h : ZOwn w B v l) : ∃ A c, v = .slice A l.length c ∧ l.length ≤ c ∧ IntsAt w w.heap.size A l ∧ (A = none → c = 0) := by
  have h' := h.own
  rcases h.own.2 with ⟨rfl, h0⟩ | ⟨g, cap, cur, rfl, _, hg, hc, _⟩
  · rw [h0]
    exact ⟨none, 0, rfl, by simp, fun hz => by omega, fun _ => rfl⟩
  · refine ⟨_, cap, rfl, hc, fun _ => ⟨g, 0, rfl, (Array.getElem?_eq_some_iff.1 hg).1, fun k hk => ?_⟩, fun e => by cases e⟩
    have := h'.cells (g := g) rfl k (.int .i64 (nth l k)) (by simp [zcells, nth, hk])
    simpa [Addr.add_lit] using this
theorem ZOwn.alloc {w : World} {B : Nat} {v : Value} {l : List Int} (h : ZOwn w B v l) (o : Obj) : ZOwn (w.alloc o) B v l := ⟨h.own.alloc o, h.nil⟩
theorem ZOwn.drew {w : World} {B : Nat} {v : Value} {l : List Int} (h : ZOwn w B v l) : ZOwn w.drew B v l := ⟨h.own.drew, h.nil⟩
theorem ZOwn.kept {w w' : World} {B : Nat} {v : Value} {l : List Int} (h : ZOwn w B v l) (hb : Below w.heap.size w w') : ZOwn w' B v l := by
  refine ⟨?_, h.nil⟩
  rcases h.own.2 with ⟨rfl, h0⟩ | ⟨g, cap, cur, rfl, hB, hg, hc, r⟩
  · exact ⟨h.own.1, .inl ⟨rfl, h0⟩⟩
  · exact ⟨h.own.1, .inr ⟨g, cap, cur, rfl, hB, (hb.block g (Array.getElem?_eq_some_iff.1 hg).1).trans hg, hc, r⟩⟩
/-- 'append' of one int to a row that the call owns. -/
theorem wpList_appZ {wr : World} {ops : Array Oper} {rest : List Oper} {o : Oper} {a : Act} {Q : Exit → Act → World → Prop} (hgd : o.guard = none) (s x : Operand) (t : TypeId)
    (ho : o.op = .call { callee := .builtin .append, args := #[s, x], argTypes := #[t, t] }) (ht : Tryd.prog.underlying t = some (.slice 3)) (B : Nat)
    (v : Value) (l : List Int) (z : Int) (hs : a.eval s = v) (h : ZOwn wr B v l) (n0 : Nat) (hn0 : n0 = wr.heap.size) (hx : a.eval x = .slice (some ⟨n0, 0, none⟩) 1 1) (hl : l.length ≤ 1000000000) (hB : B ≤ wr.heap.size)
    (k : ∀ v' w', ZOwn w' B v' (l ++ [z]) → Below B wr w' → wpList Tryd.prog ops Q rest (a.put o.dst v') w') : wpList Tryd.prog ops Q (o :: rest) a (wr.alloc (.cells #[.int .i64 z] 3)) := by
  obtain ⟨i0, hi, hz0, hz1, hz2⟩ := info_parts Tryd.infoIntZ
  refine wpList_append_own _ hgd s x t ho B _ i0 _ 1 8 ht hi hz0 hz1 hz2 rfl (by decide) v _ _ hs (h.own.alloc _) ⟨n0, 0, none⟩ 1 1 [.int .i64 z] hx rfl ?_ (fun u hu => by simp at hu; subst hu; rfl) (by unfold maxLen; omega) (by omega) (by simp; omega) ?_
  · intro j u hj
    match j, hj with
    | 0, hj => simp at hj; subst hj; subst hn0; simp [Addr.add]
    | j + 1, hj => simp at hj
  · intro v' w' h1 h2 _
    refine k v' w' ⟨by simpa [zcells] using h1, fun e => by simp at e⟩ ?_
    exact Below.grown ((Below.refl B wr).alloc hB _) h2 (by simp; omega) fun _ hj => (h.own.lt _ hj).1
end Go.Proofs.YtdcbngimgpdjoaaDoor
/- props.Valid: may a tag be? Condition: a text is no longer than an int. -/
namespace Go.Proofs.YtdcbngimgpdjoaaDoor
open Go.RowKit Go.Shelf
/-- A text's bytes, as numbers. -/
def bytesI (s : ByteArray) : List Int := s.data.toList.map fun b => (b.toNat : Int)
theorem bytesI_len (s : ByteArray) : (bytesI s).length = s.size := by rw [bytesI, List.length_map, Array.length_toList]; rfl
theorem bytesI_take (s : ByteArray) {k : Nat} (h : k < s.size) : (bytesI s).take (k + 1) = (bytesI s).take k ++ [(s[k].toNat : Int)] := by
  have hk : k < (bytesI s).length := by rw [bytesI_len]; exact h
  rw [List.take_succ_eq_append_getElem hk]
  congr 2
  simp [bytesI, ByteArray.getElem_eq_getElem_data]
def tagB (s : ByteArray) : Bool := s.size != 0 && validS (bytesI s)
set_option maxRecDepth 100000 in
set_option maxHeartbeats 1000000 in
theorem Valid_any (s : ByteArray) (w : World) (hs : s.size ≤ 1000) :
    Calls Tryd.prog 65 #[.string s] w fun e w' => e = .returned (.bool (tagB s)) ∧ Below w.heap.size w w' := by
  have hcv := fun w => run_bytes_of_string (P := Tryd.prog) w 9 92 5 s Tryd.underlying9 Tryd.underlying92 Tryd.underlying5
  have hcell : ∀ k, (h : k < s.size) → _ := fun k h => bytesCell w s 5 h
  have hb0 : Below w.heap.size w _ := Below.drew <| (Below.refl _ w).alloc (Nat.le_refl _) (Obj.cells (bytesRow s (grownCap w s.size 0 5)) 5 ((bytesRow s (grownCap w s.size 0 5)).size, (bytesRow s (grownCap w s.size 0 5)).size + 1))
  go_enter Tryd.func65, Tryd.ntmps65
  go_wp2_with fail
  obtain ⟨V, hV⟩ : ∃ V, (w.alloc (Obj.cells (bytesRow s (grownCap w s.size 0 5)) 5 ((bytesRow s (grownCap w s.size 0 5)).size, (bytesRow s (grownCap w s.size 0 5)).size + 1))).drew = V := ⟨_, rfl⟩
  rw [hV] at hb0 ⊢
  have HC : Hid (∀ k, (h : k < s.size) → V.cell? ⟨w.heap.size, k, none⟩ = some (.int .u8 (s[k].toNat : Int))) := fun k h => by
    have := hcell k h
    rw [← hV]; exact this
  have hlt0 : w.heap.size < V.heap.size := by rw [← hV]; simp
  clear hcell hcv hV
  go_loopw [3, 9] (fun o i wr => ∃ k : Nat, k ≤ s.size ∧ i = .int .i64 k ∧ ZOwn wr V.heap.size o ((bytesI s).take k) ∧ Below V.heap.size V wr) (fun _ i _ => s.size - (intOf i).toNat)
  case atStart => exact ⟨0, Nat.zero_le _, rfl, ZOwn.empty _ _, Below.refl _ _⟩
  case round =>
    obtain ⟨k, hk, rfl, hown, hbl⟩ := hrel
    by_cases hlt : k < s.size
    · have hlt' : (k : Int) < (s.size : Int) := by omega
      have hck := (hbl.cell (p := ⟨w.heap.size, k, none⟩) hlt0).trans (HC.out k hlt)
      have hT := bytesI_take s hlt
      obtain ⟨b, hb⟩ : ∃ b, s[k] = b := ⟨_, rfl⟩
      rw [hb] at hck hT
      have HT := Lib.hid hT
      have hw8 : wrap64 (b.toNat : Int) = (b.toNat : Int) := wrap64_u8 _
      have hll : ((bytesI s).take k).length ≤ 1000000000 := by simp [bytesI_len]; omega
      have hsz := hbl.size
      clear hT hb
      go_wp2_with (at_builtin; go_loud (refine wpList_appZ rfl _ _ _ rfl Tryd.underlying23 V.heap.size u3 _ (b.toNat : Int) rfl hown _ rfl rfl hll hsz ?_); intro v1 w1 hown1 hb1)
      go_roundw
      case rel => exact ⟨k + 1, by omega, by go_num, by rw [HT.out]; exact hown1, hbl.trans hb1⟩
      case measure => simp [intOf]; omega
    · obtain rfl : k = s.size := by omega
      rw [List.take_of_length_le (by rw [bytesI_len]; exact Nat.le_refl _)] at hown
      obtain ⟨A, c, rfl, hlc, hI, hA⟩ := hown.form
      have hU := uri_any A c (bytesI s) wr hlc hA (by rw [bytesI_len]; omega) hI
      have hlb := bytesI_len s
      have HV : Hid (tagB s = (s.size != 0 && validS (bytesI s))) := rfl
      rw [hlb] at hU hlc ⊢
      have HB := Lib.hid hb0
      have HBl := Lib.hid hbl
      have HUl := Lib.hid hU
      have hd0 : decide ((s.size : Int) < (s.size : Int)) = false := decide_eq_false (by omega)
      clear hU hlb hb0 hbl HC hI hA hlc hown hlt hk hlt0
      by_cases h0 : s.size = 0
      · have h0' : decide ((0 : Int) < (s.size : Int)) = false := decide_eq_false (by omega)
        have HR : Hid (tagB s = false) := by show _ = _; rw [HV.out, h0]; rfl
        have h0n : ¬ (0 : Int) < (s.size : Int) := by omega
        clear h0
        go_wp2_with fail
        go_ret
        exact ⟨ret_bool HR.out.symm, HB.out.trans (HBl.out.mono HB.out.size)⟩
      · have h0' : (0 : Int) < (s.size : Int) := by omega
        have HR : Hid (tagB s = validS (bytesI s)) := by show _ = _; rw [HV.out]; simp [h0]
        clear h0
        go_wp2_with (go_at_call 76; refine HUl.out.mono ?_; rintro e w1 ⟨_, rfl, ⟨n, rfl, hn, hd⟩, hb1⟩; have HD := Lib.hid hd; clear hd)
        all_goals
          go_ret
          refine ⟨ret_bool ?_, (HB.out.trans (HBl.out.mono HB.out.size)).trans (hb1.mono (HB.out.trans (HBl.out.mono HB.out.size)).size)⟩
          rw [HR.out, ← HD.out]
          rw [Bool.eq_iff_iff]
          simp only [beq_iff_eq, decide_eq_true_eq]
          omega
end Go.Proofs.YtdcbngimgpdjoaaDoor
