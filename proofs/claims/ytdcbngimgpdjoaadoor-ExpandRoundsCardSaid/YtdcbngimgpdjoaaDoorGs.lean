/- props.sign: what it returns, in every world. No condition. -/
import Derived.Test.YtdcbngimgpdjoaaDoorGw
import Derived.RangeFuncRecord
import Derived.Lib.Builder
import Derived.Lib.SmallJoins
namespace Go.Proofs.YtdcbngimgpdjoaaDoor
open Go.RowKit
def uriRow (t : TypeId) : Obj := .cells #[.int .u8 35, .int .u8 59, .int .u8 47, .int .u8 63, .int .u8 58, .int .u8 64, .int .u8 38, .int .u8 61, .int .u8 43, .int .u8 36, .int .u8 44, .int .u8 95, .int .u8 46, .int .u8 33, .int .u8 126, .int .u8 42, .int .u8 39, .int .u8 40, .int .u8 41, .int .u8 91, .int .u8 93] t (21, 22)
theorem uri_cell (w : World) (t : TypeId) (k : Nat) (hk : k < 21) : (w.alloc (uriRow t)).cell? ⟨w.heap.size, k, none⟩ = some (.int .u8 ((uriL[k]'hk).toNat : Int)) := by
  rw [Lib.cell_of_heap (World.alloc_heap_new w (uriRow t))]
  have : ∀ k : Fin 21, (#[.int .u8 35, .int .u8 59, .int .u8 47, .int .u8 63, .int .u8 58, .int .u8 64, .int .u8 38, .int .u8 61, .int .u8 43, .int .u8 36, .int .u8 44, .int .u8 95, .int .u8 46, .int .u8 33, .int .u8 126, .int .u8 42, .int .u8 39, .int .u8 40, .int .u8 41, .int .u8 91, .int .u8 93] : Array Value)[k.val]? = some (.int .u8 ((uriL[k.val]'k.2).toNat : Int)) := by
    intro k
    match k with
    | ⟨0, _⟩ => rfl
    | ⟨1, _⟩ => rfl
    | ⟨2, _⟩ => rfl
    | ⟨3, _⟩ => rfl
    | ⟨4, _⟩ => rfl
    | ⟨5, _⟩ => rfl
    | ⟨6, _⟩ => rfl
    | ⟨7, _⟩ => rfl
    | ⟨8, _⟩ => rfl
    | ⟨9, _⟩ => rfl
    | ⟨10, _⟩ => rfl
    | ⟨11, _⟩ => rfl
    | ⟨12, _⟩ => rfl
    | ⟨13, _⟩ => rfl
    | ⟨14, _⟩ => rfl
    | ⟨15, _⟩ => rfl
    | ⟨16, _⟩ => rfl
    | ⟨17, _⟩ => rfl
    | ⟨18, _⟩ => rfl
    | ⟨19, _⟩ => rfl
    | ⟨20, _⟩ => rfl
    | ⟨n + 21, h⟩ => exact absurd h (by omega)
  exact this ⟨k, hk⟩
theorem uri_hit {k : Nat} (hk : k < 21) : amongB uriL ((uriL[k]'hk).toNat : Int) = true := by
  unfold amongB
  exact List.any_eq_true.2 ⟨uriL[k]'hk, List.getElem_mem _, by simp⟩
theorem uri_miss {k : Nat} {x : Int} (hk : k < 21) (hp : amongB (uriL.take k) x = false) (h : ((uriL[k]'hk).toNat : Int) ≠ x) : amongB (uriL.take (k + 1)) x = false := by
  unfold amongB at hp ⊢
  rw [List.take_succ_eq_append_getElem hk, List.any_append, hp]
  simpa using h
set_option maxRecDepth 100000 in
set_option maxHeartbeats 2000000 in
theorem sign_any (A : Option Addr) (c : Nat) (l : List Int) (w : World) (hl : l.length ≤ 9223372036854775807) (hI : IntsAt w w.heap.size A l) :
    Calls Tryd.prog 89 #[.slice A l.length c] w fun e w' => e = .returned (.int .i64 (signN l)) ∧ Below w.heap.size w w' := by
  by_cases h0 : l.length = 0
  · have h0' : ((l.length : Int) == 0) = true := beq_iff_eq.2 (by omega)
    have hs : signN l = 0 := by simp [signN, h0]
    rw [hs]
    clear hs h0
    go_enter Tryd.func89, Tryd.ntmps89
    go_wp2_with fail
    go_ret
    exact ⟨rfl, Below.refl _ _⟩
  · have h0' : ((l.length : Int) == 0) = false := beq_eq_false_iff_ne.2 (by omega)
    have h0i : (0 : Int) < (l.length : Int) := by omega
    obtain ⟨b, off, rfl, hbw, hcc⟩ := hI (by omega)
    have hc0 : w.cell? ⟨b, off, none⟩ = some (.int .i64 (nth l 0)) := hcc 0 (by omega)
    have HC := Lib.hid hcc
    obtain ⟨r, hr⟩ : ∃ r, signN l = r := ⟨_, rfl⟩
    rw [hr]
    unfold signN at hr
    rw [if_neg h0] at hr
    have HR := Lib.hid hr
    obtain ⟨x, hx⟩ : ∃ x, nth l 0 = x := ⟨_, rfl⟩
    rw [hx] at HR hc0
    clear hr hcc hx h0
    by_cases hp : x = 37
    · subst hp
      have HR2 : Hid ((if 2 < l.length ∧ 0 ≤ hexI (nth l 1) ∧ 0 ≤ hexI (nth l 2) then 3 else 0) = r) := by have := HR.out; rwa [if_pos rfl] at this
      clear HR
      by_cases h2 : 2 < l.length
      · have h2i : (2 : Int) < (l.length : Int) := by omega
        have h1i : (1 : Int) < (l.length : Int) := by omega
        have hc1 := HC.out 1 (by omega)
        have hc2 := HC.out 2 (by omega)
        obtain ⟨z1, hz1⟩ : ∃ z, nth l 1 = z := ⟨_, rfl⟩
        obtain ⟨z2, hz2⟩ : ∃ z, nth l 2 = z := ⟨_, rfl⟩
        rw [hz1] at hc1 HR2
        rw [hz2] at hc2 HR2
        clear hz1 hz2
        by_cases k1 : 0 ≤ hexI z1
        · by_cases k2 : 0 ≤ hexI z2
          · have HR3 : Hid (3 = r) := by have := HR2.out; rwa [if_pos ⟨h2, k1, k2⟩] at this
            clear HR2 h2
            go_enter Tryd.func89, Tryd.ntmps89
            go_wp2_with (go_at_call 91; refine (Hex_any _ _).mono ?_; rintro e w' ⟨rfl, rfl⟩)
            go_ret
            exact ⟨ret_int (by have := HR3.out; omega), Below.refl _ _⟩
          · have HR3 : Hid (0 = r) := by have := HR2.out; rwa [if_neg (fun h => k2 h.2.2)] at this
            have k2' : decide (0 ≤ hexI z2) = false := decide_eq_false k2
            clear HR2 h2
            go_enter Tryd.func89, Tryd.ntmps89
            go_wp2_with (go_at_call 91; refine (Hex_any _ _).mono ?_; rintro e w' ⟨rfl, rfl⟩)
            go_ret
            exact ⟨ret_int (by have := HR3.out; omega), Below.refl _ _⟩
        · have HR3 : Hid (0 = r) := by have := HR2.out; rwa [if_neg (fun h => k1 h.2.1)] at this
          have k1' : decide (0 ≤ hexI z1) = false := decide_eq_false k1
          clear HR2 h2
          go_enter Tryd.func89, Tryd.ntmps89
          go_wp2_with (go_at_call 91; refine (Hex_any _ _).mono ?_; rintro e w' ⟨rfl, rfl⟩)
          go_ret
          exact ⟨ret_int (by have := HR3.out; omega), Below.refl _ _⟩
      · have h2i : ¬ (2 : Int) < (l.length : Int) := by omega
        have HR3 : Hid (0 = r) := by have := HR2.out; rwa [if_neg (fun h => h2 h.1)] at this
        have h2d : decide ((2 : Int) < (l.length : Int)) = false := decide_eq_false h2i
        clear HR2 h2
        go_enter Tryd.func89, Tryd.ntmps89
        go_wp2_with fail
        go_ret
        exact ⟨ret_int (by have := HR3.out; omega), Below.refl _ _⟩
    · have hp' : (x == 37) = false := beq_eq_false_iff_ne.2 hp
      have HR2 : Hid ((if wordB x = true ∨ amongB uriL x = true then 1 else 0) = r) := by have := HR.out; rwa [if_neg hp] at this
      clear HR hp
      have hW := fun w => Word_any x w
      cases hw : wordB x with
      | true =>
        rw [hw] at hW HR2
        have HW := Lib.hid hW
        have HR3 : Hid (1 = r) := by have := HR2.out; rwa [if_pos (.inl rfl)] at this
        clear hW hw HR2
        go_enter Tryd.func89, Tryd.ntmps89
        go_wp2_with (go_at_call 92; refine (HW.out _).mono ?_; rintro e w' ⟨rfl, rfl⟩)
        go_ret
        exact ⟨ret_int (by have := HR3.out; omega), Below.refl _ _⟩
      | false =>
        rw [hw] at hW HR2
        have HW := Lib.hid hW
        clear hW hw
        have HL : ∀ k, (hk : k < 21) → (w.alloc (uriRow 5)).cell? ⟨w.heap.size, k, none⟩ = some (.int .u8 ((uriL[k]'hk).toNat : Int)) := uri_cell w 5
        have hb0 : Below w.heap.size w (w.alloc (uriRow 5)) := (Below.refl _ _).alloc (Nat.le_refl _) _
        have hc0' : (w.alloc (uriRow 5)).cell? ⟨b, off, none⟩ = some (.int .i64 x) := (hb0.cell hbw).trans hc0
        unfold uriRow at HL hb0 hc0'
        have hcv : (convert 92 92 (.slice (some ⟨w.heap.size, 0, none⟩) 21 21)).run Tryd.prog (w.alloc (.cells #[.int .u8 35, .int .u8 59, .int .u8 47, .int .u8 63, .int .u8 58, .int .u8 64, .int .u8 38, .int .u8 61, .int .u8 43, .int .u8 36, .int .u8 44, .int .u8 95, .int .u8 46, .int .u8 33, .int .u8 126, .int .u8 42, .int .u8 39, .int .u8 40, .int .u8 41, .int .u8 91, .int .u8 93] 5)) = .ok (.slice (some ⟨w.heap.size, 0, none⟩) 21 21) (w.alloc (.cells #[.int .u8 35, .int .u8 59, .int .u8 47, .int .u8 63, .int .u8 58, .int .u8 64, .int .u8 38, .int .u8 61, .int .u8 43, .int .u8 36, .int .u8 44, .int .u8 95, .int .u8 46, .int .u8 33, .int .u8 126, .int .u8 42, .int .u8 39, .int .u8 40, .int .u8 41, .int .u8 91, .int .u8 93] 5 (21, 22))) :=
          Lib.run_convert_bytes_const w _ _ _ _ _ Tryd.underlying92 Tryd.underlying5
        go_enter Tryd.func89, Tryd.ntmps89
        go_wp2_with (go_at_call 92; refine (HW.out _).mono ?_; rintro e w' ⟨rfl, rfl⟩)
        obtain ⟨V, hV⟩ : ∃ V, w.alloc (.cells #[.int .u8 35, .int .u8 59, .int .u8 47, .int .u8 63, .int .u8 58, .int .u8 64, .int .u8 38, .int .u8 61, .int .u8 43, .int .u8 36, .int .u8 44, .int .u8 95, .int .u8 46, .int .u8 33, .int .u8 126, .int .u8 42, .int .u8 39, .int .u8 40, .int .u8 41, .int .u8 91, .int .u8 93] 5 (21, 22)) = V := ⟨_, rfl⟩
        rw [hV] at HL hb0 hc0' ⊢
        clear hV hc0 hI hcv
        have HLh := Lib.hid HL
        clear HL
        go_loop [36] (fun i => ∃ k : Nat, k ≤ 21 ∧ i = .int .i64 k ∧ Hid (amongB (uriL.take k) x = false)) (fun i => 21 - (intOf i).toNat)
        case atStart => exact ⟨0, Nat.zero_le _, rfl, rfl⟩
        case round =>
          obtain ⟨k, hk, rfl, hm⟩ := hrel
          by_cases hlt : k < 21
          · have hlt' : (k : Int) < 21 := by omega
            have hck := HLh.out k hlt
            obtain ⟨u, hu⟩ : ∃ u, uriL[k]'hlt = u := ⟨_, rfl⟩
            rw [hu] at hck
            have HU := Lib.hid hu
            clear hu
            have hw8 : wrap64 (u.toNat : Int) = (u.toNat : Int) := wrap64_u8 _
            by_cases hx : x = (u.toNat : Int)
            · have hx' : (x == (u.toNat : Int)) = true := beq_iff_eq.2 hx
              have HR3 : Hid (1 = r) := by
                have := HR2.out
                rwa [if_pos (.inr (by rw [hx, ← HU.out]; exact uri_hit hlt))] at this
              clear hx
              go_wp2_with fail
              go_ret
              exact ⟨ret_int (by have := HR3.out; omega), hb0⟩
            · have hx' : (x == (u.toNat : Int)) = false := beq_eq_false_iff_ne.2 hx
              have HM : Hid (amongB (uriL.take (k + 1)) x = false) := uri_miss hlt hm.out (by rw [HU.out]; exact fun h => hx h.symm)
              clear hx
              go_wp2_with fail
              go_round
              case rel => exact ⟨k + 1, by omega, by go_num, HM⟩
              case measure => simp [intOf]; omega
          · obtain rfl : k = 21 := by omega
            have HR3 : Hid (0 = r) := by
              have := HR2.out
              have hm' := hm.out
              rw [List.take_of_length_le (by decide)] at hm'
              rwa [if_neg (by rw [hm']; decide)] at this
            go_wp2_with fail
            go_ret
            exact ⟨ret_int (by have := HR3.out; omega), hb0⟩
end Go.Proofs.YtdcbngimgpdjoaaDoor
