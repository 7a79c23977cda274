/- The walks of the laws on chars, and of TopNames. No condition. -/
import Derived.Test.YtifhnjaeegmfkaaChars
namespace Go.Proofs.Ytifhnjaeegmfkaa
open Go.RowKit
theorem alive2_any (w : World) : Calls Try.prog 10 #[] w fun e w' => e = .returned (.bool true) ∧ w = w' := by
  go_enter Try.func10, Try.ntmps10
  go_wp2_with fail
  refine (Hex_any _ _).mono ?_
  rintro e w' ⟨rfl, rfl⟩
  have h1 : hexI 65 = 10 := by decide
  rw [h1]
  go_wp2_with fail
  refine (Print_any _ _).mono ?_
  rintro e w' ⟨rfl, rfl⟩
  rw [show printB 97 = true from by decide]
  go_wp2_with fail
  refine (Print_any _ _).mono ?_
  rintro e w' ⟨rfl, rfl⟩
  rw [show printB 0 = false from by decide]
  go_wp2_with fail
  go_ret
  exact ⟨rfl, rfl⟩
theorem kinds_core (c : Int) (w : World) (b32 b9 : Bool) (h32 : (c == 32) = b32) (h9 : (c == 9) = b9) (hbl : blankB c = (b32 || b9)) :
    Calls Try.prog 3 #[.int .i64 c] w fun e w' => e = .returned (.bool true) ∧ Below w.heap.size w w' := by
  cases b32 <;> cases b9
  all_goals
    go_enter Try.func3, Try.ntmps3
    go_wp2_with (first | (go_at_call 10; refine (alive2_any _).mono ?_; rintro e w' ⟨rfl, rfl⟩) | (go_at_call 11; refine (Print_any _ _).mono ?_; rintro e w' ⟨rfl, rfl⟩) | (go_at_call 12; refine (RPrint_any _ _).mono ?_; rintro e w' ⟨rfl, rfl⟩) | (go_at_call 13; refine (Blank_any _ _).mono ?_; rintro e w' ⟨rfl, rfl⟩) | (go_at_call 14; refine (Sign_any _ _).mono ?_; rintro e w1 ⟨rfl, hb1⟩) | (go_at_call 15; refine (RSign_any _ _).mono ?_; rintro e w' ⟨rfl, rfl⟩) | (go_at_call 16; refine (Flow_any _ _).mono ?_; rintro e w2 ⟨rfl, hb2⟩) | (go_at_call 17; refine (RFlow_any _ _).mono ?_; rintro e w' ⟨rfl, rfl⟩) | (go_at_call 18; refine (Name_any _ _).mono ?_; rintro e w3 ⟨rfl, hb3⟩) | (go_at_call 19; refine (RName_any _ _).mono ?_; rintro e w' ⟨rfl, rfl⟩) | (go_at_call 20; refine (Word_any _ _).mono ?_; rintro e w' ⟨rfl, rfl⟩) | (go_at_call 21; refine (RWord_any _ _).mono ?_; rintro e w' ⟨rfl, rfl⟩) | (go_at_call 22; refine (Hex_any _ _).mono ?_; rintro e w' ⟨rfl, rfl⟩) | (go_at_call 23; refine (RHex_any _ _).mono ?_; rintro e w' ⟨rfl, rfl⟩))
    go_ret
    exact ⟨rfl, below_then (below_then hb1 hb2) hb3⟩
theorem charsKinds_walk (c : Int) (_wc : (Lit.int .i64 c).wf = true) (w : World) : Calls Try.prog 3 #[.int .i64 c] w fun e w' => e = .returned (.bool true) ∧ Below w.heap.size w w' :=
  kinds_core c w _ _ rfl rfl (by rw [Bool.eq_iff_iff]; simp [blankB])
theorem within_core (c : Int) (w : World) (bw bn bp bb bf bs : Bool) (hw : wordB c = bw) (hn : nameB c = bn) (hp : printB c = bp) (hb : blankB c = bb) (hf : flowB c = bf) (hs : signB c = bs)
    (h : (bw = true ∧ bn = true ∧ bp = true ∧ bb = false ∧ bf = false ∧ hexI c < 16) ∨ (bw = false ∧ hexI c < 0 ∧ ((bn = true ∧ bp = true ∧ bb = false ∧ bf = false) ∨ (bn = false ∧ (bf = false ∨ (bf = true ∧ bs = true)))))) :
    Calls Try.prog 4 #[.int .i64 c] w fun e w' => e = .returned (.bool true) ∧ Below w.heap.size w w' := by
  rcases h with ⟨rfl, rfl, rfl, rfl, rfl, hx⟩ | ⟨rfl, hx, ⟨rfl, rfl, rfl, rfl⟩ | ⟨rfl, rfl | ⟨rfl, rfl⟩⟩⟩
  all_goals
    go_enter Try.func4, Try.ntmps4
    go_wp2_with (first | (go_at_call 10; refine (alive2_any _).mono ?_; rintro e w' ⟨rfl, rfl⟩) | (go_at_call 11; refine (Print_any _ _).mono ?_; rintro e w' ⟨rfl, rfl⟩) | (go_at_call 13; refine (Blank_any _ _).mono ?_; rintro e w' ⟨rfl, rfl⟩) | (go_at_call 14; refine (Sign_any _ _).mono ?_; rintro e w1 ⟨rfl, hb1⟩) | (go_at_call 16; refine (Flow_any _ _).mono ?_; rintro e w2 ⟨rfl, hb2⟩) | (go_at_call 18; refine (Name_any _ _).mono ?_; rintro e w3 ⟨rfl, hb3⟩) | (go_at_call 20; refine (Word_any _ _).mono ?_; rintro e w' ⟨rfl, rfl⟩) | (go_at_call 22; refine (Hex_any _ _).mono ?_; rintro e w' ⟨rfl, rfl⟩))
    all_goals (go_ret; refine ⟨rfl, ?_⟩; repeat (first | assumption | exact Below.refl _ _ | refine below_then ?_ (by assumption)))
theorem charsWithin_walk (c : Int) (_wc : (Lit.int .i64 c).wf = true) (w : World) : Calls Try.prog 4 #[.int .i64 c] w fun e w' => e = .returned (.bool true) ∧ Below w.heap.size w w' := by
  refine within_core c w _ _ _ _ _ _ rfl rfl rfl rfl rfl rfl ?_
  cases hw : wordB c with
  | true =>
    have hn := word_name hw
    have h := (nameB_iff c).1 hn
    refine .inl ⟨rfl, hn, h.1, h.2.1, h.2.2.2.2.2, ?_⟩
    by_cases hx : 0 ≤ hexI c
    · exact (hex_word hx).2
    · omega
  | false =>
    refine .inr ⟨rfl, ?_, ?_⟩
    · by_cases hx : 0 ≤ hexI c
      · rw [(hex_word hx).1] at hw; cases hw
      · omega
    · cases hn : nameB c with
      | true =>
        have h := (nameB_iff c).1 hn
        exact .inl ⟨rfl, h.1, h.2.1, h.2.2.2.2.2⟩
      | false =>
        refine .inr ⟨rfl, ?_⟩
        cases hf : flowB c with
        | true => exact .inr ⟨rfl, flow_sign hf⟩
        | false => exact .inl rfl
end Go.Proofs.Ytifhnjaeegmfkaa
