/- props.uri with 'all': how far URI signs go. Condition: a list is no longer than an int. -/
import Derived.Test.YtdcbngimgpdjoaaDoorGs
import Derived.Test.YtdcbngimgpdjoaaDoorRange
import Derived.BigGuardIn
namespace Go.Proofs.YtdcbngimgpdjoaaDoor
open Go.RowKit Go.Shelf
attribute [local go_sem] Oper.semAt_some
theorem signN_le (l : List Int) : signN l ≤ l.length := by unfold signN; split <;> (try split) <;> (try split) <;> omega
/-- Is a list all of URI signs? -/
def goV : Nat → List Int → Bool
  | 0, l => l.isEmpty
  | f + 1, l => l.isEmpty || (signN l != 0 && goV f (l.drop (signN l)))
theorem goV_more : ∀ (f : Nat) (l : List Int), l.length ≤ f → ∀ g, l.length ≤ g → goV f l = goV g l := by
  intro f
  induction f with
  | zero =>
    intro l hl g _
    obtain rfl : l = [] := List.length_eq_zero_iff.1 (by omega)
    cases g <;> rfl
  | succ f ih =>
    intro l hl g hg
    cases g with
    | zero =>
      obtain rfl : l = [] := List.length_eq_zero_iff.1 (by omega)
      rfl
    | succ g =>
      unfold goV
      by_cases h0 : signN l = 0
      · simp [h0]
      · rw [ih (l.drop (signN l)) (by simp; omega) g (by simp; omega)]
def validS (l : List Int) : Bool := goV l.length l
theorem validS_step {l : List Int} (h : signN l ≠ 0) : validS l = validS (l.drop (signN l)) := by
  have hle := signN_le l
  unfold validS
  cases l with
  | nil => simp [signN] at h
  | cons a r =>
    rw [List.length_cons, goV]
    have : (signN (a :: r) != 0) = true := by simpa using h
    rw [this]
    simp only [List.isEmpty_cons, Bool.false_or, Bool.true_and]
    exact goV_more _ _ (by simp; omega) _ (Nat.le_refl _)
theorem validS_stop {l : List Int} (h : signN l = 0) : validS l = l.isEmpty := by
  unfold validS
  cases l with
  | nil => rfl
  | cons a r => rw [List.length_cons, goV, h]; simp
theorem each_any (A : Option Addr) (n c : Nat) (w : World) : Calls Tryd.prog 82 #[.slice A n c] w fun e w' =>
    e = .returned (.func (.func 88) #[] #[.pointer (some ⟨w.heap.size, 0, none⟩)]) ∧ w.alloc (.cells #[.slice A n c] 23) = w' := by
  go_enter Tryd.func82, Tryd.ntmps82
  go_wp2
  go_ret
  exact ⟨rfl, rfl⟩
theorem all_any (c : Int) (w : World) : Calls Tryd.prog 77 #[.int .i64 c] w fun e w' => e = .returned (.bool true) ∧ w = w' := by
  go_enter Tryd.func77, Tryd.ntmps77
  go_wp2
  go_ret
  exact ⟨rfl, rfl⟩
/-- How the boxes of uri stand when n signs were told. -/
structure UriSt (w : World) (A : Option Addr) (c : Nat) (l : List Int) (n : Nat) (W : World) : Prop where
  below : Below w.heap.size w W
  r0 : W.heap[w.heap.size]? = some (.cells #[.slice A l.length c] 23 (0, 0))
  r1 : W.heap[w.heap.size + 1]? = some (.cells #[.func (.func 77) #[] #[]] 37 (0, 0))
  r2 : W.heap[w.heap.size + 1 + 1]? = some (.cells #[.int .i64 n] 3 (0, 0))
  r3 : W.heap[w.heap.size + 1 + 1 + 1]? = some (.cells #[.slice A l.length c] 23 (0, 0))
theorem UriSt.calm {B : Nat} {w : World} {A : Option Addr} {c : Nat} {l : List Int} {n : Nat} (hB : w.heap.size ≤ B) : Calm B (UriSt w A c l n) := fun W i o o' hl h hc hs =>
  ⟨Calm.below hB W i o o' hl h hc hs.below, Calm.row (B := B) W i o o' hl h hc hs.r0, Calm.row (B := B) W i o o' hl h hc hs.r1, Calm.row (B := B) W i o o' hl h hc hs.r2, Calm.row (B := B) W i o o' hl h hc hs.r3⟩
theorem row_lt {W : World} {g : Nat} {o : Obj} (h : W.heap[g]? = some o) : g < W.heap.size := (Array.getElem?_eq_some_iff.1 h).1
theorem UriSt.then {w W W' : World} {A : Option Addr} {c : Nat} {l : List Int} {n : Nat} (h : UriSt w A c l n W) (k : Below W.heap.size W W') : UriSt w A c l n W' :=
  ⟨h.below.trans (k.mono h.below.size), (k.block _ (row_lt h.r0)).trans h.r0, (k.block _ (row_lt h.r1)).trans h.r1, (k.block _ (row_lt h.r2)).trans h.r2, (k.block _ (row_lt h.r3)).trans h.r3⟩
theorem UriSt.store {w W : World} {A : Option Addr} {c : Nat} {l : List Int} {n : Nat} (h : UriSt w A c l n W) (m : Nat) : UriSt w A c l m (W.setCell ⟨w.heap.size + 1 + 1, 0, none⟩ (.int .i64 m)) := by
  have hf : ∀ g, g ≠ w.heap.size + 1 + 1 → (W.setCell ⟨w.heap.size + 1 + 1, 0, none⟩ (.int .i64 m)).heap[g]? = W.heap[g]? := fun g hg => Below.heap_setCell W ⟨w.heap.size + 1 + 1, 0, none⟩ _ g hg
  exact ⟨h.below.setCell (p := ⟨w.heap.size + 1 + 1, 0, none⟩) (by show w.heap.size ≤ w.heap.size + 1 + 1; omega) _, (hf _ (by omega)).trans h.r0, (hf _ (by omega)).trans h.r1, Go.Joins.block_setCell h.r2 _, (hf _ (by omega)).trans h.r3⟩
theorem uri_boxes (w : World) (A : Option Addr) (c : Nat) (l : List Int) : UriSt w A c l 0 ((((w.alloc (.cells #[.slice A l.length c] 23)).alloc (.cells #[.func (.func 77) #[] #[]] 37)).alloc (.cells #[.int .i64 0] 3)).alloc (.cells #[.slice A l.length c] 23)) := by
  have n0 := World.alloc_heap_new w (.cells #[.slice A l.length c] 23)
  have n1 := World.alloc_heap_new (w.alloc (.cells #[.slice A l.length c] 23)) (.cells #[.func (.func 77) #[] #[]] 37)
  have n2 := World.alloc_heap_new ((w.alloc (.cells #[.slice A l.length c] 23)).alloc (.cells #[.func (.func 77) #[] #[]] 37)) (.cells #[.int .i64 0] 3)
  have n3 := World.alloc_heap_new (((w.alloc (.cells #[.slice A l.length c] 23)).alloc (.cells #[.func (.func 77) #[] #[]] 37)).alloc (.cells #[.int .i64 0] 3)) (.cells #[.slice A l.length c] 23)
  simp only [World.size_alloc] at n1 n2 n3
  exact ⟨((((Below.refl _ w).alloc (Nat.le_refl _) _).alloc (by simp) _).alloc (by simp; omega) _).alloc (by simp; omega) _,
    ((Below.heap_alloc _ _ _ (by simp; omega)).trans ((Below.heap_alloc _ _ _ (by simp; omega)).trans ((Below.heap_alloc _ _ _ (by simp)).trans n0))),
    ((Below.heap_alloc _ _ _ (by simp)).trans ((Below.heap_alloc _ _ _ (by simp)).trans n1)), (Below.heap_alloc _ _ _ (by simp)).trans n2, n3⟩
set_option maxRecDepth 100000 in
set_option maxHeartbeats 2000000 in
theorem eachIter (A : Option Addr) (c : Nat) (l : List Int) (lp : Nat) (w W : World) (hlc : l.length ≤ c) (hA : A = none → c = 0) (hl : l.length ≤ 9223372036854775807) (hI : IntsAt w w.heap.size A l) (hS : UriSt w A c l 0 W)
    (Bk : World → Prop) (Bx : Code → World → Prop) (keep : ∀ A B, KeepsOthers A B → Bk A → Bk B)
    (hY : ∀ (i k : Nat) (W1 : World), (UriSt w A c l i W1 ∧ i ≤ l.length ∧ validS l = validS (l.drop i) ∧ k = signN (l.drop i) ∧ k ≠ 0) → Bk W1 → YieldAt Fence.wide (3 - 1 - 1) Tryd.prog lp #[.int .i64 i, .int .i64 ((i : Int) + (k : Int))] W1 fun e W' =>
      (e = .returned (.bool true) ∧ UriSt w A c l (i + k) W' ∧ Bk W') ∨ (e = .returned (.bool false) ∧ ∃ cd, False ∧ Bx cd W'))
    (hk : Bk W) :
    CallsIn Fence.wide (3 - 1) Tryd.prog 88 #[.func (.yield lp) #[] #[], .pointer (some ⟨w.heap.size + 1 + 1 + 1, 0, none⟩)] W fun e W' => (∃ v, e = .returned v) ∧
      (((∃ n : Nat, n ≤ l.length ∧ UriSt w A c l n W' ∧ decide (n = l.length) = validS l) ∧ Bk W') ∨ (∃ cd, False ∧ Bx cd W')) := by
  refine callsIn_of_wp Tryd.func88 rfl trivial ?_ rfl
  simp only [Tryd.ntmps88, List.size_toArray, List.length_cons, List.length_nil, Nat.reduceAdd, Nat.reduceSub, Array.replicate_succ, Array.replicate_zero, List.push_toArray, List.append_toArray, List.nil_append, List.cons_append]
  gi_wp2
  gi_loopw [3] (fun i wr => ∃ k : Nat, k ≤ l.length ∧ i = .int .i64 k ∧ Hid (validS l = validS (l.drop k)) ∧ UriSt w A c l k wr ∧ Bk wr) (fun i _ => l.length - (intOf i).toNat)
  case atStart => exact ⟨0, Nat.zero_le _, rfl, rfl, hS, hk⟩
  case round =>
    obtain ⟨k, hk, rfl, hm, hst, hbk⟩ := hrel
    have hc3 := Lib.cell_of_heap hst.r3 0
    have hkl : (k : Int) ≤ (l.length : Int) := by omega
    have HSg : Hid (∀ A' c', IntsAt wr wr.heap.size A' (l.drop k) → Calls Tryd.prog 89 #[.slice A' (l.length - k) c'] wr fun e w' => e = .returned (.int .i64 (signN (l.drop k))) ∧ Below wr.heap.size wr w') := fun A' c' h => by
      have := sign_any A' c' (l.drop k) wr (by simp; omega) h
      rwa [List.length_drop] at this
    have HIr : Hid (IntsAt wr wr.heap.size A l) := (hI.below hst.below (Nat.le_refl _)).more hst.below.size
    have HD : Hid (∀ a, A = some a → IntsAt wr wr.heap.size (some (a.add k)) (l.drop k)) := fun a ha h => by
      subst ha
      obtain ⟨b, off, hb, hbw, hc⟩ := HIr.out (by simp at h; omega)
      cases hb
      refine ⟨b, off + k, by simp [Addr.add], hbw, fun j hj => ?_⟩
      have := hc (k + j) (by simp at hj; omega)
      rw [show nth (l.drop k) j = nth l (k + j) by simp [nth], show off + k + j = off + (k + j) by omega]
      exact this
    have HE : Hid (∀ A', l.length ≤ k → IntsAt wr wr.heap.size A' (l.drop k)) := fun A' hk' h => absurd h (by simp; omega)
    obtain ⟨s, hs⟩ : ∃ s, signN (l.drop k) = s := ⟨_, rfl⟩
    rw [hs] at HSg
    have HSv := Lib.hid hs
    have HSl : Hid (s ≤ l.length - k) := by have := signN_le (l.drop k); rw [hs, List.length_drop] at this; exact this
    clear hs
    have HL := Lib.hid hlc
    have HA := Lib.hid hA
    have HKL := Lib.hid hk
    have HST := Lib.hid hst
    have HY := Lib.hid hY
    have HM := hm
    have hcases : (A = none ∧ c = 0) ∨ (∃ a, A = some a ∧ c = k) ∨ (∃ a, A = some a ∧ k < c) := by
      cases A with
      | none => exact .inl ⟨rfl, hA rfl⟩
      | some a => rcases Nat.lt_or_ge k c with h | h
                  · exact .inr (.inr ⟨a, rfl, h⟩)
                  · exact .inr (.inl ⟨a, rfl, by omega⟩)
    have HSt2 : Hid (∀ w2, Below wr.heap.size wr w2 → UriSt w A c l k w2) := fun w2 h => hst.then h
    have HY2 : Hid (∀ w2, Below wr.heap.size wr w2 → s ≠ 0 → YieldAt Fence.wide (3 - 1 - 1) Tryd.prog lp #[.int .i64 k, .int .i64 ((k : Int) + (s : Int))] w2 fun e W' =>
      (e = .returned (.bool true) ∧ UriSt w A c l (k + s) W' ∧ Bk W') ∨ (e = .returned (.bool false) ∧ ∃ cd, False ∧ Bx cd W')) := fun w2 h h0 => hY k s w2 ⟨hst.then h, hk, hm.out, HSv.out.symm, h0⟩ (keep _ _ (keeps_of_below h) hbk)
    have hkadd : IntKind.i64.wrap ((k : Int) + (s : Int)) = (k : Int) + (s : Int) := IntWalk.i64_in _ (by have := HSl.out; omega)
    have HBk : Hid (∀ w2, Below wr.heap.size wr w2 → Bk w2) := fun w2 h => keep _ _ (keeps_of_below h) hbk
    have HStop : Hid (s = 0 → decide (k = l.length) = validS l) := fun h => by
      rw [hm.out, validS_stop (HSv.out.trans h)]
      by_cases e : k = l.length
      · simp [e]
      · have : (l.drop k).isEmpty = false := by cases hq : l.drop k with
          | nil => have := congrArg List.length hq; simp at this; omega
          | cons _ _ => rfl
        simp [e, this]
    have HNext : Hid (s ≠ 0 → validS l = validS (l.drop (k + s))) := fun h => by
      rw [hm.out, validS_step (by rw [HSv.out]; exact h), HSv.out, List.drop_drop]
    clear hm hst hY hbk hlc hA HST
    by_cases h0 : s = 0
    · rcases hcases with ⟨rfl, rfl⟩ | ⟨a, rfl, rfl⟩ | ⟨a, rfl, hkc⟩
      all_goals
        gi_wp2_with (refine ⟨trivial, ?_⟩; gi_at_call 89; refine (callsIn_wide.2 (HSg.out _ _ (by first | exact HD.out _ rfl | exact HE.out _ (by have := HL.out; omega)))).mono ?_; rintro e w2 ⟨rfl, hb2⟩; subst h0)
        refine ⟨fun _ h => (by cases h), ?_⟩
        gi_wp2
        refine bodyPost_ret (results_none rfl _ _ _) rfl ?_
        exact ⟨⟨_, rfl⟩, .inl ⟨⟨_, hk, HSt2.out w2 hb2, HStop.out trivial⟩, HBk.out w2 hb2⟩⟩
    · have h0' : ((s : Int) == 0) = false := beq_eq_false_iff_ne.2 (by omega)
      have HK0 := Lib.hid h0
      clear h0
      rcases hcases with ⟨rfl, rfl⟩ | ⟨a, rfl, rfl⟩ | ⟨a, rfl, hkc⟩
      all_goals
        gi_wp2_with (refine ⟨trivial, ?_⟩; gi_at_call 89; refine (callsIn_wide.2 (HSg.out _ _ (by first | exact HD.out _ rfl | exact HE.out _ (by have := HL.out; omega)))).mono ?_; rintro e w2 ⟨rfl, hb2⟩; obtain ⟨fn, tmps, assign, body, hy, hR⟩ := HY2.out w2 hb2 HK0.out)
        refine hR.mono ?_
        rintro e W3 (⟨rfl, hst3, hk3⟩ | ⟨rfl, cd, hF, _⟩)
        · gi_wp2
          go_roundw
          case rel => exact ⟨_, by have := HSl.out; have := HKL.out; omega, by go_num, Lib.hid (HNext.out HK0.out), hst3, hk3⟩
          case measure => simp [intOf]; have := HSl.out; have := HK0.out; omega
        · exact hF.elim
set_option maxRecDepth 100000 in
set_option maxHeartbeats 2000000 in
theorem uri_any (A : Option Addr) (c : Nat) (l : List Int) (w : World) (hlc : l.length ≤ c) (hA : A = none → c = 0) (hl : l.length ≤ 9223372036854775807) (hI : IntsAt w w.heap.size A l) :
    Calls Tryd.prog 76 #[.slice A l.length c, .func (.func 77) #[] #[]] w fun e w' => ∃ v, e = .returned v ∧ (∃ n : Nat, v = .int .i64 n ∧ n ≤ l.length ∧ decide (n = l.length) = validS l) ∧ Below w.heap.size w w' := by
  refine (callsIn_wide (n := 3)).1 ?_
  refine callsIn_of_wp_marks Tryd.func76 rfl trivial ?_ rfl
  simp only [Tryd.ntmps76, List.size_toArray, List.length_cons, List.length_nil, Nat.reduceAdd, Nat.reduceSub, Array.replicate_succ, Array.replicate_zero, List.push_toArray, List.append_toArray, List.nil_append, List.cons_append]
  gi_wp2_with (refine ⟨trivial, ?_⟩; gi_at_call 82; refine (callsIn_wide.2 (each_any _ _ _ _)).mono ?_; rintro e w' ⟨rfl, rfl⟩)
  obtain ⟨V, hV⟩ : ∃ V, ((((w.alloc (.cells #[.slice A l.length c] 23)).alloc (.cells #[.func (.func 77) #[] #[]] 37)).alloc (.cells #[.int .i64 0] 3)).alloc (.cells #[.slice A l.length c] 23)) = V := ⟨_, rfl⟩
  have hSV : UriSt w A c l 0 V := by rw [← hV]; exact uri_boxes w A c l
  rw [hV]
  clear hV
  refine range_law (β := Nat × Nat) rfl (by decide) (gf := 88) (lb := #[.pointer (some ⟨w.heap.size + 1 + 1 + 1, 0, none⟩)]) rfl trivial (enters_of Tryd.func88 (by kernel_rfl) rfl)
    (fun x => #[.int .i64 (x.1 : Int), .int .i64 ((x.1 : Int) + (x.2 : Int))]) (fun _ => rfl)
    (fun x W => UriSt w A c l x.1 W ∧ x.1 ≤ l.length ∧ validS l = validS (l.drop x.1) ∧ x.2 = signN (l.drop x.1) ∧ x.2 ≠ 0)
    (fun x W => UriSt w A c l (x.1 + x.2) W)
    (fun _ _ _ => False)
    (fun W => ∃ n : Nat, n ≤ l.length ∧ UriSt w A c l n W ∧ decide (n = l.length) = validS l)
    (fun _ _ => False)
    (fun x => (UriSt.calm (by have := hSV.below.size; exact this)).and Calm.pure)
    (fun x => UriSt.calm (by have := hSV.below.size; exact this))
    (fun cd i => Calm.pure)
    (Calm.ex fun n W l' o o' hl' h hc hs => ⟨hs.1, UriSt.calm (by have := hSV.below.size; exact this) W l' o o' hl' h hc hs.2.1, hs.2.2⟩)
    (fun cd => Calm.pure)
    (fun x => { tmps := #[.slice A l.length c, .func (.func 77) #[] #[], .pointer (some ⟨w.heap.size, 0, none⟩), .pointer (some ⟨w.heap.size + 1, 0, none⟩), .int .i64 0, .pointer (some ⟨w.heap.size + 1 + 1, 0, none⟩), .int .i64 (x.1 : Int), .int .i64 ((x.1 : Int) + (x.2 : Int)), .slice A l.length c,
      .func (.func 88) #[] #[.pointer (some ⟨w.heap.size + 1 + 1 + 1, 0, none⟩)], .int .i64 (x.1 : Int), .int .i64 ((x.1 : Int) + (x.2 : Int)), undef, undef, undef, undef, undef, undef, undef, undef, undef], defers := [] }) ?assign ?body ?iter ?done ?stop
  case assign =>
    intro lp x W K hK
    gi_wp2
    exact hK
  case iter =>
    intro lp Bk Bx o kBk kBx hY hk
    have hS0 : UriSt w A c l 0 ((V.alloc (.deferred (some []))).alloc o) := hSV.then (((Below.refl _ V).alloc (Nat.le_refl _) _).alloc (by simp) _)
    exact eachIter A c l lp w _ hlc hA hl hI hS0 Bk Bx kBk (fun i k W1 hs hb => hY (i, k) W1 hs hb) hk
  case done =>
    rintro D W hD ⟨n, hn, hst, hv⟩ hK
    have hc2 := Lib.cell_of_heap hst.r2 0
    gi_wp2
    refine ⟨by simp, .inl ⟨_, _, rfl, run_takeDeferred hK, ?_⟩⟩
    have hlt : w.heap.size ≤ D := by have := hSV.below.size; omega
    refine ⟨.int .i64 n, ?_, _, rfl, ⟨n, rfl, hn, hv⟩, hst.below.trans (belowK_b (w := w) (Nat.le_refl _) W D _ _ hlt hK rfl rfl)⟩
    simp [results, Tryd.f76, go_sem]
  case stop => exact fun D cd W hD hF => hF.elim
  case body =>
    rintro lp ⟨i, k⟩ W ⟨hst, hi, hm, hk, h0⟩
    simp only at hst hi hm hk h0 ⊢
    have hil : i < l.length := by
      rcases Nat.lt_or_ge i l.length with h | h
      · exact h
      · rw [List.drop_eq_nil_of_le h] at hk
        exact absurd (hk.trans rfl) h0
    obtain ⟨b, off, rfl, hbw, hc⟩ := hI (by omega)
    have hci := (hst.below.drew.cell (p := ⟨b, off + i, none⟩) hbw).trans (hc i hil)
    have HD : Hid (UriSt w (some ⟨b, off, none⟩) c l i W.drew) := hst.then (Below.refl _ W).drew
    have hc0 : W.drew.cell? ⟨w.heap.size, 0, none⟩ = some (.slice (some ⟨b, off, none⟩) l.length c) := Lib.cell_of_heap HD.out.r0 0
    have hc1 : W.drew.cell? ⟨w.heap.size + 1, 0, none⟩ = some (.func (.func 77) #[] #[]) := Lib.cell_of_heap HD.out.r1 0
    have hc2 : W.drew.cell? ⟨w.heap.size + 1 + 1, 0, none⟩ = some (.int .i64 i) := Lib.cell_of_heap HD.out.r2 0
    have hf2 : W.drew.frozen? ⟨w.heap.size + 1 + 1, 0, none⟩ = false := Go.Joins.unfrozen_of_block HD.out.r2 0
    have hi' : (i : Int) < (l.length : Int) := by omega
    have HK : Hid (KeepsOthers W (W.setCell ⟨w.heap.size + 1 + 1, 0, none⟩ (.int .i64 ((i : Int) + (k : Int)))).drew) := (KeepsOthers.setCell _ _ _).trans (keeps_of_below (Below.refl _ _).drew)
    have HU : Hid (UriSt w (some ⟨b, off, none⟩) c l (i + k) (W.setCell ⟨w.heap.size + 1 + 1, 0, none⟩ (.int .i64 ((i : Int) + (k : Int)))).drew) := by
      have := (hst.store (i + k)).then (Below.refl _ _).drew
      rwa [Int.natCast_add] at this
    clear hst hc hk h0 hm hi
    gi_wp2
    gi_region_with (refine ⟨trivial, ?_⟩; gi_at_call 77; refine (CallsIn.inRound lp (callsIn_wide.2 (all_any _ _))).mono ?_; rintro e w1 ⟨rfl, rfl⟩)
    all_goals (first | exact ⟨HK.out, HU.out⟩ | (gi_wp2; exact ⟨HK.out, HU.out⟩))
end Go.Proofs.YtdcbngimgpdjoaaDoor
