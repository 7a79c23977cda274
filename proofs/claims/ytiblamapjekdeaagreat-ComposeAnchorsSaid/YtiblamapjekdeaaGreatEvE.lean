/- The program's End: the place behind a node. Condition: a row of at most 100000 events. -/
import Derived.Test.YtiblamapjekdeaaGreatEv1
import Derived.Test.YtiblamapjekdeaaGreatEvS
import Derived.Deep.RegionWith
import Derived.BigRegion
import Derived.BigQuiet
import Derived.Deep.QuietTactic
import Derived.Laws.ResultCell
namespace Go.Proofs.YtiblamapjekdeaaGreat
open Go.RowKit
theorem results_cell {fn : Func} {p : Tmp} {ty : TypeId} (h : fn.results = #[.cell p ty]) (tmps : Array Value) (P : Program) (w : World) :
    (results fn tmps).run P w = ((asAddr (tmps.getD p undef)).run P w).andThen fun a w₁ => (loadVar ty a).run P w₁ := by
  simp only [results, h]
  simp [Sem.run_bind, Result.andThen]
theorem begin_any (k : Int) (w : World) : Calls Tryz.prog 59 #[.int .i64 k] w fun e w' => e = .returned (.agg #[.int .i64 k, .int .i64 0]) ∧ Below w.heap.size w w' := by
  go_enter Tryz.func59, Tryz.ntmps59
  go_wp2
  (try simp only [Exit.inBlock, Exit.then])
  refine bodyPost_ret (v := .agg #[.int .i64 k, .int .i64 0]) ?_ rfl ⟨rfl, (Below.refl _ _).alloc (Nat.le_refl _) _⟩
  rw [results_cell rfl]
  go_simp
theorem ends_any (k : Int) (n : Nat) (x : Int) (w : World) (hk : k = 3 ∨ k = 5) : Calls Tryz.prog 60 #[.agg #[.int .i64 k, .int .i64 n], .int .i64 x] w fun e w' =>
    e = .returned (.bool (decide (x = k + 1 ∧ (k = 3 ∨ n % 2 = 0)))) ∧ Below w.heap.size w w' := by
  go_enter Tryz.func60, Tryz.ntmps60
  rcases hk with rfl | rfl
  · go_wp2
    all_goals (go_ret; exact ⟨ret_bool (by simp_all), (Below.refl _ _).alloc (Nat.le_refl _) _⟩)
  · go_wp2
    all_goals (go_ret; refine ⟨ret_bool ?_, (Below.refl _ _).alloc (Nat.le_refl _) _⟩)
    all_goals (rw [Bool.eq_iff_iff]; simp_all <;> omega)
theorem Tryz.infoOpen : (Tryz.prog.info? 117).map (fun i => (i.zero, i.size, i.bytes)) = some (some (.agg #[.int .i64 0, .int .i64 0]), 2, 16) := by kernel_rfl
theorem cell_two_new (w : World) (a b : Value) (t : TypeId) : ∀ j u, [a, b][j]? = some u → (w.alloc (.cells #[a, b] t)).cell? ((⟨w.heap.size, 0, none⟩ : Addr).add j) = some u := by
  intro j u hj
  match j, hj with
  | 0, hj => simp at hj; subst hj; simp [Addr.add]
  | 1, hj => simp at hj; subst hj; simp [Addr.add]
  | j + 2, hj => simp at hj
theorem own_below {w w' : World} {B : Nat} {e : TypeId} {size : Nat} {v : Value} {n : Nat} {xs : List Value} (h : w.ownsRow B e size v n xs) (hb : Below w.heap.size w w') : w'.ownsRow B e size v n xs :=
  h.kept (row := none) ⟨hb.os, hb.tape, hb.output, hb.size, fun k hk _ => hb.block k hk⟩ (by cases v.ownBlock <;> simp)
set_option maxRecDepth 100000 in
set_option maxHeartbeats 2000000 in
theorem End_any (A : Option Addr) (c : Nat) (L : List Ev) (i : Int) (w : World) (hl : L.length ≤ 1500000) (hE : EvsAt w w.heap.size A L) :
    Calls Tryz.prog 33 #[.slice A L.length c, .int .i64 i] w fun e w' => e = .returned (.int .i64 (endI L i)) ∧ Below w.heap.size w w' := by
  obtain ⟨i0, hi, hz0, hz1, hz2⟩ := info_parts Tryz.infoOpen
  go_enter Tryz.func33, Tryz.ntmps33
  by_cases hr : i < 0 ∨ (L.length : Int) ≤ i
  · have e : endI L i = i := by rw [endI, if_pos hr]
    rw [e]
    rcases hr with hr | hr
    · go_wp2
      all_goals first | omega | (go_ret; exact ⟨rfl, Below.refl _ _⟩)
    · go_wp2
      all_goals first | omega | (go_ret; exact ⟨rfl, Below.refl _ _⟩)
  · obtain ⟨n, rfl⟩ : ∃ n : Nat, i = n := ⟨i.toNat, by omega⟩
    have hlt : n < L.length := by omega
    have hlt' : (n : Int) < (L.length : Int) := by omega
    obtain ⟨b, off, rfl, hbw, hc⟩ := hE (by omega)
    have c0 := (hc n hlt).c0
    have HK : Hid (∀ k, k < L.length → EvAt w b (off + k * 6) (evs L k)) := hc
    have HX : Hid (endI L n = endI L n) := rfl
    clear hc
    by_cases h7 : (evs L n).kind = 7 ∨ (evs L n).kind = 8
    · rw [endI_leaf hlt h7]
      rcases h7 with h7 | h7 <;> rw [h7] at c0
      all_goals
        go_wp2
        go_ret
        exact ⟨rfl, Below.refl _ _⟩
    · by_cases ho : (evs L n).kind = 3 ∨ (evs L n).kind = 5
      · have hsc := endI_scan hlt ho
        have HS0 : Hid (endI L n = (match scanS L n n [] with | some m => (n : Int) + m | none => n)) := hsc
        clear hsc
        obtain ⟨x0, hx0⟩ : ∃ x0, (evs L n).kind = x0 := ⟨_, rfl⟩
        rw [hx0] at c0 h7 ho
        have HO : Hid ((evs L n).kind = x0) := hx0
        clear hx0
        have hx0' : x0 = 3 ∨ x0 = 5 := ho
        have hoo := Lib.hid ho
        have b7 : (x0 == 7) = false := beq_eq_false_iff_ne.2 (fun h => h7 (.inl h))
        have b8 : (x0 == 8) = false := beq_eq_false_iff_ne.2 (fun h => h7 (.inr h))
        have step : ∀ (x0' : Int), x0 = x0' → True := fun _ _ => trivial
        clear step
        have bo : (x0 == 3 || x0 == 5) = true := by rcases hx0' with h | h <;> rw [h] <;> rfl
        clear ho h7
        go_wp2_with (go_at_call 58; refine (opens_any _ _).mono ?_; rintro e w1 ⟨rfl, rfl⟩)
        clear c0 bo b7 b8 hx0' hlt' hr
        have HH : Hid ((evs L n).kind = 3 ∨ (evs L n).kind = 5) := by show _ ∨ _; rw [HO.out]; exact hoo.out
        clear HO hoo
        go_loopw [6, 7] (fun v i wr => ∃ (k : Nat) (st : List (Int × Nat)), n ≤ k ∧ k ≤ L.length ∧ i = .int .i64 k ∧ wr.ownsRow w.heap.size 117 2 v st.length (flat2 st) ∧ Below w.heap.size w wr ∧ st.length ≤ k ∧ EndInv L n k st) (fun _ i _ => L.length - (intOf i).toNat)
        case atStart => exact ⟨n, [], Nat.le_refl _, by omega, rfl, World.ownsRow_nil _ _ _ _, Below.refl _ _, by simp, EndInv.start⟩
        case round =>
          obtain ⟨k, st, hnk, hk, rfl, hown, hbl, hst, HI⟩ := hrel
          by_cases hlt2 : k < L.length
          · have hlt3 : (k : Int) < (L.length : Int) := by omega
            obtain ⟨c0, c1, c2, c3, c4, c5⟩ := (HK.out k hlt2).below hbl hbw
            have hsz := hbl.size
            obtain ⟨x, hx⟩ : ∃ x, evs L k = x := ⟨_, rfl⟩
            rw [hx] at c0 c1 c2 c3 c4 c5
            obtain ⟨kd, tx, tg, an, sy, fl⟩ := x
            have hkd : (evs L k).kind = kd := by rw [hx]
            clear hx
            by_cases ho : kd = 3 ∨ kd = 5
            · have HI2 := HI.opens hlt2 hnk (hkd ▸ ho)
              rw [hkd] at HI2
              clear HI
              have HI3 := Lib.hid HI2
              clear HI2 hkd
              rcases ho with rfl | rfl
              all_goals
                go_wp2_with (first
                  | (go_at_call 58; refine (opens_any _ _).mono ?_; rintro e w1 ⟨rfl, rfl⟩)
                  | (go_at_call 59; refine (begin_any _ _).mono ?_; rintro e w2 ⟨rfl, hb2⟩)
                  | (at_builtin; refine wpList_append_own _ rfl _ _ 115 rfl w.heap.size 117 i0 (.agg #[.int .i64 0, .int .i64 0]) 2 16 Tryz.underlying115 hi hz0 hz1 hz2 rfl (by decide) _ _ _ rfl ((own_below (hown.alloc _) hb2).alloc _) ⟨w2.heap.size, 0, none⟩ 1 1 [_, _] rfl rfl (cell_two_new _ _ _ _) (fun x hx => by simp at hx; rcases hx with rfl | rfl <;> rfl) (by unfold maxLen; omega) (by omega) (by have := hb2.size; simp at this ⊢; omega) ?_; intro v' w3 hown' hgrow3 hnil3))
                have hb3 : Below w.heap.size w w3 := Below.grown (((hbl.alloc hsz _).trans (hb2.mono (by simp; omega))).alloc (by have := hb2.size; simp at this; omega) _) hgrow3 (by have := hb2.size; simp at this ⊢; omega) (fun j hj => ((own_below (hown.alloc _) hb2).lt _ hj).1)
                clear hgrow3 hnil3
                go_wp2
                go_roundw
                case rel => first | exact ⟨k + 1, (3, 0) :: st, by omega, by omega, by go_num, hown', hb3, by simp; omega, HI3.out⟩ | exact ⟨k + 1, (5, 0) :: st, by omega, by omega, by go_num, hown', hb3, by simp; omega, HI3.out⟩
                case measure => simp [intOf]; omega
            · have k3 : ¬ kd = 3 := fun h => ho (.inl h)
              have k5 : ¬ kd = 5 := fun h => ho (.inr h)
              clear ho
              cases st with
              | nil =>
                obtain rfl := HI.first rfl
                rw [← hkd] at k3 k5
                exact (HH.out.elim k3 k5).elim
              | cons q rest =>
                obtain ⟨qk, qn⟩ := q
                have hqn : qn ≤ k := HI.small (qk, qn) (by simp)
                have hqk : qk = 3 ∨ qk = 5 := HI.good (qk, qn) (by simp)
                rcases hown.2 with ⟨_, hn0⟩ | ⟨g, cap, cur, rfl, hgb, hgh, hncap, hcapm, _, _⟩
                · simp at hn0
                simp only [List.length_cons] at hown hncap hst
                have hglt := (Array.getElem?_eq_some_iff.1 hgh).1
                clear hgh
                have ct0 := (hown.cellAt (rest.length * 2) (by omega)).trans (flat2_top0 (qk, qn) rest)
                have ct1 := (hown.cellAt (rest.length * 2 + 1) (by omega)).trans (flat2_top1 (qk, qn) rest)
                have fz1 := hown.frozenAt (rest.length * 2 + 1)
                have hix1 : (rest.length : Int) < (rest.length : Int) + 1 := by omega
                have hix3 : rest.length < rest.length + 1 := by omega
                have hix0 : (0 : Int) ≤ (rest.length : Int) := by omega
                have cOpen : Tryz.prog.cellsOf 117 = 2 := by kernel_rfl
                have hwr : IntKind.i64.wrap (rest.length : Int) = (rest.length : Int) := by rw [IntKind.wrap_i64]; omega
                simp only at ct0 ct1
                by_cases h7 : kd = 7 ∨ kd = 8
                · have HI2 := HI.leaf hlt2 hnk (hkd ▸ h7)
                  clear HI
                  have HI3 := Lib.hid HI2
                  clear HI2 hkd k3 k5
                  rcases h7 with rfl | rfl
                  all_goals
                    go_wp2_with (go_at_call 58; refine (opens_any _ _).mono ?_; rintro e w1 ⟨rfl, rfl⟩)
                    go_roundw
                    case rel => exact ⟨k + 1, (qk, qn + 1) :: rest, by omega, by omega, by go_num, (flat2_bump hown).alloc _, (hbl.setCell hgb _).alloc (by simpa using hsz) _, by simp; omega, HI3.out⟩
                    case measure => simp [intOf]; omega
                · have k7 : ¬ kd = 7 := fun h => h7 (.inl h)
                  have k8 : ¬ kd = 8 := fun h => h7 (.inr h)
                  clear h7
                  have b3 : (kd == 3) = false := beq_eq_false_iff_ne.2 k3
                  have b5 : (kd == 5) = false := beq_eq_false_iff_ne.2 k5
                  have b7 : (kd == 7) = false := beq_eq_false_iff_ne.2 k7
                  have b8 : (kd == 8) = false := beq_eq_false_iff_ne.2 k8
                  rw [← hkd] at k3 k5 k7 k8
                  by_cases hcl : kd = qk + 1 ∧ (qk = 3 ∨ qn % 2 = 0)
                  · have hcl' := hcl
                    rw [← hkd] at hcl'
                    have hdec : decide (kd = qk + 1 ∧ (qk = 3 ∨ qn % 2 = 0)) = true := decide_eq_true hcl
                    cases rest with
                    | nil =>
                      have HL := Lib.hid (HI.last hlt2 hnk k3 k5 k7 k8 hcl' HS0.out)
                      clear HI hcl' hkd hcl k3 k5 k7 k8
                      simp only [List.length_nil, Nat.zero_mul, Nat.zero_add] at hst hown hncap ct0 ct1 fz1
                      clear hix1 hix3 hix0 hwr
                      go_wp2_with (go_at_call 58; refine (opens_any _ _).mono ?_; rintro e w1 ⟨rfl, rfl⟩)
                      go_region_with (go_at_call 60; refine (ends_any _ _ _ _ hqk).mono ?_; rintro e w5 ⟨rfl, hb5⟩; have hb6 : Below w.heap.size w w5 := ((hbl.alloc hsz _).drew).trans (hb5.mono (by simp; omega)); have hown6 := own_below ((hown.alloc _).drew) hb5; clear hb5)
                      all_goals go_wp2
                      all_goals (go_ret; exact ⟨ret_int HL.out.symm, hb6⟩)
                    | cons p s =>
                      obtain ⟨pk, pn⟩ := p
                      have hpn : pn ≤ k := HI.small (pk, pn) (by simp)
                      have HI2 := HI.close hlt2 hnk k3 k5 k7 k8 hcl'
                      have HI3 := Lib.hid HI2
                      clear HI HI2 hcl' hkd hcl k3 k5 k7 k8
                      obtain ⟨m, hm⟩ : ∃ m, s.length + 1 = m := ⟨_, rfl⟩
                      simp only [List.length_cons] at hst hown hncap ct0 ct1 fz1 hix1 hix3 hix0 hwr ⊢
                      rw [hm] at hst hown hncap ct0 ct1 fz1 hix1 hix3 hix0 hwr ⊢
                      have HM := Lib.hid hm
                      clear hm
                      go_wp2_with (go_at_call 58; refine (opens_any _ _).mono ?_; rintro e w1 ⟨rfl, rfl⟩)
                      go_region_with (go_at_call 60; refine (ends_any _ _ _ _ hqk).mono ?_; rintro e w5 ⟨rfl, hb5⟩; have hb6 : Below w.heap.size w w5 := ((hbl.alloc hsz _).drew).trans (hb5.mono (by simp; omega)); have hown6 := own_below ((hown.alloc _).drew) hb5; clear hb5)
                      all_goals
                        have hm := HM.out
                        subst hm
                        have hown7 := flat2_pop hown6
                        have hix4 : (s.length : Int) < (s.length : Int) + 1 := by omega
                        have hix5 : (0 : Int) ≤ (s.length : Int) := by omega
                        have hix6 : IntKind.i64.wrap (s.length : Int) = (s.length : Int) := by rw [IntKind.wrap_i64]; omega
                        have dt1 := (hown7.cellAt (s.length * 2 + 1) (by simp; omega)).trans (flat2_top1 (pk, pn) s)
                        have dz1 := hown7.frozenAt (s.length * 2 + 1)
                        simp only [List.length_cons] at hown7 dt1 dz1
                        clear hown6 ct0 ct1 fz1
                        go_wp2
                        go_roundw
                        case rel => exact ⟨k + 1, (pk, pn + 1) :: s, by omega, by omega, by go_num, flat2_bump hown7, hb6.setCell hgb _, by simp; omega, HI3.out⟩
                        case measure => simp [intOf]; omega
                  · have hdec : decide (kd = qk + 1 ∧ (qk = 3 ∨ qn % 2 = 0)) = false := decide_eq_false hcl
                    rw [← hkd] at hcl
                    have HL := Lib.hid (HI.stop hlt2 hnk k3 k5 k7 k8 hcl HS0.out)
                    clear HI hkd hcl k3 k5 k7 k8
                    go_wp2_with (go_at_call 58; refine (opens_any _ _).mono ?_; rintro e w1 ⟨rfl, rfl⟩)
                    go_region_with (go_at_call 60; refine (ends_any _ _ _ _ hqk).mono ?_; rintro e w5 ⟨rfl, hb5⟩; have hb6 : Below w.heap.size w w5 := ((hbl.alloc hsz _).drew).trans (hb5.mono (by simp; omega)); have hown6 := own_below ((hown.alloc _).drew) hb5; clear hb5)
                    all_goals go_wp2
                    all_goals (go_ret; exact ⟨ret_int HL.out.symm, hb6⟩)
          · have e := HI.over (by omega) HS0.out
            go_wp2
            go_ret
            exact ⟨ret_int e.symm, hbl⟩
      · have e := endI_none hlt (fun h => ho (.inl h)) (fun h => ho (.inr h)) (fun h => h7 (.inl h)) (fun h => h7 (.inr h))
        rw [e]
        generalize (evs L n).kind = x at *
        have k3 : ¬ x = 3 := fun h => ho (.inl h)
        have k5 : ¬ x = 5 := fun h => ho (.inr h)
        have k7 : ¬ x = 7 := fun h => h7 (.inl h)
        have k8 : ¬ x = 8 := fun h => h7 (.inr h)
        have b3 : (x == 3) = false := beq_eq_false_iff_ne.2 k3
        have b5 : (x == 5) = false := beq_eq_false_iff_ne.2 k5
        have b7 : (x == 7) = false := beq_eq_false_iff_ne.2 k7
        have b8 : (x == 8) = false := beq_eq_false_iff_ne.2 k8
        go_wp2
        go_ret
        exact ⟨rfl, Below.refl _ _⟩
end Go.Proofs.YtiblamapjekdeaaGreat
