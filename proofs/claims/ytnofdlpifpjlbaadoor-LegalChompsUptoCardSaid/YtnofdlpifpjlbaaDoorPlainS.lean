/- Where plain's stop ends: a range over the places at which a text may end. Condition: a list is no longer than an int. -/
import Derived.Test.YtnofdlpifpjlbaaDoorPlainI
namespace Go.Proofs.YtnofdlpifpjlbaaDoor
open Go.RowKit Go.Shelf
attribute [local go_sem] Oper.semAt_some
theorem five_boxes (w : World) (v0 v1 v2 v3 v4 : Value) (t0 t1 t2 t3 t4 : TypeId) : ∃ V, (((((w.alloc (.cells #[v0] t0)).alloc (.cells #[v1] t1)).alloc (.cells #[v2] t2)).alloc (.cells #[v3] t3)).alloc (.cells #[v4] t4)) = V ∧
    V.heap.size = w.heap.size + 5 ∧ Below w.heap.size w V ∧ V.cell? ⟨w.heap.size, 0, none⟩ = some v0 ∧ V.cell? ⟨w.heap.size + 1, 0, none⟩ = some v1 ∧ V.cell? ⟨w.heap.size + 1 + 1, 0, none⟩ = some v2 ∧ V.frozen? ⟨w.heap.size + 1 + 1, 0, none⟩ = false ∧
    V.cell? ⟨w.heap.size + 1 + 1 + 1, 0, none⟩ = some v3 ∧ V.cell? ⟨w.heap.size + 1 + 1 + 1 + 1, 0, none⟩ = some v4 := by
  have b0 := Boxed.new w t0 v0
  have b1 := Boxed.new (w.alloc (.cells #[v0] t0)) t1 v1
  have b2 := Boxed.new ((w.alloc (.cells #[v0] t0)).alloc (.cells #[v1] t1)) t2 v2
  have b3 := Boxed.new (((w.alloc (.cells #[v0] t0)).alloc (.cells #[v1] t1)).alloc (.cells #[v2] t2)) t3 v3
  have b4 := Boxed.new ((((w.alloc (.cells #[v0] t0)).alloc (.cells #[v1] t1)).alloc (.cells #[v2] t2)).alloc (.cells #[v3] t3)) t4 v4
  simp only [World.size_alloc] at b1 b2 b3 b4
  refine ⟨_, rfl, by simp, ?_, (((b0.alloc _).alloc _).alloc _).alloc _ |>.cell, ((b1.alloc _).alloc _).alloc _ |>.cell, (b2.alloc _).alloc _ |>.cell, (b2.alloc _).alloc _ |>.frozen, (b3.alloc _).cell, b4.cell⟩
  exact (((((Below.refl _ w).alloc (Nat.le_refl _) _).alloc (by simp) _).alloc (by simp; omega) _).alloc (by simp; omega) _).alloc (by simp; omega) _
set_option maxRecDepth 100000 in
set_option maxHeartbeats 2000000 in
theorem stop_any (A : Option Addr) (c : Nat) (l : List Int) (flow : Bool) (w : World) (hl : l.length ≤ 9223372036854775807) (hI : IntsAt w w.heap.size A l) :
    Calls Tryd.prog 50 #[.slice A l.length c, .bool flow] w fun e w' => e = .returned (.int .i64 (stopN l flow)) ∧ Below w.heap.size w w' := by
  refine (callsIn_wide (n := 3)).1 ?_
  refine callsIn_of_wp_marks Tryd.func50 rfl trivial ?_ rfl
  simp only [Tryd.ntmps50, List.size_toArray, List.length_cons, List.length_nil, Nat.reduceAdd, Nat.reduceSub, Array.replicate_succ, Array.replicate_zero, List.push_toArray, List.append_toArray, List.nil_append, List.cons_append]
  gi_wp2_with (refine ⟨trivial, ?_⟩; gi_at_call 58; refine (callsIn_wide.2 (points_any _ _ _ _ _)).mono ?_; rintro e w' ⟨rfl, rfl⟩)
  obtain ⟨V, hV, hsz, hbV, c0, c1, c2, f2, c3, c4⟩ := five_boxes w (.slice A l.length c) (.bool flow) (.int .i64 0) (.slice A l.length c) (.bool flow) 23 4 3 23 4
  rw [hV]
  have hIV : IntsAt V V.heap.size A l := (hI.below hbV (Nat.le_refl _)).more (by omega)
  clear hV
  refine range_law (β := Nat) rfl (by decide) (gf := 63) (lb := #[.pointer (some ⟨w.heap.size + 1 + 1 + 1, 0, none⟩), .pointer (some ⟨w.heap.size + 1 + 1 + 1 + 1, 0, none⟩)]) rfl trivial (enters_of Tryd.func63 (by kernel_rfl) rfl)
    (fun i => #[.int .i64 (i : Int)]) (fun _ => rfl)
    (fun i W => i < l.length ∧ pointB l flow i = true ∧ (∀ j, j < i → hit l flow j = false) ∧ Below V.heap.size V W)
    (fun i W => (∀ j, j < i + 1 → hit l flow j = false) ∧ Below V.heap.size V W)
    (fun cd i W => cd = .ret ∧ stopN l flow = i ∧ W.cell? ⟨w.heap.size + 1 + 1, 0, none⟩ = some (.int .i64 (i : Int)) ∧ Below w.heap.size w W)
    (fun W => (∀ j, j < l.length → hit l flow j = false) ∧ Below V.heap.size V W)
    (fun cd W => ∃ i : Nat, cd = .ret ∧ stopN l flow = i ∧ W.cell? ⟨w.heap.size + 1 + 1, 0, none⟩ = some (.int .i64 (i : Int)) ∧ Below w.heap.size w W)
    (fun i => Calm.pure.and (Calm.pure.and (Calm.pure.and (Calm.below (Nat.le_refl _)))))
    (fun i => Calm.pure.and (Calm.below (Nat.le_refl _)))
    (fun cd i => Calm.pure.and (Calm.pure.and (Calm.cell.and (Calm.below (by omega)))))
    (Calm.pure.and (Calm.below (Nat.le_refl _)))
    (fun cd => Calm.ex fun i => Calm.pure.and (Calm.pure.and (Calm.cell.and (Calm.below (by omega)))))
    (fun i => { tmps := #[.slice A l.length c, .bool flow, .pointer (some ⟨w.heap.size, 0, none⟩), .pointer (some ⟨w.heap.size + 1, 0, none⟩), .pointer (some ⟨w.heap.size + 1 + 1, 0, none⟩), .int .i64 (i : Int), .slice A l.length c, .bool flow, .func (.func 63) #[] #[.pointer (some ⟨w.heap.size + 1 + 1 + 1, 0, none⟩), .pointer (some ⟨w.heap.size + 1 + 1 + 1 + 1, 0, none⟩)], .int .i64 (i : Int),
      undef, undef, undef, undef, undef, undef, undef, undef, undef, undef, undef, undef, undef, undef, undef, undef, undef, undef, undef, undef, undef, undef, undef, undef, undef, undef, undef, undef, undef, undef, undef, undef, undef, undef], defers := [] }) ?assign ?body ?iter ?done ?stop
  case assign =>
    intro lp i W K hK
    gi_wp2
    exact hK
  case iter =>
    intro lp Bk Bx o kBk kBx hY hk
    refine pointsIter A c l flow lp _ _ V _ hl (((Below.refl _ V).alloc (Nat.le_refl _) _).alloc (by simp) _) c3 c4 hIV Bk Bx kBk (fun cd i W => cd = .ret ∧ stopN l flow = i ∧ W.cell? ⟨w.heap.size + 1 + 1, 0, none⟩ = some (.int .i64 (i : Int)) ∧ Below w.heap.size w W) (fun i W1 hs hb => hY i W1 hs hb) hk
  case done =>
    rintro D W hD ⟨hh, hb⟩ hK
    have c0' := (hb.cell (p := ⟨w.heap.size, 0, none⟩) (by show w.heap.size < _; omega)).trans c0
    have c2' := (hb.cell (p := ⟨w.heap.size + 1 + 1, 0, none⟩) (by show w.heap.size + 1 + 1 < _; omega)).trans c2
    have f2' := (hb.frozen (p := ⟨w.heap.size + 1 + 1, 0, none⟩) (by show w.heap.size + 1 + 1 < _; omega)).trans f2
    gi_wp2
    have hK' := (KeepsOthers.setCell W ⟨w.heap.size + 1 + 1, 0, none⟩ (.int .i64 l.length)).same D _ hK rfl
    refine ⟨by simp, .inl ⟨_, _, rfl, run_takeDeferred hK', ?_⟩⟩
    have hc5 := cell_kept (World.cell?_setCell_same' W ⟨w.heap.size + 1 + 1, 0, none⟩ (.int .i64 l.length) (by rw [c2']; rfl)) (grownBy_putObj' _ D (.deferred none)) (fun r e => by cases e; exact ⟨_, hK', rfl⟩)
    refine ⟨.int .i64 l.length, ?_, ret_int (by rw [stop_all (Nat.le_refl _) (by omega) hh]), ((hbV.trans (hb.mono (by omega))).setCell (p := ⟨w.heap.size + 1 + 1, 0, none⟩) (by simp; omega) _).trans (belowK_b (w := w) (Nat.le_refl _) _ D _ _ (by omega) hK' rfl rfl)⟩
    simp [results, Tryd.f50, go_sem, hc5]
  case stop =>
    rintro D cd W hD ⟨i, rfl, hst, hc, hb⟩ hK
    gi_wp2
    refine ⟨by simp, .inl ⟨_, _, rfl, run_takeDeferred hK, ?_⟩⟩
    have hc5 := cell_kept hc (grownBy_putObj' _ D (.deferred none)) (fun r e => by cases e; exact ⟨_, hK, rfl⟩)
    refine ⟨.int .i64 i, ?_, ret_int (by rw [hst]), hb.trans (belowK_b (w := w) (Nat.le_refl _) W D _ _ (by omega) hK rfl rfl)⟩
    simp [results, Tryd.f50, go_sem, hc5]
  case body =>
    rintro lp i W ⟨hi, hp, hm, hb⟩
    have hIW : IntsAt W V.heap.size A l := hIV.below hb (Nat.le_refl _)
    obtain ⟨b, off, rfl, hbw, hc⟩ := hIW (by omega)
    have hci := hc i hi
    have hcp : 0 < i → W.cell? ⟨b, off + (i - 1), none⟩ = some (.int .i64 (nth l (i - 1))) := fun h => hc (i - 1) (by omega)
    clear hc
    have d0 := (hb.cell (p := ⟨w.heap.size, 0, none⟩) (by show w.heap.size < _; omega)).trans c0
    have d1 := (hb.cell (p := ⟨w.heap.size + 1, 0, none⟩) (by show w.heap.size + 1 < _; omega)).trans c1
    have d2 := (hb.cell (p := ⟨w.heap.size + 1 + 1, 0, none⟩) (by show w.heap.size + 1 + 1 < _; omega)).trans c2
    have g2 := (hb.frozen (p := ⟨w.heap.size + 1 + 1, 0, none⟩) (by show w.heap.size + 1 + 1 < _; omega)).trans f2
    have hS := pSafe_any (some ⟨b, off, none⟩) c l (i + 1) flow W hl (hIW.more hb.size)
    have hB := Blank_any (nth l (i - 1)) W
    have hi' : (i : Int) < (l.length : Int) := by omega
    have hbsz := hb.size
    clear c0 c1 c2 f2 c3 c4
    obtain ⟨x, hx⟩ : ∃ x, nth l i = x := ⟨_, rfl⟩
    rw [hx] at hci
    obtain ⟨b1, h1⟩ : ∃ b1, safeAt l (i + 1) flow = b1 := ⟨_, rfl⟩
    obtain ⟨b2, h2⟩ : ∃ b2, blankB (nth l (i - 1)) = b2 := ⟨_, rfl⟩
    have HE := Lib.hid (hit_eq hx h1 h2 (rfl : flowB x = flowB x))
    have HP : Hid (pointB l flow i = (x == 58 || x == 35 || (flow && flowB x))) := Lib.hid (by rw [← hx]; rfl)
    have HM := Lib.hid hm
    have HPt := Lib.hid hp
    rw [h1] at hS
    rw [h2] at hB
    clear h1 h2 hx hm hp
    have hi0 : ¬ 0 < i ∨ 0 < i := by omega
    have hx3 : x = 58 ∨ x = 35 ∨ (¬ x = 58 ∧ ¬ x = 35) := by omega
    rcases hx3 with rfl | rfl | ⟨e58, e35⟩
    · have f58 : flowB 58 = false := by decide
      have HE' := Lib.hid (HE.out.trans (by rw [f58]))
      clear f58
      cases b1 with
      | true =>
        gi_wp2_with (refine ⟨trivial, ?_⟩; gi_at_call 48; refine (CallsIn.inRound lp (callsIn_wide.2 hS)).mono ?_; rintro e w1 ⟨rfl, hb1⟩)
        exact ⟨keeps_of_below hb1, hit_next HM.out (HE'.out.trans (by simp)), hb.trans (hb1.mono hbsz)⟩
      | false =>
        gi_wp2_with (refine ⟨trivial, ?_⟩; gi_at_call 48; refine (CallsIn.inRound lp (callsIn_wide.2 hS)).mono ?_; rintro e w1 ⟨rfl, hb1⟩; have d0' := (hb1.cell (p := ⟨w.heap.size, 0, none⟩) (by show w.heap.size < _; omega)).trans d0; have d2' := (hb1.cell (p := ⟨w.heap.size + 1 + 1, 0, none⟩) (by show w.heap.size + 1 + 1 < _; omega)).trans d2; have g2' := (hb1.frozen (p := ⟨w.heap.size + 1 + 1, 0, none⟩) (by show w.heap.size + 1 + 1 < _; omega)).trans g2; have hci' := (hb1.cell (p := ⟨b, off + i, none⟩) (by show b < _; omega)).trans hci)
        case h_1.isTrue => exact (undef_no (by assumption)).elim
        case h_1.isFalse => exact (undef_no (by assumption)).elim
        refine ⟨trivial, ?_⟩
        gi_wp2
        exact ⟨(keeps_of_below hb1).trans (KeepsOthers.setCell _ _ _), rfl, (stop_eq (by omega) HM.out (fun _ => HE'.out.trans (by simp))).symm, World.cell?_setCell_same' _ _ _ (by rw [d2']; rfl), ((hbV.trans (hb.mono (by omega))).trans (hb1.mono (by omega))).setCell (p := ⟨w.heap.size + 1 + 1, 0, none⟩) (by show w.heap.size ≤ w.heap.size + 1 + 1; omega) _⟩
    · have f35 : flowB 35 = false := by decide
      have HE' := Lib.hid (HE.out.trans (by rw [f35]))
      clear f35
      rcases hi0 with hi0 | hi0
      · have hi1 : ((i : Int) == 0) = true := beq_iff_eq.2 (by omega)
        gi_wp2
        refine ⟨trivial, ?_⟩
        gi_wp2
        refine ⟨trivial, ?_⟩
        gi_wp2
        exact ⟨KeepsOthers.refl _, hit_next HM.out (HE'.out.trans (by simp [hi0])), hb⟩
      · have hi1 : ((i : Int) == 0) = false := beq_eq_false_iff_ne.2 (by omega)
        have hcp' := hcp hi0
        have hi2 : (0 : Int) ≤ (i : Int) - 1 := by omega
        have hi3 : (i : Int) - 1 < (l.length : Int) := by omega
        have hi4 : ((i : Int) - 1).toNat = i - 1 := by omega
        cases b2 with
        | true =>
          gi_wp2
          refine ⟨trivial, ?_⟩
          gi_wp2_with (refine ⟨trivial, ?_⟩; gi_at_call 47; refine (CallsIn.inRound lp (callsIn_wide.2 hB)).mono ?_; rintro e w1 ⟨rfl, rfl⟩)
          exact ⟨KeepsOthers.setCell _ _ _, rfl, (stop_eq (by omega) HM.out (fun _ => HE'.out.trans (by simp [hi0]))).symm, World.cell?_setCell_same' _ _ _ (by rw [d2]; rfl), (hbV.trans (hb.mono (by omega))).setCell (p := ⟨w.heap.size + 1 + 1, 0, none⟩) (by show w.heap.size ≤ w.heap.size + 1 + 1; omega) _⟩
        | false =>
          gi_wp2
          refine ⟨trivial, ?_⟩
          gi_wp2_with (refine ⟨trivial, ?_⟩; gi_at_call 47; refine (CallsIn.inRound lp (callsIn_wide.2 hB)).mono ?_; rintro e w1 ⟨rfl, rfl⟩)
          exact ⟨KeepsOthers.refl _, hit_next HM.out (HE'.out.trans (by simp)), hb⟩
    · have e58' : (x == 58) = false := beq_eq_false_iff_ne.2 e58
      have e35' : (x == 35) = false := beq_eq_false_iff_ne.2 e35
      have HF : Hid ((flow && flowB x) = true) := Lib.hid (by have h := HPt.out; rw [HP.out, e58', e35'] at h; simpa using h)
      gi_wp2
      refine ⟨trivial, ?_⟩
      gi_wp2
      case h_1.isTrue => exact (undef_no (by assumption)).elim
      case h_1.isFalse => exact (undef_no (by assumption)).elim
      refine ⟨trivial, ?_⟩
      gi_wp2
      exact ⟨KeepsOthers.setCell _ _ _, rfl, (stop_eq (by omega) HM.out (fun _ => HE.out.trans (by rw [HF.out]; simp))).symm, World.cell?_setCell_same' _ _ _ (by rw [d2]; rfl), (hbV.trans (hb.mono (by omega))).setCell (p := ⟨w.heap.size + 1 + 1, 0, none⟩) (by show w.heap.size ≤ w.heap.size + 1 + 1; omega) _⟩
set_option maxHeartbeats 400000 in
theorem End_any (A : Option Addr) (c : Nat) (l : List Int) (flow : Bool) (w : World) (hl : l.length ≤ 9223372036854775807) (hI : IntsAt w w.heap.size A l) :
    Calls Tryd.prog 36 #[.slice A l.length c, .bool flow] w fun e w' => e = .returned (.int .i64 (endN l flow)) ∧ Below w.heap.size w w' := by
  have hst := stop_any A c l flow w hl hI
  have hle := (stop_spec l flow).1
  go_enter Tryd.func36, Tryd.ntmps36
  go_wp2_with fail
  refine hst.mono ?_
  rintro e w1 ⟨rfl, hb1⟩
  go_wp2_with fail
  have hI1 := hI.below hb1 (Nat.le_refl _)
  clear hst
  go_loop [5] (fun i => ∃ k : Nat, k ≤ l.length ∧ i = .int .i64 k ∧ Hid (trimN l k = endN l flow)) (fun i => (intOf i).toNat)
  case atStart => exact ⟨_, hle, rfl, rfl⟩
  case round =>
    obtain ⟨k, hk, rfl, hm⟩ := hrel
    by_cases h0 : 0 < k
    · obtain ⟨b, off, rfl, hbw, hc⟩ := hI1 (by omega)
      have hck := hc (k - 1) (by omega)
      clear hc
      have hB := Blank_any (nth l (k - 1)) w1
      have hk0 : (0 : Int) < (k : Int) := by omega
      have hk1 : (0 : Int) ≤ (k : Int) - 1 := by omega
      have hk2 : (k : Int) - 1 < (l.length : Int) := by omega
      have hk3 : ((k : Int) - 1).toNat = k - 1 := by omega
      cases hbl : blankB (nth l (k - 1)) with
      | true =>
        rw [hbl] at hB
        have HB := Lib.hid hbl
        clear hbl
        go_wp2_with (go_at_call 47; refine hB.mono ?_; rintro e w' ⟨rfl, rfl⟩)
        go_round
        case rel => exact ⟨k - 1, by omega, by go_num, trim_step h0 hm.out HB.out⟩
        case measure => simp [intOf]; omega
      | false =>
        rw [hbl] at hB
        have HB := Lib.hid hbl
        clear hbl
        go_wp2_with (go_at_call 47; refine hB.mono ?_; rintro e w' ⟨rfl, rfl⟩)
        go_ret
        exact ⟨ret_int (by rw [← hm.out, trim_stop h0 HB.out]), hb1⟩
    · obtain rfl : k = 0 := by omega
      go_wp2_with fail
      go_ret
      exact ⟨ret_int (by rw [← hm.out]; rfl), hb1⟩
end Go.Proofs.YtnofdlpifpjlbaaDoor
