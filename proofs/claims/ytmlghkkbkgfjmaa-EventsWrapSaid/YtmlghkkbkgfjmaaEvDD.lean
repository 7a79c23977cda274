/- The program's Depth. Condition: a row of at most 100000 events. -/
import Derived.Test.YtmlghkkbkgfjmaaEvD
namespace Go.Proofs.Ytmlghkkbkgfjmaa
open Go.RowKit Go.Shelf
attribute [local go_sem] Oper.semAt_some
def depthB (L : List Ev) : Int := if rightsB L then topN L L.length else 0
theorem two_boxes (w : World) (v0 v1 : Value) (t0 t1 : TypeId) : ∃ V, (w.alloc (.cells #[v0] t0)).alloc (.cells #[v1] t1) = V ∧ V.heap.size = w.heap.size + 2 ∧ Below w.heap.size w V ∧ V.cell? ⟨w.heap.size, 0, none⟩ = some v0 ∧ V.cell? ⟨w.heap.size + 1, 0, none⟩ = some v1 := by
  have b0 := Boxed.new w t0 v0
  have b1 := Boxed.new (w.alloc (.cells #[v0] t0)) t1 v1
  simp only [World.size_alloc] at b1
  exact ⟨_, rfl, by simp, ((Below.refl _ w).alloc (Nat.le_refl _) _).alloc (by simp) _, (b0.alloc _).cell, b1.cell⟩
theorem DInv.alloc {L : List Ev} {V W : World} {m i : Nat} (h : DInv L V m i W) (hm : m < W.heap.size) (o : Obj) : DInv L V m i (W.alloc o) := by
  have b : Below W.heap.size W (W.alloc o) := (Below.refl _ W).alloc (Nat.le_refl _) o
  exact ⟨⟨h.1.os, h.1.tape, h.1.output, Nat.le_trans h.1.size b.size, fun k hk hne => (b.block k (Nat.lt_of_lt_of_le hk h.1.size)).trans (h.1.block k hk hne)⟩, (b.cell (p := ⟨m, 0, none⟩) hm).trans h.2.1, (b.frozen (p := ⟨m, 0, none⟩) hm).trans h.2.2⟩
theorem DInv.set {L : List Ev} {V W : World} {m i : Nat} (h : DInv L V m i W) {v : Value} (hv : v = .int .i64 (topN L (i + 1))) : DInv L V m (i + 1) (W.setCell ⟨m, 0, none⟩ v) := by
  subst hv
  refine ⟨h.1.trans (grownBy_setCell' W m _), World.cell?_setCell_same' _ _ _ (by rw [h.2.1]; rfl), ?_⟩
  rw [World.frozen?_setCell]; exact h.2.2
theorem below_of_grown {V W : World} {m : Nat} (h : V.grownBy W (some m)) (hm : m ≤ V.heap.size) : Below m V W := ⟨h.os, h.tape, h.output, h.size, fun k hk => h.block k (Nat.lt_of_lt_of_le hk hm) (by intro e; cases e; omega)⟩
set_option maxRecDepth 100000 in
set_option maxHeartbeats 2000000 in
theorem Depth_any (A : Option Addr) (c : Nat) (L : List Ev) (w : World) (hl : L.length ≤ 100000) (hE : EvsAt w w.heap.size A L) :
    Calls Try.prog 11 #[.slice A L.length c] w fun e w' => e = .returned (.int .i64 (depthB L)) ∧ Below w.heap.size w w' := by
  refine (callsIn_wide (n := 3)).1 ?_
  refine callsIn_of_wp_marks Try.func11 rfl trivial ?_ rfl
  simp only [Try.ntmps11, List.size_toArray, List.length_cons, List.length_nil, Nat.reduceAdd, Nat.reduceSub, Array.replicate_succ, Array.replicate_zero, List.push_toArray, List.append_toArray, List.nil_append, List.cons_append]
  have hbx := Boxed.new w 3 (.int .i64 0)
  have hbw : Below w.heap.size w (w.alloc (.cells #[.int .i64 0] 3)) := (Below.refl _ w).alloc (Nat.le_refl _) _
  have hR := Right_any A c L (w.alloc (.cells #[.int .i64 0] 3)) hl ((hE.below hbw (Nat.le_refl _)).more (by simp))
  cases hr : rightsB L with
  | false =>
    have hd : depthB L = 0 := by rw [depthB, hr]; rfl
    rw [hr] at hR
    have HX := Lib.hid hbx
    clear hbx
    gi_wp2_with (refine ⟨trivial, ?_⟩; gi_at_call 10; refine (callsIn_wide.2 hR).mono ?_; rintro e w' ⟨rfl, hb1⟩)
    refine ⟨.int .i64 0, ?_, ret_int (by rw [hd]), hbw.trans (hb1.mono (by simp))⟩
    simp [results, Try.f11, go_sem]
  | true =>
    have hd : depthB L = topN L L.length := by rw [depthB, hr]; rfl
    rw [hr] at hR
    have HX := Lib.hid hbx
    clear hbx
    gi_wp2_with (first | (refine ⟨trivial, ?_⟩; gi_at_call 10; refine (callsIn_wide.2 hR).mono ?_; rintro e w1 ⟨rfl, hb1⟩) | (refine ⟨trivial, ?_⟩; gi_at_call 19; refine (callsIn_wide.2 (deeps_any _ _ _ _ _)).mono ?_; rintro e w2 ⟨rfl, rfl⟩))
    obtain ⟨V, hV, hsz, hbV, c1, c2⟩ := two_boxes w1 (.slice A L.length c) (.int .i64 0) 22 3
    rw [hV]
    have hs1 := hb1.size
    simp only [World.size_alloc] at hs1
    have hbV' : Below (w.heap.size + 1) (w.alloc (.cells #[.int .i64 0] 3)) V := (hb1.mono (by simp)).trans (hbV.mono (by omega))
    have hwV : Below w.heap.size w V := hbw.trans (hbV'.mono (by omega))
    have c0 : V.cell? ⟨w.heap.size, 0, none⟩ = some (.int .i64 0) := (hbV'.cell (p := ⟨w.heap.size, 0, none⟩) (by show w.heap.size < _; omega)).trans HX.out.cell
    have g0 : V.frozen? ⟨w.heap.size, 0, none⟩ = false := (hbV'.frozen (p := ⟨w.heap.size, 0, none⟩) (by show w.heap.size < _; omega)).trans HX.out.frozen
    have hEV : EvsAt V w.heap.size A L := hE.below hwV (Nat.le_refl _)
    have hD0 : DInv L V w.heap.size 0 V := ⟨World.grownBy.refl _ _, c0, g0⟩
    clear hV hR hbw hb1 c0 g0 HX
    refine range_law (β := Nat) rfl (by decide) (gf := 23) (lb := #[.pointer (some ⟨w1.heap.size + 1, 0, none⟩), .pointer (some ⟨w1.heap.size, 0, none⟩)]) rfl trivial (enters_of Try.func23 (by kernel_rfl) rfl)
      (fun i => #[.int .i64 (i : Int), .int .i64 (deepN L i)]) (fun _ => rfl)
      (fun i W => i < L.length ∧ DInv L V w.heap.size i W)
      (fun i W => DInv L V w.heap.size (i + 1) W)
      (fun _ _ _ => False)
      (fun W => DInv L V w.heap.size L.length W)
      (fun _ _ => False)
      (fun i => Calm.pure.and (Calm.dinv (Nat.le_refl _)))
      (fun i => Calm.dinv (Nat.le_refl _))
      (fun _ _ => Calm.pure)
      (Calm.dinv (Nat.le_refl _))
      (fun _ => Calm.pure)
      (fun i => { tmps := #[.slice A L.length c, undef, .int .i64 0, .pointer (some ⟨w.heap.size, 0, none⟩), undef, .int .i64 (deepN L i), .slice A L.length c, .bool true, .bool false, .slice A L.length c, .func (.func 23) #[] #[.pointer (some ⟨w1.heap.size + 1, 0, none⟩), .pointer (some ⟨w1.heap.size, 0, none⟩)], .int .i64 (i : Int), .int .i64 (deepN L i), undef, undef, undef, undef], defers := [] }) ?assign ?body ?iter ?done ?stop
    case assign =>
      intro lp i W K hK
      gi_wp2
      exact hK
    case iter =>
      intro lp Bk Bx o kBk kBx hY hk
      refine (deepsIter A c L lp (w1.heap.size + 1) w1.heap.size w.heap.size V _ hl ((hD0.alloc (by omega) _).alloc (by simp; omega) _) c2 c1 (by omega) (by omega) hEV Bk (fun i W1 hi hD hb => ?_) hk).mono ?_
      · obtain ⟨fn, tmps, assign, body, hy, hR⟩ := hY i W1 ⟨hi, hD⟩ hb
        refine ⟨fn, tmps, assign, body, hy, hR.mono ?_⟩
        rintro e W' (⟨rfl, h1, h2⟩ | ⟨_, _, h, _⟩)
        · exact ⟨rfl, h1, h2⟩
        · exact h.elim
      · rintro e W' ⟨hv, h1, h2⟩
        exact ⟨hv, .inl ⟨h1, h2⟩⟩
    case done =>
      rintro D W hD hd1 hK
      have HD := Lib.hid hd1
      have c0 := hd1.2.1
      clear hd1
      gi_wp2
      refine ⟨by simp, .inl ⟨_, _, rfl, run_takeDeferred hK, ?_⟩⟩
      refine ⟨.int .i64 (topN L L.length), ?_, ret_int (by rw [hd]), (hwV.trans (below_of_grown HD.out.1 (by omega))).trans (belowK_b (w := w) (Nat.le_refl _) W D _ _ (by omega) hK rfl rfl)⟩
      simp [results, Try.f11, go_sem]
    case stop => rintro D cd W hD h; exact h.elim
    case body =>
      rintro lp i W ⟨hi, hD⟩
      have HD := Lib.hid hD
      have c0 := hD.2.1
      have g0 := hD.2.2
      have HT := Lib.hid (topN_next hi)
      clear hD
      obtain ⟨x, hx⟩ : ∃ x, topN L i = x := ⟨_, rfl⟩
      obtain ⟨y, hy⟩ : ∃ y, deepN L i = y := ⟨_, rfl⟩
      rw [hx] at c0
      rw [hy]
      gi_wp2
      all_goals exact ⟨KeepsOthers.setCell _ _ _, HD.out.set (by rw [HT.out, hx, hy]; congr 1; omega)⟩
end Go.Proofs.Ytmlghkkbkgfjmaa
