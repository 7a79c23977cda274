/- graph.node: may a node be? Condition: its texts are no longer than an int, and utf8's tables lie in the world. -/
import Derived.Test.YtdcbngimgpdjoaaDoorGn
namespace Go.Proofs.YtdcbngimgpdjoaaDoor
open Go.RowKit
def kindB (e : Nd) : Bool :=
  if e.kind = 1 then (e.kids.length == 0) && textB e.text else if e.kind = 2 then (e.text.toList.isEmpty) && !e.plain else if e.kind = 3 then (e.text.toList.isEmpty) && !e.plain && (e.kids.length % 2 == 0) else false
def nodeB (e : Nd) : Bool := decide (e.tag.size ≤ 1000) && !(e.tag.toList == [33]) && tagB e.tag && kindB e
set_option maxRecDepth 100000 in
set_option maxHeartbeats 1000000 in
theorem node_any (e : Nd) (K : Option Addr) (c : Nat) (w : World) (hT : Tabs w) (h1 : e.tag.size ≤ maxLen) (h2 : e.text.size ≤ maxLen) :
    Calls Tryd.prog 46 #[.agg (e.row K c)] w fun r w' => r = .returned (.bool (nodeB e)) ∧ Below w.heap.size w w' := by
  have HVd : Hid (e.tag.size ≤ 1000 → ∀ w, Calls Tryd.prog 65 #[.string e.tag] w fun r w' => r = .returned (.bool (tagB e.tag)) ∧ Below w.heap.size w w') := fun h w => Valid_any e.tag w h
  have HTx : Hid (∀ w, Tabs w → Calls Tryd.prog 66 #[.string e.text] w fun r w' => r = .returned (.bool (textB e.text)) ∧ Below w.heap.size w w') := fun w h => text_any e.text w h h2
  have HN : Hid (nodeB e = (decide (e.tag.size ≤ 1000) && !(e.tag.toList == [33]) && tagB e.tag && kindB e)) := rfl
  unfold kindB at HN
  obtain ⟨r, hr⟩ : ∃ r, nodeB e = r := ⟨_, rfl⟩
  rw [hr] at HN ⊢
  unfold maxLen at h1
  obtain ⟨kd, tg, tx, ks, pl⟩ := e
  simp only [Nd.row] at *
  obtain ⟨b1, hb1⟩ : ∃ b, tagB tg = b := ⟨_, rfl⟩
  obtain ⟨b2, hb2⟩ : ∃ b, textB tx = b := ⟨_, rfl⟩
  rw [hb1] at HVd HN
  rw [hb2] at HTx HN
  clear hr hb1 hb2 h2
  have HC : Hid (∀ W, Below (w.heap.size + 1) (w.alloc (.cells #[.int .i64 kd, .string tg, .string tx, .slice K ks.length c, .bool pl] 33)) W → W.cell? ⟨w.heap.size, 0, none⟩ = some (.int .i64 kd) ∧ W.cell? ⟨w.heap.size, 2, none⟩ = some (.string tx) ∧ W.cell? ⟨w.heap.size, 3, none⟩ = some (.slice K ks.length c) ∧ W.cell? ⟨w.heap.size, 4, none⟩ = some (.bool pl)) := fun W h => by
    have hr := (h.block w.heap.size (by omega)).trans (World.alloc_heap_new w (.cells #[.int .i64 kd, .string tg, .string tx, .slice K ks.length c, .bool pl] 33))
    exact ⟨Lib.cell_of_heap hr 0, Lib.cell_of_heap hr 2, Lib.cell_of_heap hr 3, Lib.cell_of_heap hr 4⟩
  have HBl : Hid (∀ W, Below (w.heap.size + 1) (w.alloc (.cells #[.int .i64 kd, .string tg, .string tx, .slice K ks.length c, .bool pl] 33)) W → Below w.heap.size w W) := fun W h => ((Below.refl _ w).alloc (Nat.le_refl _) _).trans (h.mono (by omega))
  have HTb : Hid (∀ W, Below w.heap.size w W → Tabs W) := fun W h => hT.below h
  have hB0 : Below w.heap.size w (w.alloc (.cells #[.int .i64 kd, .string tg, .string tx, .slice K ks.length c, .bool pl] 33)) := (Below.refl _ w).alloc (Nat.le_refl _) _
  clear hT
  by_cases g1 : tg.size ≤ 1000
  · have g1' : ¬ (1000 : Int) < (tg.size : Int) := by omega
    have g1d : decide ((1000 : Int) < (tg.size : Int)) = false := decide_eq_false g1'
    have HVe : Hid (∀ w, Calls Tryd.prog 65 #[.string tg] w fun r w' => r = .returned (.bool b1) ∧ Below w.heap.size w w') := HVd.out g1
    rw [decide_eq_true g1, Bool.true_and] at HN
    clear HVd g1
    obtain ⟨q, hq⟩ : ∃ q, (tg.toList == [33]) = q := ⟨_, rfl⟩
    rw [hq] at HN
    cases q with
    | true =>
      have HN2 : Hid (r = false) := HN.out.trans (by simp)
      clear HN
      go_enter Tryd.func46, Tryd.ntmps46
      go_wp2_with fail
      go_ret
      exact ⟨ret_bool HN2.out.symm, hB0⟩
    | false =>
      cases b1 with
      | false =>
        have HN2 : Hid (r = false) := HN.out.trans (by simp)
        clear HN
        go_enter Tryd.func46, Tryd.ntmps46
        go_wp2_with (go_at_call 65; refine (HVe.out _).mono ?_; rintro e w' ⟨rfl, hb1⟩; obtain ⟨k0, k2, k3, k4⟩ := HC.out _ (by simpa using hb1); have HB := HBl.out _ (by simpa using hb1); have HB1 := Lib.hid hb1; clear hb1)
        go_ret
        exact ⟨ret_bool HN2.out.symm, HB⟩
      | true =>
        have HN2 : Hid (r = if kd = 1 then ks.length == 0 && b2 else if kd = 2 then tx.toList.isEmpty && !pl else if kd = 3 then tx.toList.isEmpty && !pl && (ks.length % 2 == 0) else false) := HN.out.trans (by simp)
        clear HN
        obtain ⟨em, hem⟩ : ∃ em, tx.toList.isEmpty = em := ⟨_, rfl⟩
        rw [hem] at HN2
        by_cases e1 : kd = 1
        · subst e1
          have HN3 : Hid (r = (ks.length == 0 && b2)) := HN2.out.trans (by simp)
          clear HN2
          by_cases z : ks.length = 0
          · have z' : ((ks.length : Int) == 0) = true := beq_iff_eq.2 (by omega)
            have HN4 : Hid (r = b2) := HN3.out.trans (by simp [z])
            clear HN3 z
            go_enter Tryd.func46, Tryd.ntmps46
            go_wp2_with (first | (go_at_call 65; refine (HVe.out _).mono ?_; rintro e w' ⟨rfl, hb1⟩; obtain ⟨k0, k2, k3, k4⟩ := HC.out _ (by simpa using hb1); have HB := HBl.out _ (by simpa using hb1); have HB1 := Lib.hid hb1; clear hb1) | (go_at_call 66; refine (HTx.out _ (HTb.out _ HB)).mono ?_; rintro e w2 ⟨rfl, hb2⟩; have HB2 := HB.trans (hb2.mono HB.size)))
            go_ret
            exact ⟨ret_bool HN4.out.symm, HB2⟩
          · have z' : ((ks.length : Int) == 0) = false := beq_eq_false_iff_ne.2 (by omega)
            have HN4 : Hid (r = false) := HN3.out.trans (by simp [z])
            clear HN3 z
            go_enter Tryd.func46, Tryd.ntmps46
            go_wp2_with (first | (go_at_call 65; refine (HVe.out _).mono ?_; rintro e w' ⟨rfl, hb1⟩; obtain ⟨k0, k2, k3, k4⟩ := HC.out _ (by simpa using hb1); have HB := HBl.out _ (by simpa using hb1); have HB1 := Lib.hid hb1; clear hb1) | (go_at_call 66; refine (HTx.out _ (HTb.out _ HB)).mono ?_; rintro e w2 ⟨rfl, hb2⟩; have HB2 := HB.trans (hb2.mono HB.size)))
            go_ret
            exact ⟨ret_bool HN4.out.symm, HB⟩
        · have e1' : (kd == 1) = false := beq_eq_false_iff_ne.2 e1
          by_cases e2 : kd = 2
          · subst e2
            have HN3 : Hid (r = (em && !pl)) := HN2.out.trans (by simp)
            clear HN2
            go_enter Tryd.func46, Tryd.ntmps46
            cases em
            all_goals
              go_wp2_with (first | (go_at_call 65; refine (HVe.out _).mono ?_; rintro e w' ⟨rfl, hb1⟩; obtain ⟨k0, k2, k3, k4⟩ := HC.out _ (by simpa using hb1); have HB := HBl.out _ (by simpa using hb1); have HB1 := Lib.hid hb1; clear hb1) | (go_at_call 66; refine (HTx.out _ (HTb.out _ HB)).mono ?_; rintro e w2 ⟨rfl, hb2⟩; have HB2 := HB.trans (hb2.mono HB.size)))
              go_ret
              exact ⟨ret_bool (by rw [HN3.out]; simp), HB⟩
          · have e2' : (kd == 2) = false := beq_eq_false_iff_ne.2 e2
            by_cases e3 : kd = 3
            · subst e3
              obtain ⟨m, hm⟩ : ∃ m, ks.length % 2 = m := ⟨_, rfl⟩
              have hmi : Int.tmod (ks.length : Int) 2 = (m : Int) := by rw [← hm]; rfl
              have HN3 : Hid (r = (em && !pl && (m == 0))) := HN2.out.trans (by simp [hm])
              clear HN2 hm
              go_enter Tryd.func46, Tryd.ntmps46
              cases em
              all_goals
                cases pl
                all_goals
                  go_wp2_with (first | (go_at_call 65; refine (HVe.out _).mono ?_; rintro e w' ⟨rfl, hb1⟩; obtain ⟨k0, k2, k3, k4⟩ := HC.out _ (by simpa using hb1); have HB := HBl.out _ (by simpa using hb1); have HB1 := Lib.hid hb1; clear hb1) | (go_at_call 66; refine (HTx.out _ (HTb.out _ HB)).mono ?_; rintro e w2 ⟨rfl, hb2⟩; have HB2 := HB.trans (hb2.mono HB.size)))
                  go_ret
                  exact ⟨ret_bool (by rw [HN3.out, Bool.eq_iff_iff]; simp; try omega), HB⟩
            · have e3' : (kd == 3) = false := beq_eq_false_iff_ne.2 e3
              have HN3 : Hid (r = false) := HN2.out.trans (by simp [e1, e2, e3])
              clear HN2 e1 e2 e3
              go_enter Tryd.func46, Tryd.ntmps46
              go_wp2_with (first | (go_at_call 65; refine (HVe.out _).mono ?_; rintro e w' ⟨rfl, hb1⟩; obtain ⟨k0, k2, k3, k4⟩ := HC.out _ (by simpa using hb1); have HB := HBl.out _ (by simpa using hb1); have HB1 := Lib.hid hb1; clear hb1) | (go_at_call 66; refine (HTx.out _ (HTb.out _ HB)).mono ?_; rintro e w2 ⟨rfl, hb2⟩; have HB2 := HB.trans (hb2.mono HB.size)))
              go_ret
              exact ⟨ret_bool HN3.out.symm, HB⟩
  · have g1' : (1000 : Int) < (tg.size : Int) := by omega
    have HN2 : Hid (r = false) := HN.out.trans (by simp [g1])
    clear HN HVd g1
    go_enter Tryd.func46, Tryd.ntmps46
    go_wp2_with fail
    go_ret
    exact ⟨ret_bool HN2.out.symm, hB0⟩
end Go.Proofs.YtdcbngimgpdjoaaDoor
