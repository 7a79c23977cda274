/- The law's Big and has (marginalialaw17). Conditions: a graph's texts and rows hold no more than a million million. -/
import Derived.Test.YtdcbngimgpdjoaaDoorGy
import Derived.Test.YtdcbngimgpdjoaaDoorGal
import Derived.Deep.RegionHeld
namespace Go.Proofs.YtdcbngimgpdjoaaDoor
open Go.RowKit
/-- How much a node weighs. -/
def wt (e : Nd) : Nat := e.kids.length + e.text.size / 20 + e.tag.size / 20
def wtN (G : Gr) (k : Nat) : Nat := ((G.nodes.take k).map wt).sum
def bigB (G : Gr) : Bool := decide (60 < G.nodes.length) || decide (20 < G.roots.length) || decide (400 < wtN G (min G.nodes.length 100))
structure Gr.okB (G : Gr) : Prop where
  nodes : G.nodes.length ≤ 1000000000000
  roots : G.roots.length ≤ 1000000000000
  tag : ∀ e ∈ G.nodes, e.tag.size ≤ 1000000000000
  text : ∀ e ∈ G.nodes, e.text.size ≤ 1000000000000
  small : ∀ e ∈ G.nodes, e.kids.length ≤ 1000000000000
theorem wtN_step {G : Gr} {k : Nat} (h : k < G.nodes.length) : wtN G (k + 1) = wtN G k + wt (nd G.nodes k) := by
  unfold wtN
  rw [take_nd h]; simp
theorem le_sum_mem : ∀ (l : List Nat) (x : Nat), x ∈ l → x ≤ l.sum := by
  intro l
  induction l with
  | nil => simp
  | cons a l ih =>
    intro x hx
    rcases List.mem_cons.1 hx with rfl | hx
    · simp
    · have := ih x hx; simp; omega
/-- A graph that is not big is short enough for the reference's walks. -/
theorem Gr.okB.okR {G : Gr} (h : G.okB) (hb : bigB G = false) : G.okR := by
  simp only [bigB, Bool.or_eq_false_iff, decide_eq_false_iff_not] at hb
  obtain ⟨⟨h1, h2⟩, h3⟩ := hb
  rw [Nat.min_eq_left (by omega)] at h3
  have hw : ∀ e ∈ G.nodes, wt e ≤ 400 := fun e he => by
    have : wt e ≤ wtN G G.nodes.length := by
      unfold wtN
      rw [List.take_length]
      exact le_sum_mem _ _ (List.mem_map.2 ⟨e, he, rfl⟩)
    omega
  refine ⟨by unfold maxLen; omega, by unfold maxLen; omega, fun e he => ?_, fun e he => ?_, h.small⟩
  · have := hw e he; unfold wt at this; omega
  · have := hw e he; unfold wt at this; omega
set_option maxRecDepth 100000 in
set_option maxHeartbeats 4000000 in
theorem has_any (A : Option Addr) (c : Nat) (l : List Int) (n : Int) (w : World) (hl : l.length ≤ 1000000000000) (hI : IntsAt w w.heap.size A l) :
    Calls Tryd.prog 28 #[.slice A l.length c, .int .i64 n] w fun e w' => e = .returned (.bool (l.any fun x => x == n)) ∧ w = w' := by
  obtain ⟨r, hr⟩ : ∃ r, (l.any fun x => x == n) = r := ⟨_, rfl⟩
  have HR := Lib.hid hr
  rw [hr]
  clear hr
  have Hl := Lib.hid hl
  have HI := Lib.hid hI
  clear hl hI
  go_enter Tryd.func28, Tryd.ntmps28
  go_wp2_with fail
  go_loop [5] (fun i => ∃ k : Nat, k ≤ l.length ∧ i = .int .i64 (k : Int) ∧ Hid (((l.take k).any fun x => x == n) = false)) (fun i => l.length - (intOf i).toNat)
  case atStart => exact ⟨0, Nat.zero_le _, rfl, rfl⟩
  case round =>
    obtain ⟨k, hk, rfl, hm⟩ := hrel
    by_cases hlt : k < l.length
    · obtain ⟨b, off, rfl, _, hc⟩ := HI.out (by omega)
      have hck := hc k hlt
      have hlt' : (k : Int) < (l.length : Int) := by omega
      have HT : Hid (((l.take (k + 1)).any fun x => x == n) = (((l.take k).any fun x => x == n) || (nth l k == n))) := by show _ = _; rw [take_nth hlt]; simp
      have HF : Hid ((nth l k == n) = true → r = true) := fun h => by
        rw [← HR.out, List.any_eq_true]
        exact ⟨nth l k, nth_mem hlt, h⟩
      obtain ⟨x, hx⟩ : ∃ x, nth l k = x := ⟨_, rfl⟩
      rw [hx] at hck HT HF
      have Hlt := Lib.hid hlt
      clear hc hx hlt hk
      by_cases hxn : x = n
      · subst hxn
        go_wp2_with fail
        go_ret
        exact ⟨ret_bool (HF.out (by simp)).symm, rfl⟩
      · have hxn' : (x == n) = false := beq_eq_false_iff_ne.2 hxn
        have HNx : Hid (((l.take (k + 1)).any fun x => x == n) = false) := by show _ = _; rw [HT.out, hm.out, hxn']; rfl
        have hmz : ∀ z : Int, z = k + 1 → l.length - (intOf (.int .i64 z)).toNat < l.length - (intOf (.int .i64 (k : Int))).toNat := by intro z hz; subst hz; have := Hlt.out; simp only [intOf]; omega
        have HW : Hid (wrap64 ((k : Int) + 1) = k + 1) := IntWalk.wrap64_in _ (by have := Hlt.out; have := Hl.out; omega)
        go_wp2_with fail
        first
          | exact ⟨⟨k + 1, Hlt.out, by simp, HNx⟩, hmz _ rfl⟩
          | exact ⟨⟨k + 1, Hlt.out, congrArg (Value.int .i64) (HW.out.trans (by simp)), HNx⟩, hmz _ HW.out⟩
    · obtain rfl : k = l.length := by omega
      have hlt' : ¬ (l.length : Int) < (l.length : Int) := by omega
      have HRr : Hid (r = false) := by
        have := hm.out
        rw [List.take_of_length_le (Nat.le_refl _)] at this
        exact HR.out.symm.trans this
      go_wp2_with fail
      go_ret
      exact ⟨ret_bool HRr.out.symm, rfl⟩
set_option maxRecDepth 100000 in
set_option maxHeartbeats 4000000 in
theorem Big_any (G : Gr) (v : Value) (w : World) (hG : GrAt w w.heap.size G v) (hok : G.okB) :
    Calls Tryd.prog 17 #[v] w fun r w' => r = .returned (.bool (bigB G)) ∧ Below w.heap.size w w' := by
  obtain ⟨NA, nc, RA, rc, rfl, hN, hR⟩ := hG.ex
  obtain ⟨V, hV, hbV, hrow, hsz⟩ := box2 w (.slice NA G.nodes.length nc) (.slice RA G.roots.length rc) 25
  have v0 : V.cell? ⟨w.heap.size, 0, none⟩ = some (.slice NA G.nodes.length nc) := Lib.cell_of_heap hrow 0
  have v1 : V.cell? ⟨w.heap.size, 1, none⟩ = some (.slice RA G.roots.length rc) := Lib.cell_of_heap hrow 1
  have HNd : Hid (∀ k, k < G.nodes.length → ∃ b off K c, NA = some ⟨b, off, none⟩ ∧ b < V.heap.size ∧ NdAt V w.heap.size b (off + k * 5) (nd G.nodes k) K c) := fun k hk => by
    obtain ⟨b, off, hA, hlt, hc⟩ := hN (by omega)
    obtain ⟨K, c, hn⟩ := hc k hk
    exact ⟨b, off, K, c, hA, by omega, hn.below hbV (Nat.le_refl _) hlt⟩
  have HOk : Hid (∀ k, k < G.nodes.length → wt (nd G.nodes k) ≤ 3000000000000) := fun k hk => by
    have h1 := hok.tag _ (nd_mem hk)
    have h2 := hok.text _ (nd_mem hk)
    have h3 := hok.small _ (nd_mem hk)
    unfold wt; omega
  have hn1 := hok.nodes
  have hn2 := hok.roots
  have HbV := Lib.hid hbV
  have hsV : w.heap.size < V.heap.size := by omega
  clear hG hN hR hok hbV hrow hsz
  go_enter Tryd.func17, Tryd.ntmps17
  go_wp2_with fail
  go_loopw [3, 4] (fun s i wr => Below V.heap.size V wr ∧ ∃ k : Nat, k ≤ min G.nodes.length 100 ∧ i = .int .i64 (k : Int) ∧ ∃ t : Nat, s = .int .i64 (t : Int) ∧ t = wtN G k ∧ t ≤ k * 3000000000000) (fun _ i _ => G.nodes.length - (intOf i).toNat)
  case atStart => exact ⟨Below.refl _ _, 0, Nat.zero_le _, rfl, 0, rfl, rfl, by omega⟩
  case round =>
    obtain ⟨hbl, k, hk, rfl, t, rfl, ht, htl⟩ := hrel
    have q0 := (hbl.cell (p := ⟨w.heap.size, 0, none⟩) hsV).trans v0
    have q1 := (hbl.cell (p := ⟨w.heap.size, 1, none⟩) hsV).trans v1
    by_cases hlt : k < G.nodes.length ∧ k < 100
    · obtain ⟨hl1, hl2⟩ := hlt
      have hl1' : (k : Int) < (G.nodes.length : Int) := by omega
      have hl2' : (k : Int) < 100 := by omega
      obtain ⟨b, off, K, c, rfl, hbV2, hnd⟩ := HNd.out k hl1
      have hw := HOk.out k hl1
      have hst := wtN_step hl1
      obtain ⟨e, he⟩ : ∃ e, nd G.nodes k = e := ⟨_, rfl⟩
      rw [he] at hnd hw hst
      obtain ⟨c0, c1, c2, c3, c4, _, _, _⟩ := hnd
      have hwe : wt e = e.kids.length + e.text.size / 20 + e.tag.size / 20 := rfl
      have HW3 : Hid (IntKind.i64.wrap (IntKind.i64.wrap (IntKind.i64.wrap ((wtN G k : Int) + (e.kids.length : Int)) + IntKind.i64.wrap ((e.text.size : Int) / 20)) + IntKind.i64.wrap ((e.tag.size : Int) / 20)) = ((wtN G (k + 1) : Nat) : Int)) := by
        show _ = _
        rw [IntWalk.i64_in ((wtN G k : Int) + (e.kids.length : Int)) (by omega), IntWalk.i64_in ((e.text.size : Int) / 20) (by omega), IntWalk.i64_in ((e.tag.size : Int) / 20) (by omega), IntWalk.i64_in ((wtN G k : Int) + (e.kids.length : Int) + (e.text.size : Int) / 20) (by omega), IntWalk.i64_in _ (by omega), hst, hwe]
        omega
      have HB3 : Hid (wtN G (k + 1) ≤ (k + 1) * 3000000000000) := by show _ ≤ _; omega
      have Hl := Lib.hid hl1
      have Hl2 := Lib.hid hl2
      have HS : Hid (∀ W', Below V.heap.size V W' → W'.cell? ⟨w.heap.size, 0, none⟩ = some (.slice (some ⟨b, off, none⟩) G.nodes.length nc) ∧ W'.cell? ⟨b, off + k * 5 + 1, none⟩ = some (.string e.tag) ∧ W'.cell? ⟨b, off + k * 5 + 2, none⟩ = some (.string e.text) ∧ W'.cell? ⟨b, off + k * 5 + 3, none⟩ = some (.slice K e.kids.length c)) := fun W' h =>
        ⟨(h.cell (p := ⟨w.heap.size, 0, none⟩) hsV).trans v0, (h.cell (p := ⟨b, _, none⟩) hbV2).trans c1, (h.cell (p := ⟨b, _, none⟩) hbV2).trans c2, (h.cell (p := ⟨b, _, none⟩) hbV2).trans c3⟩
      clear c0 c1 c2 c3 c4
      go_wp2_with fail
      have hbd : Below V.heap.size V wr.drew := hbl.drew
      obtain ⟨s0, s1, s2, s3⟩ := HS.out wr.drew hbd
      go_region_held (fun W' => Below V.heap.size V W' ∧ W'.cell? ⟨w.heap.size, 0, none⟩ = some (.slice (some ⟨b, off, none⟩) G.nodes.length nc) ∧ W'.cell? ⟨b, off + k * 5 + 1, none⟩ = some (.string e.tag) ∧ W'.cell? ⟨b, off + k * 5 + 2, none⟩ = some (.string e.text) ∧ W'.cell? ⟨b, off + k * 5 + 3, none⟩ = some (.slice K e.kids.length c)) (exact ⟨by assumption, by assumption, by assumption, by assumption, by assumption⟩) (fail)
      have HRel : Hid (Below V.heap.size V wr.drew ∧ t = wtN G k) := ⟨hbd, ht⟩
      have hmz : ∀ z : Int, z = k + 1 → G.nodes.length - (intOf (.int .i64 z)).toNat < G.nodes.length - (intOf (.int .i64 (k : Int))).toNat := by intro z hz; subst hz; have := Hl.out; simp only [intOf]; omega
      go_wp2_with fail
      exact ⟨⟨HRel.out.1, k + 1, by have := Hl.out; have := Hl2.out; omega, by simp, wtN G (k + 1), congrArg (Value.int .i64) HW3.out, rfl, HB3.out⟩, hmz _ rfl⟩
    · have HKm : Hid (k = min G.nodes.length 100) := by show _ = _; omega
      have hb0 : ∀ (b1 b2 b3 : Bool), decide (60 < G.nodes.length) = b1 → decide (20 < G.roots.length) = b2 → decide (400 < t) = b3 → bigB G = (b1 || b2 || b3) := fun b1 b2 b3 e1 e2 e3 => by
        rw [bigB, e1, e2, ← HKm.out, ← ht, e3]
      have HBg := Lib.hid hb0
      have hend : (¬ (k : Int) < (G.nodes.length : Int)) ∨ ((k : Int) < (G.nodes.length : Int) ∧ ¬ (k : Int) < 100) := by omega
      have Hbl := Lib.hid hbl
      clear hb0 hlt hbl hn1 hn2 ht hk htl
      rcases hend with e1 | ⟨e1, e2⟩
      · have e1d := decide_eq_false e1
        by_cases g1 : 60 < G.nodes.length
        · have g1i : (60 : Int) < (G.nodes.length : Int) := by omega
          have f1 : decide (60 < G.nodes.length) = true := decide_eq_true g1
          go_wp2_with fail
          go_ret
          exact ⟨ret_bool (by rw [HBg.out _ _ _ rfl rfl rfl, f1]; simp), below_then HbV.out Hbl.out⟩
        · have g1i : ¬ (60 : Int) < (G.nodes.length : Int) := by omega
          have g1d := decide_eq_false g1i
          have f1 : decide (60 < G.nodes.length) = false := decide_eq_false g1
          by_cases g2 : 20 < G.roots.length
          · have g2i : (20 : Int) < (G.roots.length : Int) := by omega
            have f2 : decide (20 < G.roots.length) = true := decide_eq_true g2
            go_wp2_with fail
            go_ret
            exact ⟨ret_bool (by rw [HBg.out _ _ _ rfl rfl rfl, f1, f2]; simp), below_then HbV.out Hbl.out⟩
          · have g2i : ¬ (20 : Int) < (G.roots.length : Int) := by omega
            have g2d := decide_eq_false g2i
            have f2 : decide (20 < G.roots.length) = false := decide_eq_false g2
            go_wp2_with fail
            go_ret
            exact ⟨ret_bool (by rw [HBg.out _ _ _ rfl rfl rfl, f1, f2]; simp <;> omega), below_then HbV.out Hbl.out⟩
      · have e2d := decide_eq_false e2
        have g1 : 60 < G.nodes.length := by omega
        have g1i : (60 : Int) < (G.nodes.length : Int) := by omega
        have f1 : decide (60 < G.nodes.length) = true := decide_eq_true g1
        go_wp2_with fail
        go_ret
        exact ⟨ret_bool (by rw [HBg.out _ _ _ rfl rfl rfl, f1]; simp), below_then HbV.out Hbl.out⟩
end Go.Proofs.YtdcbngimgpdjoaaDoor
