/- How many nodes a tree has: expand.Count, and the reference's. Conditions: no more than a thousand million. -/
import Derived.Test.YtdcbngimgpdjoaaDoorXe
import Derived.Deep.RegionHeld3
namespace Go.Proofs.YtdcbngimgpdjoaaDoor
open Go.RowKit Go.Shelf Go.Deep
attribute [local go_sem] Oper.semAt_some
theorem Tr.count_eq (t : Tr) : t.count = 1 + Tr.counts t.kids := by cases t; simp [Tr.count, Tr.kids]
theorem Tr.counts_take {l : List Tr} {k : Nat} (h : k < l.length) : Tr.counts (l.take (k + 1)) = Tr.counts (l.take k) + l[k].count := by
  rw [List.take_succ_eq_append_getElem h, Tr.counts_append]; simp [Tr.counts]
theorem Tr.counts_le (l : List Tr) (k : Nat) : Tr.counts (l.take k) ≤ Tr.counts l := by
  have : Tr.counts l = Tr.counts (l.take k) + Tr.counts (l.drop k) := by rw [← Tr.counts_append, List.take_append_drop]
  omega
theorem Tr.len_le (l : List Tr) : l.length ≤ Tr.counts l := by
  induction l with
  | nil => simp
  | cons x l ih => have := x.count_pos; simp only [Tr.counts, List.length_cons]; omega
set_option maxRecDepth 100000 in
set_option maxHeartbeats 4000000 in
theorem Count_any : ∀ (m : Nat) (t : Tr) (v : Value) (w : World), t.count ≤ m → t.count ≤ 1000000000 → TrV w (lo w.heap.size) t v → Calls Tryd.prog 42 #[v] w fun e w' => e = .returned (.int .i64 (t.count : Nat)) ∧ Below w.heap.size w w' := by
  intro m
  induction m with
  | zero => intro t v w h; have := t.count_pos; omega
  | succ m ih =>
    intro t v w hm hb ht
    have HI : Hid (∀ u ∈ t.kids, ∀ (W : World) (x : Value), TrV W (lo W.heap.size) u x → Calls Tryd.prog 42 #[x] W fun e w' => e = .returned (.int .i64 (u.count : Nat)) ∧ Below W.heap.size W w') := fun u hu W x hx => ih u x W (by have := Tr.count_kid hu; omega) (by have := Tr.count_kid hu; omega) hx
    obtain ⟨A, c, rfl, hlc, hk⟩ := ht
    have HC : Hid (t.count = 1 + Tr.counts t.kids) := t.count_eq
    have hbK : Hid (Tr.counts t.kids ≤ 1000000000) := by have := HC.out; show _ ≤ _; omega
    have Hk := Lib.hid hk
    have Hl : Hid (t.kids.length ≤ 1000000000) := by have := Tr.len_le t.kids; have := hbK.out; show _ ≤ _; omega
    rw [HC.out]
    obtain ⟨ks, hks⟩ : ∃ l, t.kids = l := ⟨_, rfl⟩
    rw [hks] at HI hbK Hk Hl ⊢
    clear ih hm hb hk hlc HC hks
    go_enter Tryd.func42, Tryd.ntmps42
    go_wp2_with fail
    obtain ⟨V, hV⟩ : ∃ V, w.alloc (.cells #[.int .i64 t.kind, .string t.tag, .string t.text, .slice A ks.length c] 52) = V := ⟨_, rfl⟩
    have hbV : Below w.heap.size w V := by rw [← hV]; exact (Below.refl _ w).alloc (Nat.le_refl _) _
    rw [hV]
    have HbV := Lib.hid hbV
    clear hV hbV
    go_loopw [3, 9] (fun n j wr => ∃ q : Nat, q ≤ ks.length ∧ n = .int .i64 ((1 + Tr.counts (ks.take q) : Nat) : Int) ∧ j = .int .i64 (q : Int) ∧ Hid (Below w.heap.size w wr)) (fun _ j _ => ks.length - (intOf j).toNat)
    case atStart => exact ⟨0, Nat.zero_le _, by simp [Tr.counts], rfl, HbV⟩
    case round =>
      obtain ⟨q, hq, rfl, rfl, hbw⟩ := hrel
      by_cases hlt : q < ks.length
      · have hkw := Hk.out.below hbw.out (Nat.le_refl _)
        obtain ⟨b, o, rfl, hbl, hkd⟩ := hkw.kid (by omega)
        obtain ⟨A', c', k0, k1, k2, k3, k4, k5⟩ := hkd q hlt
        have hct := Tr.counts_take hlt
        have hcl := Tr.counts_le ks (q + 1)
        have hmem : ks[q] ∈ ks := List.getElem_mem hlt
        obtain ⟨u, hu⟩ : ∃ u, ks[q] = u := ⟨_, rfl⟩
        rw [hu] at k0 k1 k2 k3 k4 k5 hct hmem
        obtain ⟨U, hU⟩ : ∃ U, wr.alloc (.cells #[.int .i64 u.kind, .string u.tag, .string u.text, .slice A' u.kids.length c'] 52) = U := ⟨_, rfl⟩
        have hbU : Below wr.heap.size wr U := by rw [← hU]; exact (Below.refl _ wr).alloc (Nat.le_refl _) _
        have hrU : U.heap[wr.heap.size]? = some (.cells #[.int .i64 u.kind, .string u.tag, .string u.text, .slice A' u.kids.length c'] 52 (0, 0)) := by rw [← hU]; exact heap_alloc_new wr _
        have hwr := hbw.out.size
        have HCl := Lib.hid (HI.out u hmem U (.agg #[.int .i64 u.kind, .string u.tag, .string u.text, .slice A' u.kids.length c']) ⟨A', c', rfl, k4, k5.below (hbU.mono hwr) (Nat.le_trans hwr hbU.size)⟩)
        have HbU := Lib.hid (below_then hbw.out hbU)
        have u0 := Lib.cell_of_heap hrU 0
        have u1 := Lib.cell_of_heap hrU 1
        have u2 := Lib.cell_of_heap hrU 2
        have u3 := Lib.cell_of_heap hrU 3
        have hlt' : (q : Int) < (ks.length : Int) := by omega
        obtain ⟨n0, hn0⟩ : ∃ n, 1 + Tr.counts (ks.take q) = n := ⟨_, rfl⟩
        have hnn : 1 + Tr.counts (ks.take (q + 1)) = n0 + u.count := by omega
        have HN := Lib.hid hnn
        have hadd : Hid (wrap64 ((n0 : Int) + (u.count : Int)) = ((n0 + u.count : Nat) : Int)) := by
          show _ = _
          rw [Int.natCast_add]
          refine IntWalk.wrap64_in _ ?_
          have := hbK.out
          omega
        rw [hn0]
        have Hlt := Lib.hid hlt
        have hmz : ∀ z : Int, z = q + 1 → ks.length - (intOf (.int .i64 z)).toNat < ks.length - (intOf (.int .i64 (q : Int))).toNat := by intro z hz; subst hz; have := Hlt.out; simp only [intOf]; omega
        have HWr : Hid (wrap64 ((q : Int) + 1) = q + 1) := by
          show _ = _
          refine IntWalk.wrap64_in _ ?_
          have := Hlt.out
          have := Hl.out
          omega
        clear hkw hkd hct hcl hmem hu k4 k5 hbU hrU hwr hlt hq hbw hbl hnn hn0
        go_wp2_with (go_at_call 42; refine HCl.out.mono ?_; rintro e w1 ⟨rfl, hb1⟩; have Hb1 := Lib.hid (below_then HbU.out hb1); clear hb1)
        first
          | exact ⟨⟨q + 1, Hlt.out, (by rw [HN.out]; exact congrArg (Value.int .i64) hadd.out), by simp, Hb1⟩, hmz _ rfl⟩
          | exact ⟨⟨q + 1, Hlt.out, (by rw [HN.out]; exact congrArg (Value.int .i64) hadd.out), congrArg (Value.int .i64) (HWr.out.trans (by simp)), Hb1⟩, hmz _ HWr.out⟩
      · obtain rfl : q = ks.length := by omega
        have hd : ¬ (ks.length : Int) < (ks.length : Int) := by omega
        rw [List.take_length]
        clear hlt hq
        go_wp2_with fail
        go_ret
        exact ⟨rfl, hbw.out⟩
set_option maxRecDepth 100000 in
set_option maxHeartbeats 4000000 in
theorem RCount_any : ∀ (m : Nat) (t : Tr) (v : Value) (w : World), t.count ≤ m → t.count ≤ 1000000000 → TrV w (lo w.heap.size) t v → Calls Tryd.prog 43 #[v] w fun e w' => e = .returned (.int .i64 (t.count : Nat)) ∧ Below w.heap.size w w' := by
  intro m
  induction m with
  | zero => intro t v w h; have := t.count_pos; omega
  | succ m ih =>
    intro t v w hm hb ht
    have HI : Hid (∀ u ∈ t.kids, ∀ (W : World) (x : Value), TrV W (lo W.heap.size) u x → Calls Tryd.prog 43 #[x] W fun e w' => e = .returned (.int .i64 (u.count : Nat)) ∧ Below W.heap.size W w') := fun u hu W x hx => ih u x W (by have := Tr.count_kid hu; omega) (by have := Tr.count_kid hu; omega) hx
    obtain ⟨A, c, rfl, hlc, hk⟩ := ht
    have HC : Hid (t.count = 1 + Tr.counts t.kids) := t.count_eq
    have hbK : Hid (Tr.counts t.kids ≤ 1000000000) := by have := HC.out; show _ ≤ _; omega
    have Hk := Lib.hid hk
    have Hl : Hid (t.kids.length ≤ 1000000000) := by have := Tr.len_le t.kids; have := hbK.out; show _ ≤ _; omega
    rw [HC.out]
    obtain ⟨ks, hks⟩ : ∃ l, t.kids = l := ⟨_, rfl⟩
    rw [hks] at HI hbK Hk Hl ⊢
    clear ih hm hb hk hlc HC hks
    go_enter Tryd.func43, Tryd.ntmps43
    go_wp2_with fail
    obtain ⟨V, hV⟩ : ∃ V, w.alloc (.cells #[.int .i64 t.kind, .string t.tag, .string t.text, .slice A ks.length c] 52) = V := ⟨_, rfl⟩
    have hbV : Below w.heap.size w V := by rw [← hV]; exact (Below.refl _ w).alloc (Nat.le_refl _) _
    rw [hV]
    have hrV : V.heap[w.heap.size]? = some (.cells #[.int .i64 t.kind, .string t.tag, .string t.text, .slice A ks.length c] 52 (0, 0)) := by rw [← hV]; exact heap_alloc_new w _
    have HVc : Hid (∀ W, Below V.heap.size V W → W.cell? ⟨w.heap.size, 3, none⟩ = some (.slice A ks.length c) ∧ Below w.heap.size w W) := fun W hW => ⟨Lib.cell_of_heap ((hW.block _ (Array.getElem?_eq_some_iff.1 hrV).1).trans hrV) 3, below_then hbV hW⟩
    have HbV : Hid (Below V.heap.size V V) := Below.refl _ _
    clear hV hbV hrV
    go_loopw [3, 4] (fun n j wr => ∃ q : Nat, q ≤ ks.length ∧ n = .int .i64 ((1 + Tr.counts (ks.take q) : Nat) : Int) ∧ j = .int .i64 (q : Int) ∧ Hid (Below V.heap.size V wr)) (fun _ j _ => ks.length - (intOf j).toNat)
    case atStart => exact ⟨0, Nat.zero_le _, by simp [Tr.counts], rfl, HbV⟩
    case round =>
      obtain ⟨q, hq, rfl, rfl, hbV⟩ := hrel
      obtain ⟨v3, hbw0⟩ := HVc.out wr hbV.out
      have hbw := Lib.hid hbw0
      clear hbw0
      by_cases hlt : q < ks.length
      · have hkw := Hk.out.below hbw.out (Nat.le_refl _)
        obtain ⟨b, o, rfl, hbl, hkd⟩ := hkw.kid (by omega)
        obtain ⟨A', c', k0, k1, k2, k3, k4, k5⟩ := hkd q hlt
        have hct := Tr.counts_take hlt
        have hcl := Tr.counts_le ks (q + 1)
        have hmem : ks[q] ∈ ks := List.getElem_mem hlt
        obtain ⟨u, hu⟩ : ∃ u, ks[q] = u := ⟨_, rfl⟩
        rw [hu] at k0 k1 k2 k3 k4 k5 hct hmem
        have hwr := hbw.out.size
        have HCl := Lib.hid (HI.out u hmem wr (.agg #[.int .i64 u.kind, .string u.tag, .string u.text, .slice A' u.kids.length c']) ⟨A', c', rfl, k4, k5.keep (fun _ _ => rfl) fun _ hlt => Nat.lt_of_lt_of_le hlt hwr⟩)
        have hlt' : (q : Int) < (ks.length : Int) := by omega
        obtain ⟨n0, hn0⟩ : ∃ n, 1 + Tr.counts (ks.take q) = n := ⟨_, rfl⟩
        have hnn : 1 + Tr.counts (ks.take (q + 1)) = n0 + u.count := by omega
        have HN := Lib.hid hnn
        have hadd : Hid (wrap64 ((n0 : Int) + (u.count : Int)) = ((n0 + u.count : Nat) : Int)) := by
          show _ = _
          rw [Int.natCast_add]
          refine IntWalk.wrap64_in _ ?_
          have := hbK.out
          omega
        rw [hn0]
        have Hlt := Lib.hid hlt
        have hmz : ∀ z : Int, z = q + 1 → ks.length - (intOf (.int .i64 z)).toNat < ks.length - (intOf (.int .i64 (q : Int))).toNat := by intro z hz; subst hz; have := Hlt.out; simp only [intOf]; omega
        have HWr : Hid (wrap64 ((q : Int) + 1) = q + 1) := by
          show _ = _
          refine IntWalk.wrap64_in _ ?_
          have := Hlt.out
          have := Hl.out
          omega
        clear hkw hkd hct hcl hmem hu k4 k5 hwr hlt hq hbw hbl hnn hn0
        go_wp2_with (go_at_call 43; refine HCl.out.mono ?_; rintro e w1 ⟨rfl, hb1⟩; have Hb1 := Lib.hid (below_then hbV.out hb1); clear hb1)
        first
          | exact ⟨⟨q + 1, Hlt.out, (by rw [HN.out]; exact congrArg (Value.int .i64) hadd.out), by simp, Hb1⟩, hmz _ rfl⟩
          | exact ⟨⟨q + 1, Hlt.out, (by rw [HN.out]; exact congrArg (Value.int .i64) hadd.out), congrArg (Value.int .i64) (HWr.out.trans (by simp)), Hb1⟩, hmz _ HWr.out⟩
      · obtain rfl : q = ks.length := by omega
        have hd : ¬ (ks.length : Int) < (ks.length : Int) := by omega
        rw [List.take_length]
        clear hlt hq
        go_wp2_with fail
        go_ret
        exact ⟨rfl, hbw.out⟩
end Go.Proofs.YtdcbngimgpdjoaaDoor
