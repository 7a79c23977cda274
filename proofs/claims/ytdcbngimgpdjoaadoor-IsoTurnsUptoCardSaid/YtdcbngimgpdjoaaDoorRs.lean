/- The reference's SameInts (marginaliaref1). Condition: the rows hold no more than a million million. -/
import Derived.Test.YtdcbngimgpdjoaaDoorGn
namespace Go.Proofs.YtdcbngimgpdjoaaDoor
open Go.RowKit
theorem nth_take_eq {a b : List Int} {k : Nat} (h : a.take k = b.take k) (ha : k < a.length) (hb : k < b.length) (he : nth a k = nth b k) : a.take (k + 1) = b.take (k + 1) := by
  rw [take_nth ha, take_nth hb, h, he]
set_option maxRecDepth 100000 in
set_option maxHeartbeats 1000000 in
theorem SameInts_any (A1 A2 : Option Addr) (c1 c2 : Nat) (a b : List Int) (w : World) (hl : a.length ≤ 1000000000000) (h1 : IntsAt w w.heap.size A1 a) (h2 : IntsAt w w.heap.size A2 b) :
    Calls Tryd.prog 20 #[.slice A1 a.length c1, .slice A2 b.length c2] w fun e w' => e = .returned (.bool (decide (a = b))) ∧ Below w.heap.size w w' := by
  by_cases hlen : a.length = b.length
  · obtain ⟨m, hm⟩ : ∃ m, b.length = m := ⟨_, rfl⟩
    rw [hm] at hlen ⊢
    have hne : ((a.length : Int) != (m : Int)) = false := by rw [hlen]; simp
    go_enter Tryd.func20, Tryd.ntmps20
    have HL := Lib.hid hlen
    have Hm := Lib.hid hm
    clear hlen hm
    go_wp2_with fail
    clear hne
    go_loopw [5] (fun i wr => ∃ k : Nat, k ≤ a.length ∧ i = .int .i64 k ∧ Hid (a.take k = b.take k) ∧ Below w.heap.size w wr) (fun i _ => a.length - (intOf i).toNat)
    case atStart => exact ⟨0, Nat.zero_le _, rfl, rfl, Below.refl _ _⟩
    case round =>
      obtain ⟨k, hk, rfl, ht, hb⟩ := hrel
      by_cases hlt : k < a.length
      · obtain ⟨b1, o1, rfl, hb1, hc1⟩ := h1 (by omega)
        obtain ⟨b2, o2, rfl, hb2, hc2⟩ := h2 (by have := HL.out; have := Hm.out; omega)
        have e1 := (hb.cell (p := ⟨b1, o1 + k, none⟩) hb1).trans (hc1 k hlt)
        have e2 := (hb.cell (p := ⟨b2, o2 + k, none⟩) hb2).trans (hc2 k (by have := HL.out; have := Hm.out; omega))
        have hlt1 : (k : Int) < (a.length : Int) := by omega
        have hlt2 : (k : Int) < (m : Int) := by have := HL.out; omega
        have hlt3 : k < m := by have := HL.out; omega
        have Hlt := Lib.hid hlt
        have Hltb : Hid (k < b.length) := by have := HL.out; have := Hm.out; show _ < _; omega
        have HW : Hid (wrap64 ((k : Int) + 1) = k + 1) := IntWalk.wrap64_in _ (by have := Hlt.out; omega)
        have hmz : ∀ z : Int, z = k + 1 → a.length - (intOf (.int .i64 z)).toNat < a.length - (intOf (.int .i64 (k : Int))).toNat := by intro z hz; subst hz; have := Hlt.out; simp only [intOf]; omega
        have Hb := Lib.hid hb
        clear hc1 hc2 hk hl hb hb1 hb2
        by_cases he : nth a k = nth b k
        · rw [← he] at e2
          have hne2 : (nth a k != nth a k) = false := by simp
          have HT : Hid (a.take (k + 1) = b.take (k + 1)) := nth_take_eq ht.out Hlt.out Hltb.out he
          clear he
          go_wp2_with fail
          go_region
          all_goals go_wp2_with fail
          all_goals first
            | exact ⟨⟨k + 1, Hlt.out, by simp, HT, Hb.out.drew⟩, hmz _ rfl⟩
            | exact ⟨⟨k + 1, Hlt.out, congrArg (Value.int .i64) (HW.out.trans (by simp)), HT, Hb.out.drew⟩, hmz _ HW.out⟩
        · have hne2 : (nth a k != nth b k) = true := bne_iff_ne.2 he
          have HE : Hid (decide (a = b) = false) := decide_eq_false fun e => he (by rw [e])
          clear he
          go_wp2_with fail
          go_region
          all_goals go_wp2_with fail
          all_goals (go_ret; exact ⟨ret_bool HE.out.symm, Hb.out.drew⟩)
      · obtain rfl : k = a.length := by omega
        have hd : ¬ (a.length : Int) < (a.length : Int) := by omega
        have HE : Hid (decide (a = b) = true) := decide_eq_true (by
          have := ht.out
          rwa [List.take_length, HL.out, ← Hm.out, List.take_length] at this)
        have Hb := Lib.hid hb
        clear hk hlt hb
        go_wp2_with fail
        go_ret
        exact ⟨ret_bool HE.out.symm, Hb.out⟩
  · have hne : ((a.length : Int) != (b.length : Int)) = true := bne_iff_ne.2 (by omega)
    have HE : Hid (decide (a = b) = false) := decide_eq_false fun e => hlen (by rw [e])
    rw [HE.out]
    clear hlen h1 h2 hl
    go_enter Tryd.func20, Tryd.ntmps20
    go_wp2_with fail
    go_ret
    exact ⟨rfl, Below.refl _ _⟩
end Go.Proofs.YtdcbngimgpdjoaaDoor
