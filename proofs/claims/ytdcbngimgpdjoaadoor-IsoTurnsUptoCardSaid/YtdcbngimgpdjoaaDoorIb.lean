/- iso.numbered: nodes by their new numbers. Conditions: the numbers lie in the row. -/
import Derived.Test.YtdcbngimgpdjoaaDoorIw
namespace Go.Proofs.YtdcbngimgpdjoaaDoor
open Go.RowKit Go.Shelf Go.Deep
set_option maxRecDepth 100000 in
set_option maxHeartbeats 1000000 in
theorem numbered_any (A : Option Addr) (c TB n cc : Nat) (l : List Nat) (f : Nat → Nat) (w : World) (hl : l.length ≤ 1000000) (hI : IntsAt w w.heap.size A (l.map Int.ofNat)) (hr : w.rowIs TB 3 n fun k => .int .i64 (f k : Nat)) (hn : ∀ x ∈ l, x < n) :
    Calls Tryd.prog 57 #[.slice A l.length c, .slice (some ⟨TB, 0, none⟩) n cc] w fun e w' => ∃ v', e = .returned v' ∧ ZOwn w' w.heap.size v' ((l.map f).map Int.ofNat) ∧ Below w.heap.size w w' := by
  have Hl := Lib.hid hl
  have HI : Hid (∀ W, Below w.heap.size w W → IntsAt W w.heap.size A (l.map Int.ofNat)) := fun W hW => hI.below hW (Nat.le_refl _)
  have Hr : Hid (∀ W, Below w.heap.size w W → W.rowIs TB 3 n fun k => .int .i64 (f k : Nat)) := fun W hW => hr.of_block (hW.block TB hr.lt)
  have Hn := Lib.hid hn
  clear hl hI hr hn
  go_enter Tryd.func57, Tryd.ntmps57
  go_wp2_with fail
  go_loopw [5, 10] (fun out j wr => ∃ k : Nat, k ≤ l.length ∧ j = .int .i64 (k : Int) ∧ Hid (ZOwn wr w.heap.size out (((l.take k).map f).map Int.ofNat)) ∧ Hid (Below w.heap.size w wr)) (fun _ j _ => l.length - (intOf j).toNat)
  case atStart => exact ⟨0, Nat.zero_le _, rfl, .empty _ _, Below.refl _ _⟩
  case round =>
    obtain ⟨k, hk, rfl, hz, hb⟩ := hrel
    by_cases hlt : k < l.length
    · obtain ⟨b, off, rfl, hbw, hc⟩ := HI.out wr hb.out (by rw [List.length_map]; omega)
      have hck : wr.cell? ⟨b, off + k, none⟩ = some (.int .i64 (l[k] : Nat)) := by
        rw [hc k (by rw [List.length_map]; exact hlt)]
        simp [nth, hlt]
      have hxn := Hn.out l[k] (List.getElem_mem hlt)
      have htk : l.take (k + 1) = l.take k ++ [l[k]] := List.take_succ_eq_append_getElem hlt
      have HTk : Hid ((((l.take k).map f).map Int.ofNat) ++ [((f l[k] : Nat) : Int)] = ((l.take (k + 1)).map f).map Int.ofNat) := by show _ = _; rw [htk, List.map_append, List.map_append]; rfl
      obtain ⟨x, hx⟩ : ∃ x, l[k] = x := ⟨_, rfl⟩
      rw [hx] at hck hxn HTk
      have hrx := (Hr.out wr hb.out).cell hxn
      have hlt' : (k : Int) < (l.length : Int) := by omega
      have hll : (((l.take k).map f).map Int.ofNat).length ≤ 1000000000 := by have := Hl.out; simp; omega
      have hsz := hb.out.size
      obtain ⟨y, hy⟩ : ∃ y : Nat, f x = y := ⟨_, rfl⟩
      rw [hy] at hrx HTk
      have hz' := hz.out
      have Hlt := Lib.hid hlt
      have hmz : ∀ z : Int, z = k + 1 → l.length - (intOf (.int .i64 z)).toNat < l.length - (intOf (.int .i64 (k : Int))).toNat := by intro z hz; subst hz; have := Hlt.out; simp only [intOf]; omega
      have HW : Hid (wrap64 ((k : Int) + 1) = k + 1) := IntWalk.wrap64_in _ (by have := Hl.out; omega)
      have Hb := Lib.hid hb.out
      clear hc htk hx hy hz hb hk hlt hbw
      go_wp2_with (at_builtin; refine wpList_appZ rfl _ _ _ rfl rfl w.heap.size u5 _ y rfl hz' _ rfl rfl hll hsz ?_; intro v' w' hz2 hb2; rw [HTk.out] at hz2; have HZ := Lib.hid hz2; have HB := Lib.hid (Hb.out.trans hb2); clear hz2 hb2)
      first
        | exact ⟨⟨k + 1, Hlt.out, by simp, HZ, HB⟩, hmz _ rfl⟩
        | exact ⟨⟨k + 1, Hlt.out, congrArg (Value.int .i64) (HW.out.trans (by simp)), HZ, HB⟩, hmz _ HW.out⟩
    · obtain rfl : k = l.length := by omega
      have HZ : Hid (ZOwn wr w.heap.size u5 ((l.map f).map Int.ofNat)) := by
        have := hz.out
        rwa [List.take_of_length_le (Nat.le_refl _)] at this
      clear hz
      go_wp2_with fail
      go_ret
      exact ⟨_, rfl, HZ.out, hb.out⟩
end Go.Proofs.YtdcbngimgpdjoaaDoor
