/- What legal's points returns: the code points of a text. Conditions: the text is valid; no longer than a million bytes. -/
import Derived.Test.YtnofdlpifpjlbaaDoorLgW
namespace Go.Proofs.YtnofdlpifpjlbaaDoor
open Go.RowKit
theorem Dec.go {s : ByteArray} {i : Nat} {l : List Int} (h : Dec s i l) (hv : Lib.validD s.data.toList = true) (hi : i < s.size) : (ptAt s i).2 ≠ 0 := fun e => by
  rw [h.bad hi e] at hv; cases hv
theorem pt_le {s : ByteArray} {i : Nat} (hn : (ptAt s i).2 ≠ 0) : (ptAt s i).1 ≤ 1114111 := by
  obtain ⟨g1, g2⟩ := pt_good hn
  rw [g2, Lib.decode_at]
  rw [Lib.decode_at] at g1
  rcases Lib.decodeN_shape (s.size - i) (s.get! i).toNat (s.get! (i + 1)).toNat (s.get! (i + 2)).toNat (s.get! (i + 3)).toNat with ⟨c, e⟩ | ⟨c1, c2, c3, cv, e⟩ | ⟨c1, c2, c3, c4, cv, cs, e⟩ | ⟨c1, c2, c3, c4, c5, cv, cw, e⟩ | e
  · rw [e]; simp only; omega
  · rw [e]; simp only; omega
  · rw [e]; simp only; omega
  · rw [e]; simp only; omega
  · exact absurd e g1
set_option maxRecDepth 100000 in
set_option maxHeartbeats 2000000 in
theorem lpoints_any (s : ByteArray) (w : World) (hs : s.size ≤ 1000000) (hv : Lib.validD s.data.toList = true) :
    Calls Tryd.prog 18 #[.string s] w fun e w' => ∃ A c l, e = .returned (.slice A l.length c) ∧ Dec s s.size l ∧ IntsAt w' w'.heap.size A l ∧ Below w.heap.size w w' := by
  have Hs := Lib.hid hs
  have HV := Lib.hid hv
  clear hs hv
  go_enter Tryd.func18, Tryd.ntmps18
  go_wp2_with fail
  go_loopw [3] (fun out wr => ∃ (k : Nat) (l : List Int), k ≤ s.size ∧ Hid (wr.heap[w.heap.size]? = some (.stringIter s k)) ∧ ZOwn wr (w.heap.size + 1) out l ∧ Hid (Dec s k l) ∧ Below w.heap.size w wr) (fun _ wr => s.size - wr.iterPos w.heap.size)
  case atStart => exact ⟨0, [], Nat.zero_le _, World.iter_heap w s 0, .empty _ _, .nil, (Below.refl _ w).alloc (Nat.le_refl _) _⟩
  case round =>
    obtain ⟨k, l, hk, hit, hz, hd, hb⟩ := hrel
    by_cases hks : k < s.size
    · have hn0 := hd.out.go HV.out hks
      obtain ⟨g1, g2⟩ := pt_good hn0
      have hle := pt_le hn0
      have HD : Hid (Dec s (k + (ptAt s k).2) (l ++ [((ptAt s k).1 : Int)])) := .step hd.out hks hn0
      have hkn : Hid (k + (ptAt s k).2 ≤ s.size) := HD.out.valid.1
      have hll : l.length ≤ 1000000000 := by have := hd.out.valid; have := Hs.out; omega
      have hnx : ∀ ty, (Instr.next (.pointer (some ⟨w.heap.size, 0, none⟩)) true ty).run Tryd.prog wr = _ := fun ty => Lib.run_next_any_at wr w.heap.size s k ty hit.out hks
      rw [← g2] at hnx
      obtain ⟨c, hc⟩ : ∃ c, (ptAt s k).1 = c := ⟨_, rfl⟩
      obtain ⟨n, hn⟩ : ∃ n, (ptAt s k).2 = n := ⟨_, rfl⟩
      rw [hc, hn] at hnx HD
      rw [hn] at hkn hn0
      rw [hc] at hle
      obtain ⟨W1, hW1⟩ : ∃ W1, wr.iterAt w.heap.size s (k + n) = W1 := ⟨_, rfl⟩
      have HI1 : Hid (W1.heap[w.heap.size]? = some (.stringIter s (k + n))) := by rw [← hW1]; exact Lib.iterAt_heap wr _ s k (k + n) hit.out
      have hlt : w.heap.size < wr.heap.size := (Array.getElem?_eq_some_iff.1 hit.out).1
      have hs1 : W1.heap.size = wr.heap.size := by rw [← hW1]; exact Lib.iterAt_size _ _ _ _
      have Hb1 : Hid (Below w.heap.size w W1) := by rw [← hW1]; exact Lib.below_iterAt hb (Nat.le_refl _) s (k + n)
      have hz1 : ZOwn W1 (w.heap.size + 1) u3 l := by
        refine ⟨?_, hz.nil⟩
        refine ⟨hz.own.1, ?_⟩
        rcases hz.own.2 with h0 | ⟨g, cap, cur, e, hB, hg, r⟩
        · exact .inl h0
        · refine .inr ⟨g, cap, cur, e, hB, ?_, r⟩
          rw [← hW1]
          exact (Lib.iterAt_other wr w.heap.size g s (k + n) (by omega)).trans hg
      rw [hW1] at hnx
      have hB1 : w.heap.size + 1 ≤ W1.heap.size := by omega
      have hcw : wrap64 (c : Int) = c := IntWalk.wrap64_in _ (by omega)
      have HM : Hid (∀ W', Below (w.heap.size + 1) W1 W' → W'.heap[w.heap.size]? = some (.stringIter s (k + n)) ∧ Below w.heap.size w W' ∧ s.size - W'.iterPos w.heap.size < s.size - wr.iterPos w.heap.size) := fun W' h => by
        have e1 : W'.heap[w.heap.size]? = some (.stringIter s (k + n)) := (h.block w.heap.size (by omega)).trans HI1.out
        refine ⟨e1, Hb1.out.trans (h.mono (by omega)), ?_⟩
        have p1 : W'.iterPos w.heap.size = k + n := by simp only [World.iterPos, e1]
        have p2 : wr.iterPos w.heap.size = k := by simp only [World.iterPos, hit.out]
        rw [p1, p2]; omega
      clear hW1 hs1 hlt hc hn g1 g2 hz hb hit HI1 hle
      go_wp2_with (at_builtin; refine wpList_appZ rfl _ _ _ rfl rfl (w.heap.size + 1) u3 l c rfl hz1 _ rfl rfl hll hB1 ?_; intro v' w' hz' hb'; have HM' := Lib.hid (HM.out w' hb'); clear hb')
      exact ⟨⟨k + n, l ++ [(c : Int)], hkn.out, HM'.out.1, hz', HD, HM'.out.2.1⟩, HM'.out.2.2⟩
    · obtain rfl : k = s.size := by omega
      have hnx : ∀ ty, (Instr.next (.pointer (some ⟨w.heap.size, 0, none⟩)) true ty).run Tryd.prog wr = _ := fun ty => Lib.run_next_end_at wr w.heap.size s s.size ty hit.out hks
      obtain ⟨A', c', rfl, h1, h2, h3⟩ := hz.form
      have H2 := Lib.hid h2
      have Hb := Lib.hid hb
      clear h2 hb
      go_wp2_with fail
      go_ret
      exact ⟨A', c', l, rfl, hd.out, H2.out, Hb.out⟩
end Go.Proofs.YtnofdlpifpjlbaaDoor
