/- The example of the document (marginalialaw22). Condition: utf8's tables lie in the world. -/
import Derived.Test.YtdcbngimgpdjoaaDoorJs
namespace Go.Proofs.YtdcbngimgpdjoaaDoor
open Go.RowKit Go.Shelf Go.Deep
/-- A row of nodes, and one of ints, as a literal lays them. -/
theorem nds_lit {W : World} {B b : Nat} {L : List NdK} {cs : Array Value} {t : TypeId} (hb : b < B) (h : W.heap[b]? = some (.cells cs t (0, 0))) (hc : cs.toList = nrows L) (hk : ∀ e ∈ L, IntsAt W B e.2.1 e.1.kids ∧ e.1.kids.length ≤ e.2.2 ∧ (e.2.1 = none → e.2.2 = 0)) :
    NdsAt W B (some ⟨b, 0, none⟩) (L.map (·.1)) := fun _ => by
  refine ⟨b, 0, rfl, hb, fun k hk' => ?_⟩
  rw [List.length_map] at hk'
  have hcell : ∀ j, j < 5 → W.cell? ⟨b, 0 + k * 5 + j, none⟩ = (nrow L[k])[j]? := fun j hj => by
    rw [Lib.cell_of_heap h, ← nrows_get L k j hk' hj, ← hc, Array.getElem?_toList, Nat.zero_add]
  have hnd : nd (L.map (·.1)) k = L[k].1 := by simp [nd, hk']
  rw [hnd]
  obtain ⟨h1, h2, h3⟩ := hk L[k] (List.getElem_mem hk')
  exact ⟨L[k].2.1, L[k].2.2, ⟨hcell 0 (by omega), hcell 1 (by omega), hcell 2 (by omega), hcell 3 (by omega), hcell 4 (by omega), h1, h2, h3⟩⟩
theorem ints_lit {W : World} {B b : Nat} {l : List Int} {cs : Array Value} {t : TypeId} (hb : b < B) (h : W.heap[b]? = some (.cells cs t (0, 0))) (hc : cs.toList = l.map (Value.int .i64)) : IntsAt W B (some ⟨b, 0, none⟩) l := fun _ => by
  refine ⟨b, 0, rfl, hb, fun k hk => ?_⟩
  rw [Lib.cell_of_heap h, ← Array.getElem?_toList, hc]
  simp [nth, hk]
theorem ints_none {W : World} {B : Nat} {A : Option Addr} : IntsAt W B A [] := fun h => by simp at h
def alA : Gr := ⟨[⟨2, ⟨#[120]⟩, ⟨#[]⟩, [1], false⟩, ⟨1, ⟨#[120]⟩, ⟨#[]⟩, [], false⟩], [0]⟩
def alB : Gr := ⟨[⟨1, ⟨#[120]⟩, ⟨#[]⟩, [], false⟩, ⟨2, ⟨#[120]⟩, ⟨#[]⟩, [0], false⟩], [1]⟩
def alE : Gr := ⟨[], []⟩
theorem al_same : sameB alA alB = true := by kernel_rfl
theorem al_other : sameB alA alE = false := by kernel_rfl
theorem al_ok : alA.ok ∧ alB.ok ∧ alE.ok := by
  have h1 : ∀ k : List Int, (k = [1] ∨ k = [0] ∨ k = []) → k.length ≤ maxLen ∧ k.length ≤ 1000000000000 ∧ ∀ z ∈ k, (Lit.int .i64 z).wf = true := fun k hk => by
    rcases hk with rfl | rfl | rfl <;> simp [maxLen] <;> decide
  have h2 : ∀ (c : Int) (k : List Int), (c = 1 ∨ c = 2) → (k = [1] ∨ k = [0] ∨ k = []) → (Nd.mk c ⟨#[120]⟩ ⟨#[]⟩ k false).ok := fun c k hc hk => by
    obtain ⟨a1, _, a3⟩ := h1 k hk
    refine ⟨by rcases hc with rfl | rfl <;> rfl, by show (1 : Nat) ≤ _; decide, by show (0 : Nat) ≤ _; decide, a1, a3⟩
  refine ⟨⟨by simp [alA, maxLen], by simp [alA, maxLen], fun e he => ?_, fun e he => ?_⟩, ⟨by simp [alB, maxLen], by simp [alB, maxLen], fun e he => ?_, fun e he => ?_⟩, ⟨by simp [alE], by simp [alE], fun e he => by simp [alE] at he, fun e he => by simp [alE] at he⟩⟩
  · simp [alA] at he; rcases he with rfl | rfl <;> exact h2 _ _ (by simp) (by simp)
  · simp [alA] at he; rcases he with rfl | rfl <;> simp
  · simp [alB] at he; rcases he with rfl | rfl <;> exact h2 _ _ (by simp) (by simp)
  · simp [alB] at he; rcases he with rfl | rfl <;> simp
set_option maxRecDepth 100000 in
set_option maxHeartbeats 2000000 in
theorem alive22_any (w : World) (hT : Tabs w) :
    Calls Tryd.prog 29 #[] w fun e w' => e = .returned (.bool true) ∧ Below w.heap.size w w' := by
  obtain ⟨V1, h1, b1, r1, s1⟩ := boxCs w #[.int .i64 1] 3
  obtain ⟨V2, h2, b2, r2, s2⟩ := boxCs V1 #[.int .i64 2, .string ⟨#[120]⟩, .string ⟨#[]⟩, .slice (some ⟨w.heap.size, 0, none⟩) 1 1, .bool false, .int .i64 1, .string ⟨#[120]⟩, .string ⟨#[]⟩, .slice none 0 0, .bool false] 33
  obtain ⟨V3, h3, b3, r3, s3⟩ := boxCs V2 #[.int .i64 0] 3
  obtain ⟨V4, h4, b4, r4, s4⟩ := boxCs V3 #[.slice (some ⟨w.heap.size + 1, 0, none⟩) 2 2, .slice (some ⟨w.heap.size + 1 + 1, 0, none⟩) 1 1] 25
  obtain ⟨V5, h5, b5, r5, s5⟩ := boxCs V4 #[.int .i64 0] 3
  obtain ⟨V6, h6, b6, r6, s6⟩ := boxCs V5 #[.int .i64 1, .string ⟨#[120]⟩, .string ⟨#[]⟩, .slice none 0 0, .bool false, .int .i64 2, .string ⟨#[120]⟩, .string ⟨#[]⟩, .slice (some ⟨w.heap.size + 1 + 1 + 1 + 1, 0, none⟩) 1 1, .bool false] 33
  obtain ⟨V7, h7, b7, r7, s7⟩ := boxCs V6 #[.int .i64 1] 3
  obtain ⟨V8, h8, b8, r8, s8⟩ := boxCs V7 #[.slice (some ⟨w.heap.size + 1 + 1 + 1 + 1 + 1, 0, none⟩) 2 2, .slice (some ⟨w.heap.size + 1 + 1 + 1 + 1 + 1 + 1, 0, none⟩) 1 1] 25
  have HB := Lib.hid (below_then b1 (below_then b2 (below_then b3 (below_then b4 (below_then b5 (below_then b6 (below_then b7 (b8))))))))
  have HRow : Hid (∀ W, Below V8.heap.size V8 W → W.heap[w.heap.size]? = some (.cells #[.int .i64 1] 3 (0, 0)) ∧ W.heap[w.heap.size + 1]? = some (.cells #[.int .i64 2, .string ⟨#[120]⟩, .string ⟨#[]⟩, .slice (some ⟨w.heap.size, 0, none⟩) 1 1, .bool false, .int .i64 1, .string ⟨#[120]⟩, .string ⟨#[]⟩, .slice none 0 0, .bool false] 33 (0, 0)) ∧ W.heap[w.heap.size + 1 + 1]? = some (.cells #[.int .i64 0] 3 (0, 0)) ∧ W.heap[w.heap.size + 1 + 1 + 1]? = some (.cells #[.slice (some ⟨w.heap.size + 1, 0, none⟩) 2 2, .slice (some ⟨w.heap.size + 1 + 1, 0, none⟩) 1 1] 25 (0, 0)) ∧ W.heap[w.heap.size + 1 + 1 + 1 + 1]? = some (.cells #[.int .i64 0] 3 (0, 0)) ∧ W.heap[w.heap.size + 1 + 1 + 1 + 1 + 1]? = some (.cells #[.int .i64 1, .string ⟨#[120]⟩, .string ⟨#[]⟩, .slice none 0 0, .bool false, .int .i64 2, .string ⟨#[120]⟩, .string ⟨#[]⟩, .slice (some ⟨w.heap.size + 1 + 1 + 1 + 1, 0, none⟩) 1 1, .bool false] 33 (0, 0)) ∧ W.heap[w.heap.size + 1 + 1 + 1 + 1 + 1 + 1]? = some (.cells #[.int .i64 1] 3 (0, 0)) ∧ W.heap[w.heap.size + 1 + 1 + 1 + 1 + 1 + 1 + 1]? = some (.cells #[.slice (some ⟨w.heap.size + 1 + 1 + 1 + 1 + 1, 0, none⟩) 2 2, .slice (some ⟨w.heap.size + 1 + 1 + 1 + 1 + 1 + 1, 0, none⟩) 1 1] 25 (0, 0))) := fun W hW => by
    refine ⟨?_, ?_, ?_, ?_, ?_, ?_, ?_, ?_⟩
    · exact (hW.block _ (by omega)).trans ((b8.block _ (by omega)).trans ((b7.block _ (by omega)).trans ((b6.block _ (by omega)).trans ((b5.block _ (by omega)).trans ((b4.block _ (by omega)).trans ((b3.block _ (by omega)).trans ((b2.block _ (by omega)).trans (r1))))))))
    · rw [show w.heap.size + 1 = V1.heap.size by omega]; exact (hW.block _ (by omega)).trans ((b8.block _ (by omega)).trans ((b7.block _ (by omega)).trans ((b6.block _ (by omega)).trans ((b5.block _ (by omega)).trans ((b4.block _ (by omega)).trans ((b3.block _ (by omega)).trans (r2)))))))
    · rw [show w.heap.size + 1 + 1 = V2.heap.size by omega]; exact (hW.block _ (by omega)).trans ((b8.block _ (by omega)).trans ((b7.block _ (by omega)).trans ((b6.block _ (by omega)).trans ((b5.block _ (by omega)).trans ((b4.block _ (by omega)).trans (r3))))))
    · rw [show w.heap.size + 1 + 1 + 1 = V3.heap.size by omega]; exact (hW.block _ (by omega)).trans ((b8.block _ (by omega)).trans ((b7.block _ (by omega)).trans ((b6.block _ (by omega)).trans ((b5.block _ (by omega)).trans (r4)))))
    · rw [show w.heap.size + 1 + 1 + 1 + 1 = V4.heap.size by omega]; exact (hW.block _ (by omega)).trans ((b8.block _ (by omega)).trans ((b7.block _ (by omega)).trans ((b6.block _ (by omega)).trans (r5))))
    · rw [show w.heap.size + 1 + 1 + 1 + 1 + 1 = V5.heap.size by omega]; exact (hW.block _ (by omega)).trans ((b8.block _ (by omega)).trans ((b7.block _ (by omega)).trans (r6)))
    · rw [show w.heap.size + 1 + 1 + 1 + 1 + 1 + 1 = V6.heap.size by omega]; exact (hW.block _ (by omega)).trans ((b8.block _ (by omega)).trans (r7))
    · rw [show w.heap.size + 1 + 1 + 1 + 1 + 1 + 1 + 1 = V7.heap.size by omega]; exact (hW.block _ (by omega)).trans (r8)
  have HG : Hid (∀ W, Below V8.heap.size V8 W → GrAt W W.heap.size alA (.agg #[.slice (some ⟨w.heap.size + 1, 0, none⟩) 2 2, .slice (some ⟨w.heap.size + 1 + 1, 0, none⟩) 1 1]) ∧ GrAt W W.heap.size alB (.agg #[.slice (some ⟨w.heap.size + 1 + 1 + 1 + 1 + 1, 0, none⟩) 2 2, .slice (some ⟨w.heap.size + 1 + 1 + 1 + 1 + 1 + 1, 0, none⟩) 1 1]) ∧ Tabs W ∧ W.cell? ⟨w.heap.size + 1 + 1 + 1, 0, none⟩ = some (.slice (some ⟨w.heap.size + 1, 0, none⟩) 2 2) ∧ W.cell? ⟨w.heap.size + 1 + 1 + 1, 1, none⟩ = some (.slice (some ⟨w.heap.size + 1 + 1, 0, none⟩) 1 1) ∧ W.cell? ⟨w.heap.size + 1 + 1 + 1 + 1 + 1 + 1 + 1, 0, none⟩ = some (.slice (some ⟨w.heap.size + 1 + 1 + 1 + 1 + 1, 0, none⟩) 2 2) ∧ W.cell? ⟨w.heap.size + 1 + 1 + 1 + 1 + 1 + 1 + 1, 1, none⟩ = some (.slice (some ⟨w.heap.size + 1 + 1 + 1 + 1 + 1 + 1, 0, none⟩) 1 1) ∧ Below w.heap.size w W) := fun W hW => by
    have hs := hW.size
    obtain ⟨q0, q1, q2, q3, q4, q5, q6, q7⟩ := HRow.out W hW
    have hwW := below_then HB.out hW
    refine ⟨?_, ?_, hT.below hwW, Lib.cell_of_heap q3 0, Lib.cell_of_heap q3 1, Lib.cell_of_heap q7 0, Lib.cell_of_heap q7 1, hwW⟩
    · exact ⟨_, 2, _, 1, rfl, nds_lit (L := ([(⟨2, ⟨#[120]⟩, ⟨#[]⟩, [1], false⟩, (some ⟨w.heap.size, 0, none⟩), 1), (⟨1, ⟨#[120]⟩, ⟨#[]⟩, [], false⟩, none, 0)] : List NdK)) (by omega) q1 rfl (by
      intro e he
      simp only [List.mem_cons, List.not_mem_nil, or_false] at he
      rcases he with rfl | rfl
      · exact ⟨ints_lit (by omega) q0 rfl, by simp, by simp⟩
      · exact ⟨ints_none, by simp, by simp⟩), ints_lit (by omega) q2 rfl⟩
    · exact ⟨_, 2, _, 1, rfl, nds_lit (L := ([(⟨1, ⟨#[120]⟩, ⟨#[]⟩, [], false⟩, none, 0), (⟨2, ⟨#[120]⟩, ⟨#[]⟩, [0], false⟩, (some ⟨w.heap.size + 1 + 1 + 1 + 1, 0, none⟩), 1)] : List NdK)) (by omega) q5 rfl (by
      intro e he
      simp only [List.mem_cons, List.not_mem_nil, or_false] at he
      rcases he with rfl | rfl
      · exact ⟨ints_none, by simp, by simp⟩
      · exact ⟨ints_lit (by omega) q4 rfl, by simp, by simp⟩), ints_lit (by omega) q6 rfl⟩
  have HS1 : Hid (Calls Tryd.prog 30 #[.agg #[.slice (some ⟨w.heap.size + 1, 0, none⟩) 2 2, .slice (some ⟨w.heap.size + 1 + 1, 0, none⟩) 1 1], .agg #[.slice (some ⟨w.heap.size + 1 + 1 + 1 + 1 + 1, 0, none⟩) 2 2, .slice (some ⟨w.heap.size + 1 + 1 + 1 + 1 + 1 + 1, 0, none⟩) 1 1]] V8 fun e w' => e = .returned (.bool true) ∧ Below V8.heap.size V8 w') := by
    obtain ⟨g1, g2, g3, _⟩ := HG.out V8 (Below.refl _ _)
    have := Same_any alA alB _ _ V8 g1 g2 al_ok.1 al_ok.2.1 g3
    rwa [al_same] at this
  have HS2 : Hid (∀ W, Below V8.heap.size V8 W → Calls Tryd.prog 30 #[.agg #[.slice (some ⟨w.heap.size + 1, 0, none⟩) 2 2, .slice (some ⟨w.heap.size + 1 + 1, 0, none⟩) 1 1], .agg #[.slice none 0 0, .slice none 0 0]] W fun e w' => e = .returned (.bool false) ∧ Below W.heap.size W w') := fun W hW => by
    obtain ⟨g1, _, g3, _⟩ := HG.out W hW
    have := Same_any alA alE _ (.agg #[.slice none 0 0, .slice none 0 0]) W g1 ⟨none, 0, none, 0, rfl, NdsAt.nil, ints_none⟩ al_ok.1 al_ok.2.2 g3
    rwa [al_other] at this
  have HC : Hid (∀ W, Below V8.heap.size V8 W → W.cell? ⟨w.heap.size + 1 + 1 + 1, 0, none⟩ = some (.slice (some ⟨w.heap.size + 1, 0, none⟩) 2 2) ∧ W.cell? ⟨w.heap.size + 1 + 1 + 1, 1, none⟩ = some (.slice (some ⟨w.heap.size + 1 + 1, 0, none⟩) 1 1) ∧ W.cell? ⟨w.heap.size + 1 + 1 + 1 + 1 + 1 + 1 + 1, 0, none⟩ = some (.slice (some ⟨w.heap.size + 1 + 1 + 1 + 1 + 1, 0, none⟩) 2 2) ∧ W.cell? ⟨w.heap.size + 1 + 1 + 1 + 1 + 1 + 1 + 1, 1, none⟩ = some (.slice (some ⟨w.heap.size + 1 + 1 + 1 + 1 + 1 + 1, 0, none⟩) 1 1) ∧ Below w.heap.size w W) := fun W hW => (HG.out W hW).2.2.2
  obtain ⟨y0, y1, y2, y3, _⟩ := HC.out V8 (Below.refl _ _)
  clear hT HG HRow b1 r1 b2 r2 b3 r3 b4 r4 b5 r5 b6 r6 b7 r7 b8 r8
  go_enter Tryd.func29, Tryd.ntmps29
  go_wp2_with (first
    | (go_at_call 30; with_reducible refine HS1.out.mono ?_; rintro e w1 ⟨rfl, hb1⟩; obtain ⟨x0, x1, x2, x3, _⟩ := HC.out w1 hb1; have Hb1 := Lib.hid hb1; clear hb1)
    | (go_at_call 30; with_reducible refine (HS2.out w1 Hb1.out).mono ?_; rintro e w2 ⟨rfl, hb2⟩; have Hb2 := Lib.hid (below_then (HC.out w1 Hb1.out).2.2.2.2 hb2); clear hb2))
  go_ret
  exact ⟨by first | rfl | simp, Hb2.out⟩
end Go.Proofs.YtdcbngimgpdjoaaDoor
