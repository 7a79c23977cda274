/- The law GraphWrong. Condition: utf8's tables lie in the world. (Printed by gwrong.py.) -/
import Derived.Test.YtdcbngimgpdjoaaDoorGal
namespace Go.Proofs.YtdcbngimgpdjoaaDoor
open Go.RowKit Go.Shelf Go.Deep
theorem ints_two {W : World} {B b : Nat} {x y : Int} {t : TypeId} (hb : b < B) (h : W.heap[b]? = some (.cells #[.int .i64 x, .int .i64 y] t (0, 0))) : IntsAt W B (some ⟨b, 0, none⟩) [x, y] := by
  intro _
  refine ⟨b, 0, rfl, hb, fun k hk => ?_⟩
  match k, hk with
  | 0, _ => exact Lib.cell_of_heap h 0
  | 1, _ => exact Lib.cell_of_heap h 1
  | k + 2, hk => simp at hk; omega
def wrong0 : Gr := ⟨[⟨1, ⟨#[]⟩, ⟨#[]⟩, [], false⟩], []⟩
theorem wrong0_right : rightB wrong0 = false := by kernel_rfl
theorem wrong0_ok : wrong0.ok := by
  refine ⟨by decide, by decide, fun e he => ?_, fun e he => ?_⟩
  · simp only [wrong0, List.mem_singleton] at he; subst he; exact ⟨by decide, by decide, by decide, by decide, by simp⟩
  · simp only [wrong0, List.mem_singleton] at he; subst he; simp
def wrong1 : Gr := ⟨[⟨1, ⟨#[33]⟩, ⟨#[]⟩, [], false⟩], []⟩
theorem wrong1_right : rightB wrong1 = false := by kernel_rfl
theorem wrong1_ok : wrong1.ok := by
  refine ⟨by decide, by decide, fun e he => ?_, fun e he => ?_⟩
  · simp only [wrong1, List.mem_singleton] at he; subst he; exact ⟨by decide, by decide, by decide, by decide, by simp⟩
  · simp only [wrong1, List.mem_singleton] at he; subst he; simp
def wrong2 : Gr := ⟨[⟨1, ⟨#[97, 32, 98]⟩, ⟨#[]⟩, [], false⟩], []⟩
theorem wrong2_right : rightB wrong2 = false := by kernel_rfl
theorem wrong2_ok : wrong2.ok := by
  refine ⟨by decide, by decide, fun e he => ?_, fun e he => ?_⟩
  · simp only [wrong2, List.mem_singleton] at he; subst he; exact ⟨by decide, by decide, by decide, by decide, by simp⟩
  · simp only [wrong2, List.mem_singleton] at he; subst he; simp
def wrong3 : Gr := ⟨[⟨1, ⟨#[120]⟩, ⟨#[255]⟩, [], false⟩], []⟩
theorem wrong3_right : rightB wrong3 = false := by kernel_rfl
theorem wrong3_ok : wrong3.ok := by
  refine ⟨by decide, by decide, fun e he => ?_, fun e he => ?_⟩
  · simp only [wrong3, List.mem_singleton] at he; subst he; exact ⟨by decide, by decide, by decide, by decide, by simp⟩
  · simp only [wrong3, List.mem_singleton] at he; subst he; simp
def wrong4 : Gr := ⟨[⟨1, ⟨#[120]⟩, ⟨#[]⟩, [0], false⟩], []⟩
theorem wrong4_right : rightB wrong4 = false := by kernel_rfl
theorem wrong4_ok : wrong4.ok := by
  refine ⟨by decide, by decide, fun e he => ?_, fun e he => ?_⟩
  · simp only [wrong4, List.mem_singleton] at he; subst he; exact ⟨by decide, by decide, by decide, by decide, by simp <;> rfl⟩
  · simp only [wrong4, List.mem_singleton] at he; subst he; simp
def wrong5 : Gr := ⟨[⟨2, ⟨#[120]⟩, ⟨#[97]⟩, [], false⟩], []⟩
theorem wrong5_right : rightB wrong5 = false := by kernel_rfl
theorem wrong5_ok : wrong5.ok := by
  refine ⟨by decide, by decide, fun e he => ?_, fun e he => ?_⟩
  · simp only [wrong5, List.mem_singleton] at he; subst he; exact ⟨by decide, by decide, by decide, by decide, by simp⟩
  · simp only [wrong5, List.mem_singleton] at he; subst he; simp
def wrong6 : Gr := ⟨[⟨2, ⟨#[120]⟩, ⟨#[]⟩, [], true⟩], []⟩
theorem wrong6_right : rightB wrong6 = false := by kernel_rfl
theorem wrong6_ok : wrong6.ok := by
  refine ⟨by decide, by decide, fun e he => ?_, fun e he => ?_⟩
  · simp only [wrong6, List.mem_singleton] at he; subst he; exact ⟨by decide, by decide, by decide, by decide, by simp⟩
  · simp only [wrong6, List.mem_singleton] at he; subst he; simp
def wrong7 : Gr := ⟨[⟨3, ⟨#[120]⟩, ⟨#[]⟩, [0], false⟩], []⟩
theorem wrong7_right : rightB wrong7 = false := by kernel_rfl
theorem wrong7_ok : wrong7.ok := by
  refine ⟨by decide, by decide, fun e he => ?_, fun e he => ?_⟩
  · simp only [wrong7, List.mem_singleton] at he; subst he; exact ⟨by decide, by decide, by decide, by decide, by simp <;> rfl⟩
  · simp only [wrong7, List.mem_singleton] at he; subst he; simp
def wrong8 : Gr := ⟨[⟨2, ⟨#[120]⟩, ⟨#[]⟩, [1], false⟩], []⟩
theorem wrong8_right : rightB wrong8 = false := by kernel_rfl
theorem wrong8_ok : wrong8.ok := by
  refine ⟨by decide, by decide, fun e he => ?_, fun e he => ?_⟩
  · simp only [wrong8, List.mem_singleton] at he; subst he; exact ⟨by decide, by decide, by decide, by decide, by simp <;> rfl⟩
  · simp only [wrong8, List.mem_singleton] at he; subst he; simp
def wrong9 : Gr := ⟨[⟨2, ⟨#[120]⟩, ⟨#[]⟩, [-1], false⟩], []⟩
theorem wrong9_right : rightB wrong9 = false := by kernel_rfl
theorem wrong9_ok : wrong9.ok := by
  refine ⟨by decide, by decide, fun e he => ?_, fun e he => ?_⟩
  · simp only [wrong9, List.mem_singleton] at he; subst he; exact ⟨by decide, by decide, by decide, by decide, by simp <;> rfl⟩
  · simp only [wrong9, List.mem_singleton] at he; subst he; simp
def wrong10 : Gr := ⟨[⟨4, ⟨#[120]⟩, ⟨#[]⟩, [], false⟩], []⟩
theorem wrong10_right : rightB wrong10 = false := by kernel_rfl
theorem wrong10_ok : wrong10.ok := by
  refine ⟨by decide, by decide, fun e he => ?_, fun e he => ?_⟩
  · simp only [wrong10, List.mem_singleton] at he; subst he; exact ⟨by decide, by decide, by decide, by decide, by simp⟩
  · simp only [wrong10, List.mem_singleton] at he; subst he; simp
def wrong11 : Gr := ⟨[⟨0, ⟨#[120]⟩, ⟨#[]⟩, [], false⟩], []⟩
theorem wrong11_right : rightB wrong11 = false := by kernel_rfl
theorem wrong11_ok : wrong11.ok := by
  refine ⟨by decide, by decide, fun e he => ?_, fun e he => ?_⟩
  · simp only [wrong11, List.mem_singleton] at he; subst he; exact ⟨by decide, by decide, by decide, by decide, by simp⟩
  · simp only [wrong11, List.mem_singleton] at he; subst he; simp
def wrong12 : Gr := ⟨[⟨1, ⟨#[120]⟩, ⟨#[97]⟩, [], false⟩], [1]⟩
theorem wrong12_right : rightB wrong12 = false := by kernel_rfl
theorem wrong12_ok : wrong12.ok := by
  refine ⟨by decide, by decide, fun e he => ?_, fun e he => ?_⟩
  · simp only [wrong12, List.mem_singleton] at he; subst he; exact ⟨by decide, by decide, by decide, by decide, by simp⟩
  · simp only [wrong12, List.mem_singleton] at he; subst he; simp
def wrong13 : Gr := ⟨[⟨1, ⟨#[120]⟩, ⟨#[97]⟩, [], false⟩], [0, -1]⟩
theorem wrong13_right : rightB wrong13 = false := by kernel_rfl
theorem wrong13_ok : wrong13.ok := by
  refine ⟨by decide, by decide, fun e he => ?_, fun e he => ?_⟩
  · simp only [wrong13, List.mem_singleton] at he; subst he; exact ⟨by decide, by decide, by decide, by decide, by simp⟩
  · simp only [wrong13, List.mem_singleton] at he; subst he; simp
def wrong14 : Gr := ⟨[], [0]⟩
theorem wrong14_right : rightB wrong14 = false := by kernel_rfl
theorem wrong14_ok : wrong14.ok := by
  exact ⟨by decide, by decide, by simp [wrong14], by simp [wrong14]⟩
def wrong15 : Gr := ⟨[⟨1, ⟨#[120]⟩, ⟨#[97]⟩, [], false⟩], [0, 0]⟩
theorem wrong15_right : rightB wrong15 = true := by kernel_rfl
theorem wrong15_ok : wrong15.ok := by
  refine ⟨by decide, by decide, fun e he => ?_, fun e he => ?_⟩
  · simp only [wrong15, List.mem_singleton] at he; subst he; exact ⟨by decide, by decide, by decide, by decide, by simp⟩
  · simp only [wrong15, List.mem_singleton] at he; subst he; simp
def wrong16 : Gr := ⟨[], []⟩
theorem wrong16_right : rightB wrong16 = true := by kernel_rfl
theorem wrong16_ok : wrong16.ok := by
  exact ⟨by decide, by decide, by simp [wrong16], by simp [wrong16]⟩
theorem wrong_rows (w1 : World) (hT : Tabs w1) : ∃ V2 V3 V4 V5 V6 V7 V8 V9 V10 V11 V12 V13 V14 V15 V16 V17 V18 V19 V20 V21 V22 V23 : World, (w1.alloc (.cells #[.int .i64 1, .string ⟨#[120]⟩, .string ⟨#[97]⟩, .slice none 0 0, .bool false] 33)).alloc (.cells #[.int .i64 1, .string ⟨#[]⟩, .string ⟨#[]⟩, .slice none 0 0, .bool false] 33) = V2 ∧ V2.alloc (.cells #[.int .i64 1, .string ⟨#[33]⟩, .string ⟨#[]⟩, .slice none 0 0, .bool false] 33) = V3 ∧ V3.alloc (.cells #[.int .i64 1, .string ⟨#[97, 32, 98]⟩, .string ⟨#[]⟩, .slice none 0 0, .bool false] 33) = V4 ∧ V4.alloc (.cells #[.int .i64 1, .string ⟨#[120]⟩, .string ⟨#[255]⟩, .slice none 0 0, .bool false] 33) = V5 ∧ V5.alloc (.cells #[.int .i64 0] 3) = V6 ∧ V6.alloc (.cells #[.int .i64 1, .string ⟨#[120]⟩, .string ⟨#[]⟩, .slice (some ⟨V5.heap.size, 0, none⟩) 1 1, .bool false] 33) = V7 ∧ V7.alloc (.cells #[.int .i64 2, .string ⟨#[120]⟩, .string ⟨#[97]⟩, .slice none 0 0, .bool false] 33) = V8 ∧ V8.alloc (.cells #[.int .i64 2, .string ⟨#[120]⟩, .string ⟨#[]⟩, .slice none 0 0, .bool true] 33) = V9 ∧ V9.alloc (.cells #[.int .i64 0] 3) = V10 ∧ V10.alloc (.cells #[.int .i64 3, .string ⟨#[120]⟩, .string ⟨#[]⟩, .slice (some ⟨V9.heap.size, 0, none⟩) 1 1, .bool false] 33) = V11 ∧ V11.alloc (.cells #[.int .i64 1] 3) = V12 ∧ V12.alloc (.cells #[.int .i64 2, .string ⟨#[120]⟩, .string ⟨#[]⟩, .slice (some ⟨V11.heap.size, 0, none⟩) 1 1, .bool false] 33) = V13 ∧ V13.alloc (.cells #[.int .i64 (-1)] 3) = V14 ∧ V14.alloc (.cells #[.int .i64 2, .string ⟨#[120]⟩, .string ⟨#[]⟩, .slice (some ⟨V13.heap.size, 0, none⟩) 1 1, .bool false] 33) = V15 ∧ V15.alloc (.cells #[.int .i64 4, .string ⟨#[120]⟩, .string ⟨#[]⟩, .slice none 0 0, .bool false] 33) = V16 ∧ V16.alloc (.cells #[.int .i64 0, .string ⟨#[120]⟩, .string ⟨#[]⟩, .slice none 0 0, .bool false] 33) = V17 ∧ V17.alloc (.cells #[.int .i64 1, .string ⟨#[120]⟩, .string ⟨#[97]⟩, .slice none 0 0, .bool false] 33) = V18 ∧ V18.alloc (.cells #[.int .i64 1] 3) = V19 ∧ V19.alloc (.cells #[.int .i64 1, .string ⟨#[120]⟩, .string ⟨#[97]⟩, .slice none 0 0, .bool false] 33) = V20 ∧ V20.alloc (.cells #[.int .i64 0, .int .i64 (-1)] 3) = V21 ∧ V21.alloc (.cells #[.int .i64 0] 3) = V22 ∧ V22.alloc (.cells #[.slice (some ⟨w1.heap.size + 1, 0, none⟩) 1 1, .slice none 0 0, .slice (some ⟨V2.heap.size, 0, none⟩) 1 1, .slice none 0 0, .slice (some ⟨V3.heap.size, 0, none⟩) 1 1, .slice none 0 0, .slice (some ⟨V4.heap.size, 0, none⟩) 1 1, .slice none 0 0, .slice (some ⟨V6.heap.size, 0, none⟩) 1 1, .slice none 0 0, .slice (some ⟨V7.heap.size, 0, none⟩) 1 1, .slice none 0 0, .slice (some ⟨V8.heap.size, 0, none⟩) 1 1, .slice none 0 0, .slice (some ⟨V10.heap.size, 0, none⟩) 1 1, .slice none 0 0, .slice (some ⟨V12.heap.size, 0, none⟩) 1 1, .slice none 0 0, .slice (some ⟨V14.heap.size, 0, none⟩) 1 1, .slice none 0 0, .slice (some ⟨V15.heap.size, 0, none⟩) 1 1, .slice none 0 0, .slice (some ⟨V16.heap.size, 0, none⟩) 1 1, .slice none 0 0, .slice (some ⟨V17.heap.size, 0, none⟩) 1 1, .slice (some ⟨V18.heap.size, 0, none⟩) 1 1, .slice (some ⟨V19.heap.size, 0, none⟩) 1 1, .slice (some ⟨V20.heap.size, 0, none⟩) 2 2, .slice none 0 0, .slice (some ⟨V21.heap.size, 0, none⟩) 1 1] 25) = V23 ∧
    (V17.cell? ⟨w1.heap.size, 0, none⟩ = some (.int .i64 1) ∧ V17.cell? ⟨w1.heap.size, 1, none⟩ = some (.string ⟨#[120]⟩) ∧ V17.cell? ⟨w1.heap.size, 2, none⟩ = some (.string ⟨#[97]⟩) ∧ V17.cell? ⟨w1.heap.size, 3, none⟩ = some (.slice none 0 0) ∧ V17.cell? ⟨w1.heap.size, 4, none⟩ = some (.bool false)) ∧ (V19.cell? ⟨w1.heap.size, 0, none⟩ = some (.int .i64 1) ∧ V19.cell? ⟨w1.heap.size, 1, none⟩ = some (.string ⟨#[120]⟩) ∧ V19.cell? ⟨w1.heap.size, 2, none⟩ = some (.string ⟨#[97]⟩) ∧ V19.cell? ⟨w1.heap.size, 3, none⟩ = some (.slice none 0 0) ∧ V19.cell? ⟨w1.heap.size, 4, none⟩ = some (.bool false)) ∧
    Hid (Below w1.heap.size w1 V23) ∧ Hid (∀ W, Below V23.heap.size V23 W → Tabs W ∧ W.cell? ⟨w1.heap.size, 0, none⟩ = some (.int .i64 1) ∧ W.cell? ⟨w1.heap.size, 1, none⟩ = some (.string ⟨#[120]⟩) ∧ W.cell? ⟨w1.heap.size, 2, none⟩ = some (.string ⟨#[97]⟩) ∧ W.cell? ⟨w1.heap.size, 3, none⟩ = some (.slice none 0 0) ∧ W.cell? ⟨w1.heap.size, 4, none⟩ = some (.bool false)) ∧
    Hid (∀ W k, Below V23.heap.size V23 W → k < 15 → ∃ s1 s2 G, W.cell? ⟨V22.heap.size, k * 2, none⟩ = some s1 ∧ W.cell? ⟨V22.heap.size, k * 2 + 1, none⟩ = some s2 ∧ GrAt W W.heap.size G (.agg #[s1, s2]) ∧ G.ok ∧ rightB G = false) := by
  obtain ⟨V1, h1, b1, r1, s1⟩ := boxN w1 #[.int .i64 1, .string ⟨#[120]⟩, .string ⟨#[97]⟩, .slice none 0 0, .bool false] 33
  obtain ⟨V2, h2, b2, r2, s2⟩ := boxN V1 #[.int .i64 1, .string ⟨#[]⟩, .string ⟨#[]⟩, .slice none 0 0, .bool false] 33
  obtain ⟨V3, h3, b3, r3, s3⟩ := boxN V2 #[.int .i64 1, .string ⟨#[33]⟩, .string ⟨#[]⟩, .slice none 0 0, .bool false] 33
  obtain ⟨V4, h4, b4, r4, s4⟩ := boxN V3 #[.int .i64 1, .string ⟨#[97, 32, 98]⟩, .string ⟨#[]⟩, .slice none 0 0, .bool false] 33
  obtain ⟨V5, h5, b5, r5, s5⟩ := boxN V4 #[.int .i64 1, .string ⟨#[120]⟩, .string ⟨#[255]⟩, .slice none 0 0, .bool false] 33
  obtain ⟨V6, h6, b6, r6, s6⟩ := boxN V5 #[.int .i64 0] 3
  obtain ⟨V7, h7, b7, r7, s7⟩ := boxN V6 #[.int .i64 1, .string ⟨#[120]⟩, .string ⟨#[]⟩, .slice (some ⟨V5.heap.size, 0, none⟩) 1 1, .bool false] 33
  obtain ⟨V8, h8, b8, r8, s8⟩ := boxN V7 #[.int .i64 2, .string ⟨#[120]⟩, .string ⟨#[97]⟩, .slice none 0 0, .bool false] 33
  obtain ⟨V9, h9, b9, r9, s9⟩ := boxN V8 #[.int .i64 2, .string ⟨#[120]⟩, .string ⟨#[]⟩, .slice none 0 0, .bool true] 33
  obtain ⟨V10, h10, b10, r10, s10⟩ := boxN V9 #[.int .i64 0] 3
  obtain ⟨V11, h11, b11, r11, s11⟩ := boxN V10 #[.int .i64 3, .string ⟨#[120]⟩, .string ⟨#[]⟩, .slice (some ⟨V9.heap.size, 0, none⟩) 1 1, .bool false] 33
  obtain ⟨V12, h12, b12, r12, s12⟩ := boxN V11 #[.int .i64 1] 3
  obtain ⟨V13, h13, b13, r13, s13⟩ := boxN V12 #[.int .i64 2, .string ⟨#[120]⟩, .string ⟨#[]⟩, .slice (some ⟨V11.heap.size, 0, none⟩) 1 1, .bool false] 33
  obtain ⟨V14, h14, b14, r14, s14⟩ := boxN V13 #[.int .i64 (-1)] 3
  obtain ⟨V15, h15, b15, r15, s15⟩ := boxN V14 #[.int .i64 2, .string ⟨#[120]⟩, .string ⟨#[]⟩, .slice (some ⟨V13.heap.size, 0, none⟩) 1 1, .bool false] 33
  obtain ⟨V16, h16, b16, r16, s16⟩ := boxN V15 #[.int .i64 4, .string ⟨#[120]⟩, .string ⟨#[]⟩, .slice none 0 0, .bool false] 33
  obtain ⟨V17, h17, b17, r17, s17⟩ := boxN V16 #[.int .i64 0, .string ⟨#[120]⟩, .string ⟨#[]⟩, .slice none 0 0, .bool false] 33
  obtain ⟨V18, h18, b18, r18, s18⟩ := boxN V17 #[.int .i64 1, .string ⟨#[120]⟩, .string ⟨#[97]⟩, .slice none 0 0, .bool false] 33
  obtain ⟨V19, h19, b19, r19, s19⟩ := boxN V18 #[.int .i64 1] 3
  obtain ⟨V20, h20, b20, r20, s20⟩ := boxN V19 #[.int .i64 1, .string ⟨#[120]⟩, .string ⟨#[97]⟩, .slice none 0 0, .bool false] 33
  obtain ⟨V21, h21, b21, r21, s21⟩ := boxN V20 #[.int .i64 0, .int .i64 (-1)] 3
  obtain ⟨V22, h22, b22, r22, s22⟩ := boxN V21 #[.int .i64 0] 3
  obtain ⟨V23, h23, b23, r23, s23⟩ := boxN V22 #[.slice (some ⟨w1.heap.size + 1, 0, none⟩) 1 1, .slice none 0 0, .slice (some ⟨V2.heap.size, 0, none⟩) 1 1, .slice none 0 0, .slice (some ⟨V3.heap.size, 0, none⟩) 1 1, .slice none 0 0, .slice (some ⟨V4.heap.size, 0, none⟩) 1 1, .slice none 0 0, .slice (some ⟨V6.heap.size, 0, none⟩) 1 1, .slice none 0 0, .slice (some ⟨V7.heap.size, 0, none⟩) 1 1, .slice none 0 0, .slice (some ⟨V8.heap.size, 0, none⟩) 1 1, .slice none 0 0, .slice (some ⟨V10.heap.size, 0, none⟩) 1 1, .slice none 0 0, .slice (some ⟨V12.heap.size, 0, none⟩) 1 1, .slice none 0 0, .slice (some ⟨V14.heap.size, 0, none⟩) 1 1, .slice none 0 0, .slice (some ⟨V15.heap.size, 0, none⟩) 1 1, .slice none 0 0, .slice (some ⟨V16.heap.size, 0, none⟩) 1 1, .slice none 0 0, .slice (some ⟨V17.heap.size, 0, none⟩) 1 1, .slice (some ⟨V18.heap.size, 0, none⟩) 1 1, .slice (some ⟨V19.heap.size, 0, none⟩) 1 1, .slice (some ⟨V20.heap.size, 0, none⟩) 2 2, .slice none 0 0, .slice (some ⟨V21.heap.size, 0, none⟩) 1 1] 25
  have t23 := b23
  have t22 := below_then b22 t23
  have t21 := below_then b21 t22
  have t20 := below_then b20 t21
  have t19 := below_then b19 t20
  have t18 := below_then b18 t19
  have t17 := below_then b17 t18
  have t16 := below_then b16 t17
  have t15 := below_then b15 t16
  have t14 := below_then b14 t15
  have t13 := below_then b13 t14
  have t12 := below_then b12 t13
  have t11 := below_then b11 t12
  have t10 := below_then b10 t11
  have t9 := below_then b9 t10
  have t8 := below_then b8 t9
  have t7 := below_then b7 t8
  have t6 := below_then b6 t7
  have t5 := below_then b5 t6
  have t4 := below_then b4 t5
  have t3 := below_then b3 t4
  have t2 := below_then b2 t3
  have t1 := below_then b1 t2
  have u2 := b2
  have u3 : Below V1.heap.size V1 V3 := below_then u2 b3
  have u4 : Below V1.heap.size V1 V4 := below_then u3 b4
  have u5 : Below V1.heap.size V1 V5 := below_then u4 b5
  have u6 : Below V1.heap.size V1 V6 := below_then u5 b6
  have u7 : Below V1.heap.size V1 V7 := below_then u6 b7
  have u8 : Below V1.heap.size V1 V8 := below_then u7 b8
  have u9 : Below V1.heap.size V1 V9 := below_then u8 b9
  have u10 : Below V1.heap.size V1 V10 := below_then u9 b10
  have u11 : Below V1.heap.size V1 V11 := below_then u10 b11
  have u12 : Below V1.heap.size V1 V12 := below_then u11 b12
  have u13 : Below V1.heap.size V1 V13 := below_then u12 b13
  have u14 : Below V1.heap.size V1 V14 := below_then u13 b14
  have u15 : Below V1.heap.size V1 V15 := below_then u14 b15
  have u16 : Below V1.heap.size V1 V16 := below_then u15 b16
  have u17 : Below V1.heap.size V1 V17 := below_then u16 b17
  have u18 : Below V1.heap.size V1 V18 := below_then u17 b18
  have u19 : Below V1.heap.size V1 V19 := below_then u18 b19
  have okc : ∀ W, Below V1.heap.size V1 W → W.cell? ⟨w1.heap.size, 0, none⟩ = some (.int .i64 1) ∧ W.cell? ⟨w1.heap.size, 1, none⟩ = some (.string ⟨#[120]⟩) ∧ W.cell? ⟨w1.heap.size, 2, none⟩ = some (.string ⟨#[97]⟩) ∧ W.cell? ⟨w1.heap.size, 3, none⟩ = some (.slice none 0 0) ∧ W.cell? ⟨w1.heap.size, 4, none⟩ = some (.bool false) := fun W hW => by
    have q := (hW.block w1.heap.size (by omega)).trans r1
    exact ⟨Lib.cell_of_heap q 0, Lib.cell_of_heap q 1, Lib.cell_of_heap q 2, Lib.cell_of_heap q 3, Lib.cell_of_heap q 4⟩
  refine ⟨V2, V3, V4, V5, V6, V7, V8, V9, V10, V11, V12, V13, V14, V15, V16, V17, V18, V19, V20, V21, V22, V23, (by rw [h1]; exact h2), h3, h4, h5, h6, h7, h8, h9, h10, h11, h12, h13, h14, h15, h16, h17, h18, h19, h20, h21, h22, h23, okc V17 (u17.mono (by omega)), okc V19 (u19.mono (by omega)), t1, fun W hW => ?_, fun W k hW hk => ?_⟩
  · have q : W.heap[w1.heap.size]? = _ := (hW.block _ (by omega)).trans ((t2.block _ (by omega)).trans r1)
    exact ⟨hT.below (t1.trans (hW.mono (by omega))), Lib.cell_of_heap q 0, Lib.cell_of_heap q 1, Lib.cell_of_heap q 2, Lib.cell_of_heap q 3, Lib.cell_of_heap q 4⟩
  · have hs := hW.size
    have Q : W.heap[V22.heap.size]? = _ := (hW.block _ (by omega)).trans r23
    match k, hk with
    | 0, _ => exact ⟨_, _, wrong0, Lib.cell_of_heap Q 0, Lib.cell_of_heap Q 1, ⟨_, _, _, _, rfl, nds_one (e := ⟨1, ⟨#[]⟩, ⟨#[]⟩, [], false⟩) (by omega) (by rw [← s1]; exact (hW.block _ (by omega)).trans ((t3.block _ (by omega)).trans r2)) IntsAt.nil (by simp) (by simp), IntsAt.nil⟩, wrong0_ok, wrong0_right⟩
    | 1, _ => exact ⟨_, _, wrong1, Lib.cell_of_heap Q 2, Lib.cell_of_heap Q 3, ⟨_, _, _, _, rfl, nds_one (e := ⟨1, ⟨#[33]⟩, ⟨#[]⟩, [], false⟩) (by omega) ((hW.block _ (by omega)).trans ((t4.block _ (by omega)).trans r3)) IntsAt.nil (by simp) (by simp), IntsAt.nil⟩, wrong1_ok, wrong1_right⟩
    | 2, _ => exact ⟨_, _, wrong2, Lib.cell_of_heap Q 4, Lib.cell_of_heap Q 5, ⟨_, _, _, _, rfl, nds_one (e := ⟨1, ⟨#[97, 32, 98]⟩, ⟨#[]⟩, [], false⟩) (by omega) ((hW.block _ (by omega)).trans ((t5.block _ (by omega)).trans r4)) IntsAt.nil (by simp) (by simp), IntsAt.nil⟩, wrong2_ok, wrong2_right⟩
    | 3, _ => exact ⟨_, _, wrong3, Lib.cell_of_heap Q 6, Lib.cell_of_heap Q 7, ⟨_, _, _, _, rfl, nds_one (e := ⟨1, ⟨#[120]⟩, ⟨#[255]⟩, [], false⟩) (by omega) ((hW.block _ (by omega)).trans ((t6.block _ (by omega)).trans r5)) IntsAt.nil (by simp) (by simp), IntsAt.nil⟩, wrong3_ok, wrong3_right⟩
    | 4, _ => exact ⟨_, _, wrong4, Lib.cell_of_heap Q 8, Lib.cell_of_heap Q 9, ⟨_, _, _, _, rfl, nds_one (e := ⟨1, ⟨#[120]⟩, ⟨#[]⟩, [0], false⟩) (by omega) ((hW.block _ (by omega)).trans ((t8.block _ (by omega)).trans r7)) (ints_one (by omega) ((hW.block _ (by omega)).trans ((t7.block _ (by omega)).trans r6))) (by simp) (by simp), IntsAt.nil⟩, wrong4_ok, wrong4_right⟩
    | 5, _ => exact ⟨_, _, wrong5, Lib.cell_of_heap Q 10, Lib.cell_of_heap Q 11, ⟨_, _, _, _, rfl, nds_one (e := ⟨2, ⟨#[120]⟩, ⟨#[97]⟩, [], false⟩) (by omega) ((hW.block _ (by omega)).trans ((t9.block _ (by omega)).trans r8)) IntsAt.nil (by simp) (by simp), IntsAt.nil⟩, wrong5_ok, wrong5_right⟩
    | 6, _ => exact ⟨_, _, wrong6, Lib.cell_of_heap Q 12, Lib.cell_of_heap Q 13, ⟨_, _, _, _, rfl, nds_one (e := ⟨2, ⟨#[120]⟩, ⟨#[]⟩, [], true⟩) (by omega) ((hW.block _ (by omega)).trans ((t10.block _ (by omega)).trans r9)) IntsAt.nil (by simp) (by simp), IntsAt.nil⟩, wrong6_ok, wrong6_right⟩
    | 7, _ => exact ⟨_, _, wrong7, Lib.cell_of_heap Q 14, Lib.cell_of_heap Q 15, ⟨_, _, _, _, rfl, nds_one (e := ⟨3, ⟨#[120]⟩, ⟨#[]⟩, [0], false⟩) (by omega) ((hW.block _ (by omega)).trans ((t12.block _ (by omega)).trans r11)) (ints_one (by omega) ((hW.block _ (by omega)).trans ((t11.block _ (by omega)).trans r10))) (by simp) (by simp), IntsAt.nil⟩, wrong7_ok, wrong7_right⟩
    | 8, _ => exact ⟨_, _, wrong8, Lib.cell_of_heap Q 16, Lib.cell_of_heap Q 17, ⟨_, _, _, _, rfl, nds_one (e := ⟨2, ⟨#[120]⟩, ⟨#[]⟩, [1], false⟩) (by omega) ((hW.block _ (by omega)).trans ((t14.block _ (by omega)).trans r13)) (ints_one (by omega) ((hW.block _ (by omega)).trans ((t13.block _ (by omega)).trans r12))) (by simp) (by simp), IntsAt.nil⟩, wrong8_ok, wrong8_right⟩
    | 9, _ => exact ⟨_, _, wrong9, Lib.cell_of_heap Q 18, Lib.cell_of_heap Q 19, ⟨_, _, _, _, rfl, nds_one (e := ⟨2, ⟨#[120]⟩, ⟨#[]⟩, [-1], false⟩) (by omega) ((hW.block _ (by omega)).trans ((t16.block _ (by omega)).trans r15)) (ints_one (by omega) ((hW.block _ (by omega)).trans ((t15.block _ (by omega)).trans r14))) (by simp) (by simp), IntsAt.nil⟩, wrong9_ok, wrong9_right⟩
    | 10, _ => exact ⟨_, _, wrong10, Lib.cell_of_heap Q 20, Lib.cell_of_heap Q 21, ⟨_, _, _, _, rfl, nds_one (e := ⟨4, ⟨#[120]⟩, ⟨#[]⟩, [], false⟩) (by omega) ((hW.block _ (by omega)).trans ((t17.block _ (by omega)).trans r16)) IntsAt.nil (by simp) (by simp), IntsAt.nil⟩, wrong10_ok, wrong10_right⟩
    | 11, _ => exact ⟨_, _, wrong11, Lib.cell_of_heap Q 22, Lib.cell_of_heap Q 23, ⟨_, _, _, _, rfl, nds_one (e := ⟨0, ⟨#[120]⟩, ⟨#[]⟩, [], false⟩) (by omega) ((hW.block _ (by omega)).trans ((t18.block _ (by omega)).trans r17)) IntsAt.nil (by simp) (by simp), IntsAt.nil⟩, wrong11_ok, wrong11_right⟩
    | 12, _ => exact ⟨_, _, wrong12, Lib.cell_of_heap Q 24, Lib.cell_of_heap Q 25, ⟨_, _, _, _, rfl, nds_one (e := ⟨1, ⟨#[120]⟩, ⟨#[97]⟩, [], false⟩) (by omega) ((hW.block _ (by omega)).trans ((t19.block _ (by omega)).trans r18)) IntsAt.nil (by simp) (by simp), ints_one (by omega) ((hW.block _ (by omega)).trans ((t20.block _ (by omega)).trans r19))⟩, wrong12_ok, wrong12_right⟩
    | 13, _ => exact ⟨_, _, wrong13, Lib.cell_of_heap Q 26, Lib.cell_of_heap Q 27, ⟨_, _, _, _, rfl, nds_one (e := ⟨1, ⟨#[120]⟩, ⟨#[97]⟩, [], false⟩) (by omega) ((hW.block _ (by omega)).trans ((t21.block _ (by omega)).trans r20)) IntsAt.nil (by simp) (by simp), ints_two (by omega) ((hW.block _ (by omega)).trans ((t22.block _ (by omega)).trans r21))⟩, wrong13_ok, wrong13_right⟩
    | 14, _ => exact ⟨_, _, wrong14, Lib.cell_of_heap Q 28, Lib.cell_of_heap Q 29, ⟨_, _, _, _, rfl, NdsAt.nil, ints_one (by omega) ((hW.block _ (by omega)).trans ((t23.block _ (by omega)).trans r22))⟩, wrong14_ok, wrong14_right⟩
    | k + 15, hk => omega
end Go.Proofs.YtdcbngimgpdjoaaDoor
