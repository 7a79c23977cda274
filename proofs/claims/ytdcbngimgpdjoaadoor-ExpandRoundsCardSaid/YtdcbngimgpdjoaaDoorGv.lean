/- props.Valid: may a tag be? Condition: a text is no longer than an int. -/
import Derived.Test.YtdcbngimgpdjoaaDoorGu
import Derived.Test.YtdcbngimgpdjoaaDoorZs
namespace Go.Proofs.YtdcbngimgpdjoaaDoor
open Go.RowKit Go.Shelf
/-- A text's bytes, as numbers. -/
def bytesI (s : ByteArray) : List Int := s.data.toList.map fun b => (b.toNat : Int)
theorem bytesI_len (s : ByteArray) : (bytesI s).length = s.size := by rw [bytesI, List.length_map, Array.length_toList]; rfl
theorem bytesI_take (s : ByteArray) {k : Nat} (h : k < s.size) : (bytesI s).take (k + 1) = (bytesI s).take k ++ [(s[k].toNat : Int)] := by
  have hk : k < (bytesI s).length := by rw [bytesI_len]; exact h
  rw [List.take_succ_eq_append_getElem hk]
  congr 2
  simp [bytesI, ByteArray.getElem_eq_getElem_data]
def tagB (s : ByteArray) : Bool := s.size != 0 && validS (bytesI s)
set_option maxRecDepth 100000 in
set_option maxHeartbeats 1000000 in
theorem Valid_any (s : ByteArray) (w : World) (hs : s.size ≤ 1000) :
    Calls Tryd.prog 65 #[.string s] w fun e w' => e = .returned (.bool (tagB s)) ∧ Below w.heap.size w w' := by
  have hcv := fun w => run_bytes_of_string (P := Tryd.prog) w 9 92 5 s Tryd.underlying9 Tryd.underlying92 Tryd.underlying5
  have hcell : ∀ k, (h : k < s.size) → _ := fun k h => bytesCell w s 5 h
  have hb0 : Below w.heap.size w _ := Below.drew <| (Below.refl _ w).alloc (Nat.le_refl _) (Obj.cells (bytesRow s (grownCap w s.size 0 5)) 5 ((bytesRow s (grownCap w s.size 0 5)).size, (bytesRow s (grownCap w s.size 0 5)).size + 1))
  go_enter Tryd.func65, Tryd.ntmps65
  go_wp2_with fail
  obtain ⟨V, hV⟩ : ∃ V, (w.alloc (Obj.cells (bytesRow s (grownCap w s.size 0 5)) 5 ((bytesRow s (grownCap w s.size 0 5)).size, (bytesRow s (grownCap w s.size 0 5)).size + 1))).drew = V := ⟨_, rfl⟩
  rw [hV] at hb0 ⊢
  have HC : Hid (∀ k, (h : k < s.size) → V.cell? ⟨w.heap.size, k, none⟩ = some (.int .u8 (s[k].toNat : Int))) := fun k h => by
    have := hcell k h
    rw [← hV]; exact this
  have hlt0 : w.heap.size < V.heap.size := by rw [← hV]; simp
  clear hcell hcv hV
  go_loopw [3, 9] (fun o i wr => ∃ k : Nat, k ≤ s.size ∧ i = .int .i64 k ∧ ZOwn wr V.heap.size o ((bytesI s).take k) ∧ Below V.heap.size V wr) (fun _ i _ => s.size - (intOf i).toNat)
  case atStart => exact ⟨0, Nat.zero_le _, rfl, ZOwn.empty _ _, Below.refl _ _⟩
  case round =>
    obtain ⟨k, hk, rfl, hown, hbl⟩ := hrel
    by_cases hlt : k < s.size
    · have hlt' : (k : Int) < (s.size : Int) := by omega
      have hck := (hbl.cell (p := ⟨w.heap.size, k, none⟩) hlt0).trans (HC.out k hlt)
      have hT := bytesI_take s hlt
      obtain ⟨b, hb⟩ : ∃ b, s[k] = b := ⟨_, rfl⟩
      rw [hb] at hck hT
      have HT := Lib.hid hT
      have hw8 : wrap64 (b.toNat : Int) = (b.toNat : Int) := wrap64_u8 _
      have hll : ((bytesI s).take k).length ≤ 1000000000 := by simp [bytesI_len]; omega
      have hsz := hbl.size
      clear hT hb
      go_wp2_with (at_builtin; go_loud (refine wpList_appZ rfl _ _ _ rfl Tryd.underlying23 V.heap.size u3 _ (b.toNat : Int) rfl hown _ rfl rfl hll hsz ?_); intro v1 w1 hown1 hb1)
      go_roundw
      case rel => exact ⟨k + 1, by omega, by go_num, by rw [HT.out]; exact hown1, hbl.trans hb1⟩
      case measure => simp [intOf]; omega
    · obtain rfl : k = s.size := by omega
      rw [List.take_of_length_le (by rw [bytesI_len]; exact Nat.le_refl _)] at hown
      obtain ⟨A, c, rfl, hlc, hI, hA⟩ := hown.form
      have hU := uri_any A c (bytesI s) wr hlc hA (by rw [bytesI_len]; omega) hI
      have hlb := bytesI_len s
      have HV : Hid (tagB s = (s.size != 0 && validS (bytesI s))) := rfl
      rw [hlb] at hU hlc ⊢
      have HB := Lib.hid hb0
      have HBl := Lib.hid hbl
      have HUl := Lib.hid hU
      have hd0 : decide ((s.size : Int) < (s.size : Int)) = false := decide_eq_false (by omega)
      clear hU hlb hb0 hbl HC hI hA hlc hown hlt hk hlt0
      by_cases h0 : s.size = 0
      · have h0' : decide ((0 : Int) < (s.size : Int)) = false := decide_eq_false (by omega)
        have HR : Hid (tagB s = false) := by show _ = _; rw [HV.out, h0]; rfl
        have h0n : ¬ (0 : Int) < (s.size : Int) := by omega
        clear h0
        go_wp2_with fail
        go_ret
        exact ⟨ret_bool HR.out.symm, HB.out.trans (HBl.out.mono HB.out.size)⟩
      · have h0' : (0 : Int) < (s.size : Int) := by omega
        have HR : Hid (tagB s = validS (bytesI s)) := by show _ = _; rw [HV.out]; simp [h0]
        clear h0
        go_wp2_with (go_at_call 76; refine HUl.out.mono ?_; rintro e w1 ⟨_, rfl, ⟨n, rfl, hn, hd⟩, hb1⟩; have HD := Lib.hid hd; clear hd)
        all_goals
          go_ret
          refine ⟨ret_bool ?_, (HB.out.trans (HBl.out.mono HB.out.size)).trans (hb1.mono (HB.out.trans (HBl.out.mono HB.out.size)).size)⟩
          rw [HR.out, ← HD.out]
          rw [Bool.eq_iff_iff]
          simp only [beq_iff_eq, decide_eq_true_eq]
          omega
end Go.Proofs.YtdcbngimgpdjoaaDoor
