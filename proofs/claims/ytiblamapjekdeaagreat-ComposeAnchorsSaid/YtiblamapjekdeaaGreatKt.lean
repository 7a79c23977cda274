/- The reference's newReader at the example's line. Condition: the line lies there. -/
import Derived.Test.YtiblamapjekdeaaGreatKs
namespace Go.Proofs.YtiblamapjekdeaaGreat
open Go.RowKit
attribute [local go_sem] Oper.semAt_some
theorem run_app0 (Wx : World) (t e : TypeId) (i0 : TypeInfo) (z : Value) (sz bytes : Nat) (ht : Tryz.prog.underlying t = some (.slice e)) (hi : Tryz.prog.info? e = some i0) (hz0 : i0.zero = some z) (hz1 : i0.size = sz) (hz2 : i0.bytes = bytes) (hzc : z.cells.size = sz) (hsz : 0 < sz) (hby : bytes ≤ 1000000)
    (cs : List Value) (hcs : cs.length = sz) (hone : ∀ u ∈ cs, u.oneCell' = true) (n0 : Nat) (fr : Nat × Nat) (hn : Wx.heap[n0]? = some (.cells cs.toArray e fr)) :
    ∃ g c w', (Builtin.append_ #[t, t] t #[.slice none 0 0, .slice (some ⟨n0, 0, none⟩) 1 1]).run Tryz.prog Wx = .ok (.slice (some ⟨g, 0, none⟩) 1 c) w' ∧ 1 ≤ c ∧ Wx.heap.size ≤ g ∧ g < w'.heap.size ∧ (∀ j u, cs[j]? = some u → w'.cell? ⟨g, j, none⟩ = some u) ∧ Below Wx.heap.size Wx w' := by
  obtain ⟨v', w', hr, h1, h2, _, _⟩ := run_append_own_at (P := Tryz.prog) Wx Wx.heap.size t t e i0 z sz bytes ht hi hz0 hz1 hz2 hzc hsz (.slice none 0 0) 0 [] ⟨by simp, .inl ⟨rfl, rfl⟩⟩ ⟨n0, 0, none⟩ 1 1 cs (by simp [hcs]) (fun j u hj => by
    rw [Addr.add_lit, Nat.zero_add, Lib.cell_of_heap hn j]
    simpa using hj) hone (by unfold maxLen; omega) (by omega) (Nat.le_refl _)
  have h1' := h1
  rcases h1.2 with ⟨_, h3⟩ | ⟨g, cap, cur, rfl, hB, hg, hcp, _⟩
  · omega
  · refine ⟨g, cap, w', hr, by omega, hB, lt_of_row hg, fun j u hj => ?_, ⟨h2.os, h2.tape, h2.output, h2.size, fun b hb => h2.block b hb (by intro h; cases h)⟩⟩
    have := h1'.cells (g := g) rfl j u (by simpa using hj)
    simpa [Addr.add_lit] using this
/-- A new reader. -/
def NRd (w : World) (rb lb lc xb xc : Nat) (wr : World) : Prop := ∃ fb fc tb tc, Rd wr ⟨rb, lb, lc, fb, fc, tb, tc, xb, xc⟩ (.slice none 0 0) ∧ Below w.heap.size w wr
theorem Tryz.infoRow : (Tryz.prog.info? 26).map (fun i => (i.zero, i.size, i.bytes)) = some (some (.slice none 0 0), 1, 24) := by kernel_rfl
set_option maxRecDepth 100000 in
set_option maxHeartbeats 4000000 in
theorem newReader_ex (lb lc xb xc : Nat) (w : World) (hL : LnT w lb 0 xb xc) (hc : 1 ≤ lc) :
    Calls Tryz.prog 27 #[.slice (some ⟨lb, 0, none⟩) 1 lc] w fun e w' => e = .returned (.pointer (some ⟨w.heap.size, 0, none⟩)) ∧ NRd w w.heap.size lb lc xb xc w' := by
  obtain ⟨V, hV, hbV, hrV, hsV⟩ : ∃ V, w.alloc (.cells #[.slice (some ⟨lb, 0, none⟩) 1 lc, .slice none 0 0, .int .i64 (-1), .int .i64 0, .slice none 0 0] 77) = V ∧ Below w.heap.size w V ∧ V.heap[w.heap.size]? = some (.cells #[.slice (some ⟨lb, 0, none⟩) 1 lc, .slice none 0 0, .int .i64 (-1), .int .i64 0, .slice none 0 0] 77 (0, 0)) ∧ V.heap.size = w.heap.size + 1 :=
    ⟨_, rfl, (Below.refl _ w).alloc (Nat.le_refl _) _, heap_alloc_new w _, by simp⟩
  obtain ⟨i0, hi, hz0, hz1, hz2⟩ := info_parts Tryz.infoRow
  have hLV := hL.below hbV
  have HLV := Lib.hid hLV
  have HF : Hid (Calls Tryz.prog 45 #[.agg #[.int .i64 0, .slice (some ⟨xb, 0, none⟩) 7 xc]] V.drew (FullR V.drew)) := Full_ex xb xc V.drew (hLV.below (Below.refl _ _).drew).2.2.2
  have l0 := hLV.2.1
  have l1 := hLV.2.2.1
  have b1 := Lib.cell_of_heap hrV 1
  have g1 := Go.Joins.unfrozen_of_block hrV 1
  have HV := Lib.hid (And.intro hbV (And.intro hrV hsV))
  have HL := Lib.hid hL
  have Hc := Lib.hid hc
  clear hL hLV hbV hrV hsV hc
  go_enter Tryz.func27, Tryz.ntmps27
  go_wp2_with fail
  go_loopw [4] (fun i wr => (i = .int .i64 0 ∧ wr = V) ∨ (i = .int .i64 1 ∧ NRd w w.heap.size lb lc xb xc wr)) (fun i _ => 1 - (intOf i).toNat)
  case atStart => exact .inl ⟨rfl, rfl⟩
  case round =>
    rcases hrel with ⟨rfl, rfl⟩ | ⟨rfl, hN⟩
    · go_wp2_with fail
      go_region_law (first
        | (rw [if_pos (by simp [Region.wanted])]; go_simp; go_at_call 45; refine HF.out.mono ?_; rintro e w2 ⟨tb, tc, rfl, hge, hrt, hb2⟩; try go_simp; obtain ⟨fb, fc, w3, hrun, hf1, hf2, hf3, hf4, hf5⟩ := run_app0 (w2.alloc (.cells #[.slice (some ⟨tb, 0, none⟩) 7 tc] 26)) 75 26 i0 _ 1 24 Tryz.underlying75 hi hz0 hz1 hz2 rfl (by decide) (by decide) [.slice (some ⟨tb, 0, none⟩) 7 tc] rfl (by intro u hu; simp at hu; subst hu; rfl) w2.heap.size (0, 0) (heap_alloc_new w2 _); have hba := ((Below.refl w2.heap.size w2).alloc (Nat.le_refl _) (.cells #[.slice (some ⟨tb, 0, none⟩) 7 tc] 26)); have hr2 := (hb2.block w.heap.size (show w.heap.size < wr.heap.size by have := HV.out.2.2; omega)).trans HV.out.2.1; have hra := (hba.block _ (lt_of_row hr2)).trans hr2; have hr3 := (hf5.block _ (lt_of_row hra)).trans hra; have y1 := Lib.cell_of_heap hr2 1; have y2 := Lib.cell_of_heap hra 1; have y3 := Lib.cell_of_heap hr3 1; have z3 := Go.Joins.unfrozen_of_block hr3 1; have H3 := Lib.hid (And.intro hge (And.intro (hrt.below (below_then hba hf5)) (And.intro (hb2.trans ((hba.trans (hf5.mono (by simp))).mono hb2.size)) (And.intro hr3 (And.intro hf1 (And.intro (Nat.le_trans hb2.size (Nat.le_trans hba.size hf2)) (And.intro hf3 hf4))))))); clear hge hrt hb2 hf1 hf2 hf3 hf4 hf5 hba hr2 hra hr3)
        | (refine step_appT rfl _ _ rfl (.slice none 0 0) _ rfl rfl hrun ?_))
      all_goals
        obtain ⟨h1, h2, h3, h4, h5, h6, h7, h8⟩ := H3.out
        obtain ⟨X, hX⟩ : ∃ X, w3.setCell ⟨w.heap.size, 1, none⟩ (.slice (some ⟨fb, 0, none⟩) 1 fc) = X := ⟨_, rfl⟩
        have HN : Hid (NRd w w.heap.size lb lc xb xc X) := by
          have hlb := HL.out.1
          have hxb := HL.out.2.2.2.1
          have hsz := HV.out.2.2
          have hd : wr.drew.heap.size = wr.heap.size := rfl
          have hwX : Below w.heap.size w X := by rw [← hX]; exact ((HV.out.1.trans ((Below.refl w.heap.size wr).drew.trans (h3.mono (show w.heap.size ≤ wr.drew.heap.size by rw [hd]; omega)))).setCell (p := ⟨w.heap.size, 1, none⟩) (Nat.le_refl _) _)
          have ho : ∀ b, b ≠ w.heap.size → X.heap[b]? = w3.heap[b]? := fun b hb => by rw [← hX]; exact Below.heap_setCell w3 ⟨w.heap.size, 1, none⟩ _ b hb
          have hXs : X.heap.size = w3.heap.size := by rw [← hX]; simp
          refine ⟨fb, fc, tb, tc, ⟨?_, Hc.out, h5, HL.out.below hwX, by rw [hXs]; exact h7, ?_, ⟨by rw [hXs]; exact h2.1, h2.2.1, fun k hk => ?_⟩, ?_, ?_, ?_, ?_⟩, hwX⟩
          · rw [← hX]; exact Go.Joins.block_setCell (i := 1) h4 _
          · exact (World.cell?_of_block (a := ⟨fb, 0, none⟩) (ho fb (by omega))).trans (h8 0 _ rfl)
          · exact (World.cell?_of_block (a := ⟨tb, 0 + k, none⟩) (ho tb (by omega))).trans (h2.2.2 k hk)
          · show lb ≠ w.heap.size; omega
          · show fb ≠ w.heap.size; omega
          · show tb ≠ w.heap.size; omega
          · show xb ≠ w.heap.size; omega
        rw [hX]
        clear hX h1 h2 h3 h4 h5 h6 h7 h8 hrun y1 y2 y3 z3 H3
        go_wp2_with fail
        go_roundw
        case rel => exact .inr ⟨rfl, HN.out⟩
        case measure => simp [intOf]
    · have HN := Lib.hid hN
      clear hN
      go_wp2_with fail
      go_ret
      exact ⟨rfl, HN.out⟩
end Go.Proofs.YtiblamapjekdeaaGreat
