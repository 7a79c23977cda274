/- The law IsoTurns. Conditions: utf8's tables lie in the world; the graph's texts and rows hold no more than a million million. -/
import Derived.Test.YtdcbngimgpdjoaaDoorJu
import Derived.Test.YtdcbngimgpdjoaaDoorGb
import Derived.Deep.RegionHeld3
namespace Go.Proofs.YtdcbngimgpdjoaaDoor
open Go.RowKit Go.Shelf Go.Deep
theorem wrapI_small {z : Int} (h0 : 0 ≤ z) (h1 : z ≤ 1000000000000) : IntKind.i64.wrap z = z := by rw [IntKind.wrap_i64]; omega
theorem wrapJ_small {z : Int} (h0 : 0 ≤ z) (h1 : z ≤ 1000000000000) : wrap64 z = z := IntWalk.wrap64_in _ (by omega)
theorem five_far (W : World) (g k : Nat) (e : NdK) (b : Nat) (hl : b ≠ g) : (five W g k e).heap[b]? = W.heap[b]? :=
  (Below.heap_setCell _ ⟨g, _, none⟩ _ b hl).trans ((Below.heap_setCell _ ⟨g, _, none⟩ _ b hl).trans ((Below.heap_setCell _ ⟨g, _, none⟩ _ b hl).trans ((Below.heap_setCell _ ⟨g, _, none⟩ _ b hl).trans (Below.heap_setCell W ⟨g, _, none⟩ _ b hl))))
theorem rem_nat {y b n z : Nat} (h : (y + b) % n = z) : ((y : Int) + (b : Int)).tmod (n : Int) = (z : Int) ∧ ((y : Int) + (b : Int)) % (n : Int) = (z : Int) := by
  have e : ((y : Int) + (b : Int)) % (n : Int) = (z : Int) := by rw [← h]; simp
  exact ⟨by rw [Int.tmod_eq_emod_of_nonneg (by omega)]; exact e, e⟩
set_option maxRecDepth 100000 in
set_option maxHeartbeats 8000000 in
theorem isoTurns_walk (w : World) (hT : Tabs w) (G : Gr) (u : Value) (hG : GrAt w w.heap.size G u) (okG : G.ok) (okGB : G.okB) (by0 : Int) (_ : (Lit.int .i64 by0).wf = true) (more : ByteArray) (hmore : more.size ≤ 1048576) :
    Calls Tryd.prog 9 #[u, .int .i64 by0, .string more] w fun e w' => e = .returned (.bool true) ∧ Below w.heap.size w w' := by
  have hGW : ∀ W, Below w.heap.size w W → GrAt W W.heap.size G u := fun W hW => (hG.below hW (Nat.le_refl _)).more hW.size
  have HB1 : Hid (∀ W, Below w.heap.size w W → Calls Tryd.prog 17 #[u] W fun e w' => e = .returned (.bool (bigB G)) ∧ Below W.heap.size W w') := fun W hW => Big_any G u W (hGW W hW) okGB
  have HR : Hid (bigB G = false → ∀ W, Below w.heap.size w W → Calls Tryd.prog 19 #[u] W fun e w' => e = .returned (.bool (rightB G)) ∧ Below W.heap.size W w') := fun h1 W hW => RRight_any G u W (hGW W hW) (okGB.okR h1)
  have HTb : Hid (∀ W, Below w.heap.size w W → Tabs W) := fun W hW => hT.below hW
  have HGW := Lib.hid hGW
  have HokG := Lib.hid okG
  obtain ⟨NA, nc, RA, rc, rfl, hN, hRo⟩ := hG.ex
  obtain ⟨V, hV, hbV, hrV, hsV⟩ := boxCs w #[.slice NA G.nodes.length nc, .slice RA G.roots.length rc] 25
  have HA : Hid (Calls Tryd.prog 29 #[] V fun e w' => e = .returned (.bool true) ∧ Below V.heap.size V w') := alive22_any V (hT.below hbV)
  have HC : Hid (∀ W, Below V.heap.size V W → W.cell? ⟨w.heap.size, 0, none⟩ = some (.slice NA G.nodes.length nc) ∧ W.cell? ⟨w.heap.size, 1, none⟩ = some (.slice RA G.roots.length rc) ∧ Below w.heap.size w W ∧ NdsAt W w.heap.size NA G.nodes ∧ IntsAt W w.heap.size RA G.roots) := fun W hW => by
    have a := (hW.block w.heap.size (by omega)).trans hrV
    have hwW := below_then hbV hW
    exact ⟨Lib.cell_of_heap a 0, Lib.cell_of_heap a 1, hwW, hN.below hwW (Nat.le_refl _), hRo.below hwW (Nat.le_refl _)⟩
  obtain ⟨v0, v1, _⟩ := HC.out V (Below.refl _ _)
  obtain ⟨g1, hg1⟩ : ∃ x, bigB G = x := ⟨_, rfl⟩
  obtain ⟨r1, hr1⟩ : ∃ x, rightB G = x := ⟨_, rfl⟩
  have HokR0 : Hid (bigB G = false → G.okR) := fun h => okGB.okR h
  rw [hg1] at HB1 HR HokR0
  rw [hr1] at HR
  clear hT hG okG okGB hGW hbV hrV hg1 hN hRo
  cases g1 with
  | true =>
    clear HR hr1
    go_enter Tryd.func9, Tryd.ntmps9
    go_wp2_with (first
      | (go_at_call 29; refine HA.out.mono ?_; rintro e w1 ⟨rfl, hb1⟩; obtain ⟨x0, x1, _⟩ := HC.out w1 hb1; have Hb1 := Lib.hid hb1; clear hb1)
      | (go_at_call 17; refine (HB1.out w1 (HC.out w1 Hb1.out).2.2.1).mono ?_; rintro e w2 ⟨rfl, hb2⟩; have Hb2 := Lib.hid (below_then Hb1.out hb2); obtain ⟨y0, y1, _⟩ := HC.out w2 Hb2.out; clear hb2))
    go_ret
    exact ⟨by first | rfl | simp, (HC.out _ Hb2.out).2.2.1⟩
  | false =>
    have h1 := Lib.hid (HR.out rfl)
    have HokR := Lib.hid (HokR0.out rfl)
    clear HR HokR0
    cases r1 with
    | false =>
      clear hr1
      go_enter Tryd.func9, Tryd.ntmps9
      go_wp2_with (first
        | (go_at_call 29; refine HA.out.mono ?_; rintro e w1 ⟨rfl, hb1⟩; obtain ⟨x0, x1, _⟩ := HC.out w1 hb1; have Hb1 := Lib.hid hb1; clear hb1)
        | (go_at_call 17; refine (HB1.out w1 (HC.out w1 Hb1.out).2.2.1).mono ?_; rintro e w2 ⟨rfl, hb2⟩; have Hb2 := Lib.hid (below_then Hb1.out hb2); obtain ⟨y0, y1, _⟩ := HC.out w2 Hb2.out; clear hb2)
        | (go_at_call 19; refine (h1.out w2 (HC.out w2 Hb2.out).2.2.1).mono ?_; rintro e w3 ⟨rfl, hb3⟩; have Hb3 := Lib.hid (below_then Hb2.out hb3); obtain ⟨z0, z1, _⟩ := HC.out w3 Hb3.out; clear hb3))
      go_ret
      exact ⟨by first | rfl | simp, (HC.out _ Hb3.out).2.2.1⟩
    | true =>
      have hcs : G.nodes.length = 0 ∨ (G.nodes.length ≠ 0 ∧ by0 < 0) ∨ (G.nodes.length ≠ 0 ∧ ¬ by0 < 0 ∧ 60 < more.size) ∨ (G.nodes.length ≠ 0 ∧ ¬ by0 < 0 ∧ ¬ 60 < more.size ∧ more.size = 0) ∨ (G.nodes.length ≠ 0 ∧ ¬ by0 < 0 ∧ ¬ 60 < more.size ∧ more.size ≠ 0) := by omega
      rcases hcs with h0 | ⟨h0, h2⟩ | ⟨h0, h2, h3⟩ | ⟨h0, h2, h3, h4⟩ | ⟨h0, h2, h3, h4⟩
      · have q0 : ((G.nodes.length : Int) == 0) = true := beq_iff_eq.2 (by omega)
        clear hr1 h0
        go_enter Tryd.func9, Tryd.ntmps9
        go_wp2_with (first
          | (go_at_call 29; refine HA.out.mono ?_; rintro e w1 ⟨rfl, hb1⟩; obtain ⟨x0, x1, _⟩ := HC.out w1 hb1; have Hb1 := Lib.hid hb1; clear hb1)
          | (go_at_call 17; refine (HB1.out w1 (HC.out w1 Hb1.out).2.2.1).mono ?_; rintro e w2 ⟨rfl, hb2⟩; have Hb2 := Lib.hid (below_then Hb1.out hb2); obtain ⟨y0, y1, _⟩ := HC.out w2 Hb2.out; clear hb2)
          | (go_at_call 19; refine (h1.out w2 (HC.out w2 Hb2.out).2.2.1).mono ?_; rintro e w3 ⟨rfl, hb3⟩; have Hb3 := Lib.hid (below_then Hb2.out hb3); obtain ⟨z0, z1, _⟩ := HC.out w3 Hb3.out; clear hb3))
        go_ret
        exact ⟨by first | rfl | simp, (HC.out _ Hb3.out).2.2.1⟩
      · have q0 : ((G.nodes.length : Int) == 0) = false := beq_eq_false_iff_ne.2 (by omega)
        clear hr1 h0
        go_enter Tryd.func9, Tryd.ntmps9
        go_wp2_with (first
          | (go_at_call 29; refine HA.out.mono ?_; rintro e w1 ⟨rfl, hb1⟩; obtain ⟨x0, x1, _⟩ := HC.out w1 hb1; have Hb1 := Lib.hid hb1; clear hb1)
          | (go_at_call 17; refine (HB1.out w1 (HC.out w1 Hb1.out).2.2.1).mono ?_; rintro e w2 ⟨rfl, hb2⟩; have Hb2 := Lib.hid (below_then Hb1.out hb2); obtain ⟨y0, y1, _⟩ := HC.out w2 Hb2.out; clear hb2)
          | (go_at_call 19; refine (h1.out w2 (HC.out w2 Hb2.out).2.2.1).mono ?_; rintro e w3 ⟨rfl, hb3⟩; have Hb3 := Lib.hid (below_then Hb2.out hb3); obtain ⟨z0, z1, _⟩ := HC.out w3 Hb3.out; clear hb3))
        go_ret
        exact ⟨by first | rfl | simp, (HC.out _ Hb3.out).2.2.1⟩
      · have q0 : ((G.nodes.length : Int) == 0) = false := beq_eq_false_iff_ne.2 (by omega)
        have q1 : decide (by0 < 0) = false := decide_eq_false h2
        have q2 : (60 : Int) < (more.size : Int) := by omega
        clear hr1
        go_enter Tryd.func9, Tryd.ntmps9
        go_wp2_with (first
          | (go_at_call 29; refine HA.out.mono ?_; rintro e w1 ⟨rfl, hb1⟩; obtain ⟨x0, x1, _⟩ := HC.out w1 hb1; have Hb1 := Lib.hid hb1; clear hb1)
          | (go_at_call 17; refine (HB1.out w1 (HC.out w1 Hb1.out).2.2.1).mono ?_; rintro e w2 ⟨rfl, hb2⟩; have Hb2 := Lib.hid (below_then Hb1.out hb2); obtain ⟨y0, y1, _⟩ := HC.out w2 Hb2.out; clear hb2)
          | (go_at_call 19; refine (h1.out w2 (HC.out w2 Hb2.out).2.2.1).mono ?_; rintro e w3 ⟨rfl, hb3⟩; have Hb3 := Lib.hid (below_then Hb2.out hb3); obtain ⟨z0, z1, _⟩ := HC.out w3 Hb3.out; clear hb3))
        go_ret
        exact ⟨by first | rfl | simp, (HC.out _ Hb3.out).2.2.1⟩
      · have q0 : ((G.nodes.length : Int) == 0) = false := beq_eq_false_iff_ne.2 (by omega)
        have q1 : decide (by0 < 0) = false := decide_eq_false h2
        have q2 : decide ((60 : Int) < (more.size : Int)) = false := decide_eq_false (by omega)
        have hme : more = ⟨#[]⟩ := by
          cases more with | mk d => simp [ByteArray.size] at h4; subst h4; rfl
        subst hme
        clear hr1
        go_enter Tryd.func9, Tryd.ntmps9
        go_wp2_with (first
          | (go_at_call 29; refine HA.out.mono ?_; rintro e w1 ⟨rfl, hb1⟩; obtain ⟨x0, x1, _⟩ := HC.out w1 hb1; have Hb1 := Lib.hid hb1; clear hb1)
          | (go_at_call 17; refine (HB1.out w1 (HC.out w1 Hb1.out).2.2.1).mono ?_; rintro e w2 ⟨rfl, hb2⟩; have Hb2 := Lib.hid (below_then Hb1.out hb2); obtain ⟨y0, y1, _⟩ := HC.out w2 Hb2.out; clear hb2)
          | (go_at_call 19; refine (h1.out w2 (HC.out w2 Hb2.out).2.2.1).mono ?_; rintro e w3 ⟨rfl, hb3⟩; have Hb3 := Lib.hid (below_then Hb2.out hb3); obtain ⟨z0, z1, _⟩ := HC.out w3 Hb3.out; clear hb3))
        go_ret
        exact ⟨by first | rfl | simp, (HC.out _ Hb3.out).2.2.1⟩
      · have q0 : ((G.nodes.length : Int) == 0) = false := beq_eq_false_iff_ne.2 (by omega)
        have q1 : decide (by0 < 0) = false := decide_eq_false h2
        have q2 : decide ((60 : Int) < (more.size : Int)) = false := decide_eq_false (by omega)
        have q3 : (more.toList == []) = false := by
          rw [beq_eq_false_iff_ne]
          intro e
          have := congrArg List.length e
          rw [Lib.toList_data, Array.length_toList] at this
          have h5 : more.data.size = more.size := rfl
          rw [List.length_nil] at this
          omega
        have q4 : more.toList.isEmpty = false := by
          rw [List.isEmpty_eq_false_iff]
          exact fun e => by rw [e] at q3; cases q3
        have hRR := RightR.of hr1
        have hnn := hRR.nodes
        have hmm := hRR.many
        have hn0 : 0 < G.nodes.length := Nat.pos_of_ne_zero h0
        obtain ⟨b, hbe⟩ : ∃ b : Nat, by0 % (G.nodes.length : Int) = (b : Int) := ⟨(by0 % (G.nodes.length : Int)).toNat, by have := Int.emod_nonneg by0 (b := (G.nodes.length : Int)) (by omega); omega⟩
        have hbn : b < G.nodes.length := by have := Int.emod_lt_of_pos by0 (b := (G.nodes.length : Int)) (by omega); omega
        have Hb := Lib.hid hbn
        have hbe2 : by0.tmod (G.nodes.length : Int) = (b : Int) := by rw [Int.tmod_eq_emod_of_nonneg (by omega)]; exact hbe
        have HRR := Lib.hid hRR
        have HMk : Hid (∀ w3, Below V.heap.size V w3 → ∃ M Y, (Instr.makeSlice 22 (.int .i64 (G.nodes.length : Int)) (.int .i64 (G.nodes.length : Int))).run Tryd.prog w3 = .ok (.slice (some ⟨w3.heap.size, 0, none⟩) G.nodes.length G.nodes.length) M ∧ M.alloc (.cells #[.slice (some ⟨w3.heap.size, 0, none⟩) G.nodes.length G.nodes.length, .slice none 0 0] 25) = Y ∧ M.heap.size = w3.heap.size + 1 ∧
            (Below V.heap.size V Y ∧ w.heap.size < w3.heap.size ∧ V.heap.size ≤ w3.heap.size ∧ Y.heap.size = w3.heap.size + 2 ∧ Y.heap[w3.heap.size + 1]? = some (.cells #[.slice (some ⟨w3.heap.size, 0, none⟩) G.nodes.length G.nodes.length, .slice none 0 0] 25 (0, 0))) ∧ TuSt Y w3.heap.size b G 0 (List.replicate G.nodes.length zNd) Y) := fun w3 hV3 => by
          obtain ⟨M, hmake, hbM, hsM, hnM⟩ := nodes_made w3 G.nodes.length hRR.nodes
          obtain ⟨Y, hY, hbY, hrY, hsY⟩ := boxCs M #[.slice (some ⟨w3.heap.size, 0, none⟩) G.nodes.length G.nodes.length, .slice none 0 0] 25
          have hs3 := hV3.size
          refine ⟨M, Y, hmake, hY, hsM, ⟨below_then hV3 (below_then hbM hbY), by omega, hs3, by omega, by rw [← hsM]; exact hrY⟩, Kept2.refl _ _ _, hnM.below hbY, List.length_replicate, fun j hj => ?_, ?_⟩
          · rw [if_neg (by omega)]
            simp [List.getD_eq_getElem?_getD, hj]
          · intro e he p hp
            rw [List.eq_of_mem_replicate he] at hp
            cases hp
        have hnil : ¬ G.nodes = [] := fun e => by rw [e] at hn0; simp at hn0
        have h4s := Lib.hid h4
        have HCV : Hid (∀ W, Below V.heap.size V W → W.cell? ⟨w.heap.size, 0, none⟩ = some (.slice NA G.nodes.length nc) ∧ W.cell? ⟨w.heap.size, 1, none⟩ = some (.slice RA G.roots.length rc) ∧ True) := fun W hW => ⟨(HC.out W hW).1, (HC.out W hW).2.1, trivial⟩
        clear hr1 h0 h2 h3 h4 hsV hRR hn0 hnn hmm
        go_enter Tryd.func9, Tryd.ntmps9
        go_wp2_with (first
          | (go_at_call 29; refine HA.out.mono ?_; rintro e w1 ⟨rfl, hb1⟩; obtain ⟨x0, x1, _⟩ := HC.out w1 hb1; have Hb1 := Lib.hid hb1; clear hb1)
          | (go_at_call 17; refine (HB1.out w1 (HC.out w1 Hb1.out).2.2.1).mono ?_; rintro e w2 ⟨rfl, hb2⟩; have Hb2 := Lib.hid (below_then Hb1.out hb2); obtain ⟨y0, y1, _⟩ := HC.out w2 Hb2.out; clear hb2)
          | (go_at_call 19; refine (h1.out w2 (HC.out w2 Hb2.out).2.2.1).mono ?_; rintro e w3 ⟨rfl, hb3⟩; obtain ⟨z0, z1, _⟩ := HC.out w3 (below_then Hb2.out hb3); obtain ⟨M, Y, hmake, hY, hsM, hY2, hT0⟩ := HMk.out w3 (below_then Hb2.out hb3); have HY := Lib.hid hY2; have HT0 := Lib.hid hT0; have HYe := Lib.hid hY; clear hb3 hY2 hT0 hY))
        rw [HYe.out]
        clear HYe hmake hsM z0 z1 y0 y1 x0 x1 v0 v1 HMk
        obtain ⟨T, hT⟩ : ∃ T, w3.heap.size = T := ⟨_, rfl⟩
        rw [hT] at HY HT0
        rw [hT]
        clear hT
        have HCY : Hid (∀ W, Kept2 Y W T T → Below V.heap.size V W ∧ T + 2 ≤ W.heap.size ∧ W.heap[T + 1]? = some (.cells #[.slice (some ⟨T, 0, none⟩) G.nodes.length G.nodes.length, .slice none 0 0] 25 (0, 0))) := fun W hW => by
          obtain ⟨a1, a2, a5, a3, a4⟩ := HY.out
          have hs := hW.size
          have hV := a1.size
          refine ⟨⟨hW.os.trans a1.os, hW.tape.trans a1.tape, hW.output.trans a1.output, by omega, fun k hk => (hW.block k (by omega) ?_ ?_).trans (a1.block k hk)⟩, by omega, (hW.block _ (by omega) (by omega) (by omega)).trans a4⟩ <;> (intro e; subst e; have := a3; omega)
        go_loopw [11] (fun j wz => ∃ (i : Nat) (L : List NdK), i ≤ G.nodes.length ∧ j = .int .i64 (i : Int) ∧ Hid (TuSt Y T b G i L wz)) (fun j _ => G.nodes.length - (intOf j).toNat)
        case atStart => exact ⟨0, _, Nat.zero_le _, rfl, HT0⟩
        case round =>
          obtain ⟨i, L, hi, rfl, hst⟩ := hrel
          obtain ⟨hV, hTs, hrb⟩ := HCY.out wr hst.out.keep
          obtain ⟨c0, c1, hw, hnds, _⟩ := HC.out wr hV
          by_cases hlt : i < G.nodes.length
          · obtain ⟨bn, on, rfl, hbn2, hnc⟩ := hnds (by omega)
            obtain ⟨K, kc, hnd⟩ := hnc i hlt
            have hkN := kidsNat HRR.out.toRightG hlt
            obtain ⟨e, he⟩ : ∃ e, nd G.nodes i = e := ⟨_, rfl⟩
            rw [he] at hnd hkN
            have d0 := hnd.c0
            have d1 := hnd.c1
            have d2 := hnd.c2
            have d3 := hnd.c3
            have d4 := hnd.c4
            have hlt' : (i : Int) < (G.nodes.length : Int) := by omega
            obtain ⟨ks, hks⟩ : ∃ ks, kidN G i = ks := ⟨_, rfl⟩
            rw [hks] at hkN
            have hkl : e.kids.length = ks.length := by rw [← hkN]; simp
            rw [hkl] at d3
            have HKn : Hid ((∀ y ∈ ks, y < G.nodes.length) ∧ ks.length ≤ 1000000) := ⟨fun y hy => HRR.out.lt hlt y (by rw [hks]; exact hy), by
              have := HRR.out.toRightG.kidsLen _ (nd_mem hlt)
              have h1 := sum_order (G := G) (l := [i]) (by simp) (by simpa using hlt)
              have := HRR.out.sum
              simp [he] at h1
              omega⟩
            have HKi : Hid (∀ W, Below wr.heap.size wr W → W.cell? ⟨w.heap.size, 0, none⟩ = some (.slice (some ⟨bn, on, none⟩) G.nodes.length nc) ∧ W.cell? ⟨bn, on + i * 5 + 3, none⟩ = some (.slice K ks.length kc) ∧ IntsAt W w.heap.size K (ks.map Int.ofNat)) := fun W hW => by
              obtain ⟨_, q1, q5, q3, _⟩ := HY.out
              have hz := hw.size
              refine ⟨(hW.cell (p := ⟨w.heap.size, 0, none⟩) (by show w.heap.size < _; omega)).trans c0, (hW.cell (p := ⟨bn, on + i * 5 + 3, none⟩) (by show bn < _; omega)).trans d3, ?_⟩
              rw [hkN]
              exact hnd.kids.below hW (by omega)
            have HK0 : Hid (KuSt wr e [] (.slice none 0 0) (wr.alloc (.cells #[.int .i64 e.kind, .string e.tag, .string e.text, .slice none 0 0, .bool e.plain] 33))) := ⟨(Below.refl _ wr).alloc (Nat.le_refl _) _, World.alloc_heap_new wr _, ⟨rfl, .inl ⟨rfl, rfl⟩⟩⟩
            have Hst := Lib.hid hst.out
            have HTs := Lib.hid hTs
            have Hlt := Lib.hid hlt
            have Htu : Hid (turnE G.nodes.length b (nd G.nodes i) = { e with kids := (ks.map fun y => (y + b) % G.nodes.length).map Int.ofNat }) := by
              show _ = _
              rw [he, turnE, ← hkN, List.map_map, List.map_map]
              congr 1
            clear hnc hnd hkN hks hkl he hst hV hw hnds hbn2 hi hlt hTs hrb
            go_wp2_with fail
            obtain ⟨X1, hX1⟩ : ∃ X1, wr.alloc (.cells #[.int .i64 e.kind, .string e.tag, .string e.text, .slice none 0 0, .bool e.plain] 33) = X1 := ⟨_, rfl⟩
            rw [hX1] at HK0 ⊢
            clear hX1 c0 c1 d0 d1 d2 d3 d4
            obtain ⟨W0, hW0⟩ : ∃ W0, W0 = wr := ⟨_, rfl⟩
            rw [← hW0] at HKi HK0 Hst HTs ⊢
            clear hW0
            have hmI : ∀ z : Int, z = i + 1 → G.nodes.length - (intOf (.int .i64 z)).toNat < G.nodes.length - (intOf (.int .i64 (i : Int))).toNat := by intro z hz; subst hz; have := Hlt.out; simp only [intOf]; omega
            have HWi : Hid (wrap64 ((i : Int) + 1) = i + 1) := wrapJ_small (by omega) (by have := HRR.out.nodes; have := Hlt.out; omega)
            go_loopw [13] (fun j wi => ∃ (q : Nat) (kv : Value), q ≤ ks.length ∧ j = .int .i64 (q : Int) ∧ Hid (KuSt W0 e ((ks.take q).map fun y => (y + b) % G.nodes.length) kv wi)) (fun j _ => ks.length - (intOf j).toNat)
            case atStart => exact ⟨0, _, Nat.zero_le _, rfl, HK0⟩
            case round =>
              obtain ⟨q, kv, hq, rfl, hst⟩ := hrel
              obtain ⟨f0, f3, fI⟩ := HKi.out wr hst.out.below
              have hi' : (i : Int) < (G.nodes.length : Int) := by have := Hlt.out; omega
              by_cases hlq : q < ks.length
              · obtain ⟨b2, o2, rfl, hb2, hc2⟩ := fI (by rw [List.length_map]; omega)
                have hcq : wr.cell? ⟨b2, o2 + q, none⟩ = some (.int .i64 (ks[q] : Nat)) := by
                  rw [hc2 q (by rw [List.length_map]; exact hlq)]
                  simp [nth, hlq]
                have hyn := HKn.out.1 ks[q] (List.getElem_mem hlq)
                have htk : ks.take (q + 1) = ks.take q ++ [ks[q]] := List.take_succ_eq_append_getElem hlq
                obtain ⟨y, hy⟩ : ∃ y, ks[q] = y := ⟨_, rfl⟩
                rw [hy] at hcq hyn htk
                obtain ⟨lz, hlz⟩ : ∃ l, (ks.take q).map (fun y => (y + b) % G.nodes.length) = l := ⟨_, rfl⟩
                have hlz1 : (ks.take (q + 1)).map (fun y => (y + b) % G.nodes.length) = lz ++ [(y + b) % G.nodes.length] := by rw [htk, List.map_append, hlz]; rfl
                have HLz := Lib.hid hlz1
                rw [hlz] at hst
                have hll : lz.length ≤ 1000000000 := by
                  have h1 := congrArg List.length hlz
                  have := HKn.out.2
                  simp at h1; omega
                obtain ⟨z, hz⟩ : ∃ z, (y + b) % G.nodes.length = z := ⟨_, rfl⟩
                rw [hz] at HLz
                have hyb : (0 : Int) ≤ (y : Int) + (b : Int) ∧ (y : Int) + (b : Int) ≤ 1000000000000 := ⟨by omega, by have := HRR.out.nodes; have := Hb.out; omega⟩
                have hadd := wrapJ_small hyb.1 hyb.2
                have hadd2 := wrapI_small hyb.1 hyb.2
                obtain ⟨hrem, hrem2⟩ := rem_nat hz
                clear hyb
                have b1 := Lib.cell_of_heap hst.out.box 3
                have hal : ∀ b, b < wr.heap.size → ((wr.alloc (.cells #[.int .i64 (z : Int)] 3)).drew).heap[b]? = wr.heap[b]? := fun b hb => Below.heap_alloc wr _ b hb
                have hbo : W0.heap.size < wr.heap.size := (Array.getElem?_eq_some_iff.1 hst.out.box).1
                have hcl : ∀ (p : Addr) u, wr.cell? p = some u → ((wr.alloc (.cells #[.int .i64 (z : Int)] 3)).drew).cell? p = some u := fun p u hu => (World.cell?_of_block (hal p.block (World.block_lt_of_cell? wr p hu))).trans hu
                have f0' := hcl _ _ f0
                have f1' := hcl _ _ f3
                have f2' := hcl _ _ hcq
                have f3' := hcl _ _ b1
                obtain ⟨Ar, cr, hkv, _⟩ := ints_row hst.out.kids
                subst hkv
                obtain ⟨v', w', hrun, r1, r2, r3, g, r4⟩ := run_appR ((wr.alloc (.cells #[.int .i64 (z : Int)] 3)).drew) (.slice Ar lz.length cr) lz z ((hst.out.kids.alloc _).drew) wr.heap.size (by simp) hll (by simp; omega)
                obtain ⟨A2, m2, c2, hv2⟩ : ∃ A m c, v' = .slice A m c := by obtain ⟨A, c, h, _⟩ := ints_row r1; exact ⟨A, _, c, h⟩
                subst hv2
                obtain ⟨⟨z1, z2⟩, hE⟩ := hst.out.push (o := .cells #[.int .i64 (z : Int)] 3) ⟨r2.os, r2.tape, r2.output, r2.size, r2.block⟩ r1
                rw [← HLz.out] at hE
                have HE := Lib.hid hE
                have hlt3 : (q : Int) < (ks.length : Int) := by omega
                have Hlq := Lib.hid hlq
                have hmz : ∀ z : Int, z = q + 1 → ks.length - (intOf (.int .i64 z)).toNat < ks.length - (intOf (.int .i64 (q : Int))).toNat := by intro z hz; subst hz; have := Hlq.out; simp only [intOf]; omega
                have HWr : Hid (wrap64 ((q : Int) + 1) = q + 1) := IntWalk.wrap64_in _ (by have := Hlq.out; have := HKn.out.2; omega)
                clear hc2 hy htk hlz hlz1 hst hz hal hcl hbo hlq hq hb2 r1 r2 r3 r4 hE fI
                go_wp2_with fail
                apply wp_still3 (w2 := w'.setCell ⟨W0.heap.size, 3, none⟩ (.slice A2 m2 c2))
                · go_region_law (first | (refine step_appRun rfl _ _ rfl (.slice Ar lz.length cr) _ rfl rfl hrun ?_))
                  all_goals exact ⟨rfl, rfl⟩
                obtain ⟨W5, hW5⟩ : ∃ W5, w'.setCell ⟨W0.heap.size, 3, none⟩ (.slice A2 m2 c2) = W5 := ⟨_, rfl⟩
                rw [hW5] at HE ⊢
                clear hW5 hrun f0' f1' f2' f3' z1 z2 b1 f0 f3 hcq
                go_wp2_with fail
                first
                  | exact ⟨⟨q + 1, _, Hlq.out, by simp, HE⟩, hmz _ rfl⟩
                  | exact ⟨⟨q + 1, _, Hlq.out, congrArg (Value.int .i64) (HWr.out.trans (by simp)), HE⟩, hmz _ HWr.out⟩
              · obtain rfl : q = ks.length := by omega
                have hd3 : ¬ (ks.length : Int) < (ks.length : Int) := by omega
                have hst1 := hst.out
                rw [List.take_of_length_le (Nat.le_refl _)] at hst1
                obtain ⟨k, hk⟩ : ∃ k, (i + b) % G.nodes.length = k := ⟨_, rfl⟩
                have hkn : k < G.nodes.length := by rw [← hk]; exact Nat.mod_lt _ (by have := Hlt.out; omega)
                have hTW : T < W0.heap.size := by have := HTs.out; omega
                obtain ⟨A', c', hkv, hKid, hKf⟩ := hst1.kid (T := T) (n := G.nodes.length) (c := G.nodes.length) hTW
                rw [List.length_map] at hkv
                have hthere : wr.drew.there T (k * 5) 5 := fun j hj => by
                  have hb := (Hst.out.nds.below hst1.below).own
                  rw [Hst.out.len] at hb
                  have h1 := hb.cellAt (k * 5 + j) (by omega)
                  have h2 : k * 5 + j < (nrows L).length := by rw [nrows_len, Hst.out.len]; omega
                  rw [List.getElem?_eq_getElem h2] at h1
                  exact ⟨by show (wr.cell? _).isSome = true; rw [h1]; rfl, hb.frozenAt (k * 5 + j)⟩
                have hput := Hst.out.put Hlt.out Hb.out hk hst1.below.drew (hKid.keep (W' := wr.drew) (Nat.le_refl _) fun _ _ _ _ => rfl) Htu.out.symm fun p hp => Nat.le_trans HTs.out (hKf p hp)
                have n1 : T ≠ T + 1 := by omega
                have n2 : T ≠ W0.heap.size := by omega
                have HPut := Lib.hid hput
                obtain ⟨_, _, hrb⟩ := HCY.out W0 Hst.out.keep
                have hrb2 := (hst1.below.block (T + 1) (by have := HTs.out; omega)).trans hrb
                have m0 := Lib.cell_of_heap hrb2 0
                have x0 := Lib.cell_of_heap hst1.box 0
                have x1 := Lib.cell_of_heap hst1.box 1
                have x2 := Lib.cell_of_heap hst1.box 2
                have x3 := Lib.cell_of_heap hst1.box 3
                have x4 := Lib.cell_of_heap hst1.box 4
                have hib : (0 : Int) ≤ (i : Int) + (b : Int) ∧ (i : Int) + (b : Int) ≤ 1000000000000 := ⟨by omega, by have := HRR.out.nodes; have := Hb.out; have := Hlt.out; omega⟩
                have hadd := wrapJ_small hib.1 hib.2
                have hadd2 := wrapI_small hib.1 hib.2
                obtain ⟨hrem, hrem2⟩ := rem_nat hk
                have hkn' : (k : Int) < (G.nodes.length : Int) := by omega
                subst hkv
                have HKp : Hid (∀ W' : World, (∀ c, c ≠ T → W'.heap[c]? = wr.heap[c]?) → W'.cell? ⟨T + 1, 0, none⟩ = some (.slice (some ⟨T, 0, none⟩) G.nodes.length G.nodes.length) ∧ W'.cell? ⟨W0.heap.size, 0, none⟩ = some (.int .i64 e.kind) ∧ W'.cell? ⟨W0.heap.size, 1, none⟩ = some (.string e.tag) ∧ W'.cell? ⟨W0.heap.size, 2, none⟩ = some (.string e.text) ∧ W'.cell? ⟨W0.heap.size, 3, none⟩ = some (.slice A' ks.length c') ∧ W'.cell? ⟨W0.heap.size, 4, none⟩ = some (.bool e.plain)) := fun W' h => by
                  have a := h (T + 1) (by omega)
                  have c := h W0.heap.size (by omega)
                  exact ⟨(World.cell?_of_block a).trans m0, (World.cell?_of_block c).trans x0, (World.cell?_of_block c).trans x1, (World.cell?_of_block c).trans x2, (World.cell?_of_block c).trans x3, (World.cell?_of_block c).trans x4⟩
                clear hst hst1 hput hrb hrb2 hib hKid hKf hk hkn hTW hlq hq fI
                go_wp2_with fail
                have hk0 : (0 : Int) ≤ (k : Int) := Int.natCast_nonneg k
                have hfive : wr.drew.setCells T (k * 5) [.int .i64 e.kind, .string e.tag, .string e.text, .slice A' ks.length c', .bool e.plain] = five wr.drew T k ({ e with kids := (ks.map fun y => (y + b) % G.nodes.length).map Int.ofNat }, A', c') := by
                  unfold five
                  simp only [List.length_map]
                  rfl
                have HFive := Lib.hid hfive
                clear f0 f3 n1 n2 hfive m0 x0 x1 x2 x3 x4
                apply wp_still3 (w2 := five wr.drew T k ({ e with kids := (ks.map fun y => (y + b) % G.nodes.length).map Int.ofNat }, A', c'))
                · refine wp_region_held_drew (S := fun W' => W'.cell? ⟨T + 1, 0, none⟩ = some (.slice (some ⟨T, 0, none⟩) G.nodes.length G.nodes.length) ∧ W'.cell? ⟨W0.heap.size, 0, none⟩ = some (.int .i64 e.kind) ∧ W'.cell? ⟨W0.heap.size, 1, none⟩ = some (.string e.tag) ∧ W'.cell? ⟨W0.heap.size, 2, none⟩ = some (.string e.text) ∧ W'.cell? ⟨W0.heap.size, 3, none⟩ = some (.slice A' ks.length c') ∧ W'.cell? ⟨W0.heap.size, 4, none⟩ = some (.bool e.plain)) (by kernel_rfl) (HKp.out _ (fun _ _ => rfl)) (fun hHeld => ?_)
                  refine wpAnyH_take (i := 0) (v := ?_) rfl (by kernel_rfl) (by kernel_rfl) (by kernel_rfl) (fun _ _ _ h => h) (Or.inl ⟨by rfl, ?_⟩) hHeld ?_; rotate_left; (intro W hSw; obtain ⟨_, _, _, _, _, _⟩ := hSw; go_simp; with_reducible rfl); try simp only [Act.put, List.getElem_toArray, List.getElem_cons_zero, List.setIfInBounds_toArray, List.set_cons_zero, List.set_cons_succ]
                  refine wpAnyH_take (i := 1) (v := ?_) rfl (by kernel_rfl) (by kernel_rfl) (by kernel_rfl) (fun _ _ _ h => h) (Or.inl ⟨by rfl, ?_⟩) hHeld ?_; rotate_left; (intro W hSw; obtain ⟨_, _, _, _, _, _⟩ := hSw; go_simp; with_reducible rfl); try simp only [Act.put, List.getElem_toArray, List.getElem_cons_succ, List.getElem_cons_zero, List.setIfInBounds_toArray, List.set_cons_zero, List.set_cons_succ]
                  refine wpAnyH_take (i := 2) (v := ?_) rfl (by kernel_rfl) (by kernel_rfl) (by kernel_rfl) (fun _ _ _ h => h) (Or.inl ⟨by rfl, ?_⟩) hHeld ?_; rotate_left; (intro W hSw; obtain ⟨_, _, _, _, _, _⟩ := hSw; go_simp; with_reducible rfl); try simp only [Act.put, List.getElem_toArray, List.getElem_cons_succ, List.getElem_cons_zero, List.setIfInBounds_toArray, List.set_cons_zero, List.set_cons_succ]
                  refine wpAnyH_take (i := 3) (v := ?_) rfl (by kernel_rfl) (by kernel_rfl) (by kernel_rfl) (fun _ _ _ h => h) (Or.inl ⟨by rfl, ?_⟩) hHeld ?_; rotate_left; (intro W hSw; obtain ⟨_, _, _, _, _, _⟩ := hSw; go_simp; with_reducible rfl); try simp only [Act.put, List.getElem_toArray, List.getElem_cons_succ, List.getElem_cons_zero, List.setIfInBounds_toArray, List.set_cons_zero, List.set_cons_succ]
                  refine wpAnyH_take (i := 4) (v := ?_) rfl (by kernel_rfl) (by kernel_rfl) (by kernel_rfl) (fun _ _ _ h => h) (Or.inl ⟨by rfl, ?_⟩) hHeld ?_; rotate_left; (intro W hSw; obtain ⟨_, _, _, _, _, _⟩ := hSw; go_simp; with_reducible rfl); try simp only [Act.put, List.getElem_toArray, List.getElem_cons_succ, List.getElem_cons_zero, List.setIfInBounds_toArray, List.set_cons_zero, List.set_cons_succ]
                  refine wpAnyH_take (i := 5) (v := ?_) rfl (by kernel_rfl) (by kernel_rfl) (by kernel_rfl) (fun _ _ _ h => h) (Or.inl ⟨by rfl, ?_⟩) hHeld ?_; rotate_left; (intro W hSw; obtain ⟨_, _, _, _, _, _⟩ := hSw; go_simp; with_reducible rfl); try simp only [Act.put, List.getElem_toArray, List.getElem_cons_succ, List.getElem_cons_zero, List.setIfInBounds_toArray, List.set_cons_zero, List.set_cons_succ]
                  refine wpAnyH_take (i := 6) (v := ?_) rfl (by kernel_rfl) (by kernel_rfl) (by kernel_rfl) (fun _ _ _ h => h) (Or.inl ⟨by rfl, ?_⟩) hHeld ?_; rotate_left; (intro W hSw; obtain ⟨_, _, _, _, _, _⟩ := hSw; go_simp; with_reducible rfl); try simp only [Act.put, List.getElem_toArray, List.getElem_cons_succ, List.getElem_cons_zero, List.setIfInBounds_toArray, List.set_cons_zero, List.set_cons_succ]
                  refine wpAnyH_take (i := 7) (v := ?_) rfl (by kernel_rfl) (by kernel_rfl) (by kernel_rfl) (fun _ _ _ h => h) (Or.inl ⟨by rfl, ?_⟩) hHeld ?_; rotate_left; (intro W hSw; obtain ⟨_, _, _, _, _, _⟩ := hSw; go_simp; with_reducible rfl); try simp only [Act.put, List.getElem_toArray, List.getElem_cons_succ, List.getElem_cons_zero, List.setIfInBounds_toArray, List.set_cons_zero, List.set_cons_succ]
                  refine wpAnyH_take (i := 8) (v := ?_) rfl (by kernel_rfl) (by kernel_rfl) (by kernel_rfl) (fun _ _ _ h => h) (Or.inl ⟨by rfl, ?_⟩) hHeld ?_; rotate_left; (intro W hSw; obtain ⟨_, _, _, _, _, _⟩ := hSw; go_simp; with_reducible rfl); try simp only [Act.put, List.getElem_toArray, List.getElem_cons_succ, List.getElem_cons_zero, List.setIfInBounds_toArray, List.set_cons_zero, List.set_cons_succ]
                  clear hHeld
                  refine wpAnyH_ready (rs := [9]) (by kernel_rfl) (by simp) (AllReadyH.cons rfl (fun K hK => ?_) .nil)
                  have HK := Lib.hid hK
                  clear hK
                  rw [if_pos (by rfl)]
                  refine wp_store_mid 33 _ _ rfl T (k * 5) #[.int .i64 e.kind, .string e.tag, .string e.text, .slice A' ks.length c', .bool e.plain] rfl rfl hthere (by kernel_rfl) (by simp [Value.oneCell']) ?_
                  have HE : Hid ((∀ c, c ≠ T → (five wr.drew T k ({ e with kids := (ks.map fun y => (y + b) % G.nodes.length).map Int.ofNat }, A', c')).heap[c]? = wr.heap[c]?)) := fun c hc => five_far wr.drew T k _ c hc
                  rw [show (#[Value.int .i64 e.kind, .string e.tag, .string e.text, .slice A' ks.length c', .bool e.plain]).toList = [Value.int .i64 e.kind, .string e.tag, .string e.text, .slice A' ks.length c', .bool e.plain] from rfl, HFive.out]
                  refine HK.out.out _ _ (HKp.out _ HE.out) (fun _ => ?_)
                  refine wpAnyH_done (by kernel_rfl) ?_ _
                  exact ⟨rfl, rfl⟩
                have HPut2 := Lib.hid HPut.out
                obtain ⟨W6, hW6⟩ : ∃ W6, five wr.drew T k ({ e with kids := (ks.map fun y => (y + b) % G.nodes.length).map Int.ofNat }, A', c') = W6 := ⟨_, rfl⟩
                rw [hW6] at HPut2 ⊢
                clear hW6 hadd hadd2 hrem hrem2 HFive HKp hthere hkn' hk0
                go_wp2_with fail
                first
                  | exact ⟨⟨i + 1, _, Hlt.out, by simp, HPut2⟩, hmI _ rfl⟩
                  | exact ⟨⟨i + 1, _, Hlt.out, congrArg (Value.int .i64) (HWi.out.trans (by simp)), HPut2⟩, hmI _ HWi.out⟩
          · obtain rfl : i = G.nodes.length := by omega
            obtain ⟨X, rfl⟩ : ∃ X, X = wr := ⟨_, rfl⟩
            have hd2 : ¬ (G.nodes.length : Int) < (G.nodes.length : Int) := by omega
            have HSt := Lib.hid hst.out
            have HZ : Hid (∀ W, Kept2 X W (T + 1) (T + 1) → Below V.heap.size V W ∧ T + 2 ≤ W.heap.size) := fun W hW => by
              obtain ⟨a1, a2, a5, a3, a4⟩ := HY.out
              exact ⟨hW.below hV (by omega) (by omega), Nat.le_trans hTs hW.size⟩
            have HR0 : Hid (RuSt X (T + 1) (.slice (some ⟨T, 0, none⟩) G.nodes.length G.nodes.length) (.slice none 0 0) (((rootN G).take 0).map fun y => (y + b) % G.nodes.length) X) := ⟨Kept2.refl _ _ _, hrb, ⟨rfl, .inl ⟨rfl, rfl⟩⟩⟩
            have HTs := Lib.hid hTs
            clear hst hV hTs hrb hw hnds hlt hi HCY c0 c1
            go_wp2_with fail
            go_loopw [14] (fun j wz => ∃ (k : Nat) (rv : Value), k ≤ G.roots.length ∧ j = .int .i64 (k : Int) ∧ Hid (RuSt X (T + 1) (.slice (some ⟨T, 0, none⟩) G.nodes.length G.nodes.length) rv (((rootN G).take k).map fun y => (y + b) % G.nodes.length) wz)) (fun j _ => G.roots.length - (intOf j).toNat)
            case atStart => exact ⟨0, _, Nat.zero_le _, rfl, HR0⟩
            case round =>
              obtain ⟨k, rv, hk, rfl, hst⟩ := hrel
              obtain ⟨hV, hTs⟩ := HZ.out wr hst.out.keep
              obtain ⟨c0, c1, hw, hnds, hro⟩ := HC.out wr hV
              have hrl : (rootN G).length = G.roots.length := by simp [rootN]
              by_cases hlt : k < G.roots.length
              · obtain ⟨b2, off, rfl, hbw, hcc⟩ := hro (by omega)
                have hck := hcc k hlt
                have hr0 := HRR.out.roots _ (nth_mem hlt)
                obtain ⟨y, hr⟩ : ∃ r : Nat, nth G.roots k = (r : Int) := ⟨(nth G.roots k).toNat, by omega⟩
                rw [hr] at hck
                have hyn : y < G.nodes.length := by omega
                have htk : (rootN G).take (k + 1) = (rootN G).take k ++ [y] := by
                  have h1 : k < (rootN G).length := by omega
                  rw [List.take_succ_eq_append_getElem h1]
                  congr 2
                  rw [nth_eq hlt] at hr
                  simp [rootN, hr]
                obtain ⟨lz, hlz⟩ : ∃ l, ((rootN G).take k).map (fun y => (y + b) % G.nodes.length) = l := ⟨_, rfl⟩
                have hlz1 : ((rootN G).take (k + 1)).map (fun y => (y + b) % G.nodes.length) = lz ++ [(y + b) % G.nodes.length] := by rw [htk, List.map_append, hlz]; rfl
                have HLz := Lib.hid hlz1
                rw [hlz] at hst
                have hmm := HRR.out.many
                have hnn := HRR.out.nodes
                have hll : lz.length ≤ 1000000000 := by
                  have h1 := congrArg List.length hlz
                  simp at h1; omega
                obtain ⟨z, hz⟩ : ∃ z, (y + b) % G.nodes.length = z := ⟨_, rfl⟩
                rw [hz] at HLz
                have hyb : (0 : Int) ≤ (y : Int) + (b : Int) ∧ (y : Int) + (b : Int) ≤ 1000000000000 := ⟨by omega, by have := Hb.out; omega⟩
                have hadd := wrapJ_small hyb.1 hyb.2
                have hadd2 := wrapI_small hyb.1 hyb.2
                obtain ⟨hrem, hrem2⟩ := rem_nat hz
                obtain ⟨Ar, cr, hrv, _⟩ := ints_row hst.out.rts
                subst hrv
                have b1 := Lib.cell_of_heap hst.out.out 1
                have hal : ∀ b, b < wr.heap.size → ((wr.alloc (.cells #[.int .i64 (z : Int)] 3)).drew).heap[b]? = wr.heap[b]? := fun b hb => Below.heap_alloc wr _ b hb
                have hcl : ∀ (p : Addr) u, wr.cell? p = some u → ((wr.alloc (.cells #[.int .i64 (z : Int)] 3)).drew).cell? p = some u := fun p u hu => (World.cell?_of_block (hal p.block (World.block_lt_of_cell? wr p hu))).trans hu
                have f0 := hcl _ _ c1
                have f1 := hcl _ _ hck
                have f2 := hcl _ _ b1
                obtain ⟨v', w', hrun, r1, r2, r3, g, r4⟩ := run_appR ((wr.alloc (.cells #[.int .i64 (z : Int)] 3)).drew) (.slice Ar lz.length cr) lz z ((hst.out.rts.alloc _).drew) wr.heap.size (by simp) hll (by have := hst.out.keep.size; simp; omega)
                obtain ⟨A2, m2, c2, hv2⟩ : ∃ A m c, v' = .slice A m c := by obtain ⟨A, c, h, _⟩ := ints_row r1; exact ⟨A, _, c, h⟩
                subst hv2
                have hTX : T + 1 < X.heap.size := by have := (HZ.out X (Kept2.refl _ _ _)).2; omega
                obtain ⟨⟨z1, z2⟩, hE⟩ := hst.out.push (o := .cells #[.int .i64 (z : Int)] 3) hTX ⟨r2.os, r2.tape, r2.output, r2.size, r2.block⟩ r1
                rw [← HLz.out] at hE
                have HE := Lib.hid hE
                have hlt3 : (k : Int) < (G.roots.length : Int) := by omega
                have Hlt := Lib.hid hlt
                have hmz : ∀ z : Int, z = k + 1 → G.roots.length - (intOf (.int .i64 z)).toNat < G.roots.length - (intOf (.int .i64 (k : Int))).toNat := by intro z hz; subst hz; have := Hlt.out; simp only [intOf]; omega
                have HWr : Hid (wrap64 ((k : Int) + 1) = k + 1) := IntWalk.wrap64_in _ (by have := Hlt.out; have := HRR.out.many; omega)
                clear hcc hr0 hr htk hz hlz hlz1 hst hrl hlt hk hbw hal hcl r1 r2 r3 r4 hE hTX hV hTs hw hnds hro hyb hmm hnn
                go_wp2_with fail
                apply wp_still3 (w2 := w'.setCell ⟨T + 1, 1, none⟩ (.slice A2 m2 c2))
                · go_region_law (first | (refine step_appRun rfl _ _ rfl (.slice Ar lz.length cr) _ rfl rfl hrun ?_))
                  all_goals exact ⟨rfl, rfl⟩
                obtain ⟨W5, hW5⟩ : ∃ W5, w'.setCell ⟨T + 1, 1, none⟩ (.slice A2 m2 c2) = W5 := ⟨_, rfl⟩
                rw [hW5] at HE ⊢
                clear hW5 hrun f0 f1 f2 z1 z2 b1 hck c0 c1 hadd hadd2 hrem hrem2
                go_wp2_with fail
                first
                  | exact ⟨⟨k + 1, _, Hlt.out, by simp, HE⟩, hmz _ rfl⟩
                  | exact ⟨⟨k + 1, _, Hlt.out, congrArg (Value.int .i64) (HWr.out.trans (by simp)), HE⟩, hmz _ HWr.out⟩
              · obtain rfl : k = G.roots.length := by omega
                have hd3 : ¬ (G.roots.length : Int) < (G.roots.length : Int) := by omega
                have hst1 := hst.out
                rw [List.take_of_length_le (by omega)] at hst1
                obtain ⟨RA2, rc2, hrv, hTn⟩ := HSt.out.graph (by have := (HZ.out X (Kept2.refl _ _ _)).2; omega) hst1
                subst hrv
                have HTn := Lib.hid hTn
                have HVw := Lib.hid hV
                have e3 : (turnG G b).roots.length = G.roots.length := by simp [turnG]
                have hRH := turn_right HRR.out Hb.out
                have hokH := turn_ok (b := b) HokG.out HRR.out.nodes
                have hokR := turn_okR (b := b) HokR.out
                have hsm := same_turn HRR.out Hb.out
                have HRH := Lib.hid hRH
                have hVs := hV.size
                obtain ⟨Z, hZe⟩ : ∃ Z, Z = wr := ⟨_, rfl⟩
                rw [← hZe] at HTn HVw c0 c1 ⊢
                clear hZe
                have HW : Hid (∀ W, Below Z.heap.size Z W → Below V.heap.size V W ∧ Below w.heap.size w W ∧ TnAt T G.nodes.length (turnG G b) RA2 rc2 L W ∧ W.cell? ⟨w.heap.size, 0, none⟩ = some (.slice NA G.nodes.length nc) ∧ W.cell? ⟨w.heap.size, 1, none⟩ = some (.slice RA G.roots.length rc) ∧ W.cell? ⟨T + 1, 0, none⟩ = some (.slice (some ⟨T, 0, none⟩) G.nodes.length G.nodes.length) ∧ W.cell? ⟨T + 1, 1, none⟩ = some (.slice RA2 G.roots.length rc2)) := fun W hW => by
                  have h1 := below_then HVw.out hW
                  obtain ⟨a0, a1, a2, _, _⟩ := HC.out W h1
                  have h2 := HTn.out.below hW
                  have h3 := h2.out
                  rw [e3] at h3
                  exact ⟨h1, a2, h2, a0, a1, Lib.cell_of_heap h3 0, Lib.cell_of_heap h3 1⟩
                have HS : Hid (∀ W, Below Z.heap.size Z W → Calls Tryd.prog 30 #[.agg #[.slice NA G.nodes.length nc, .slice RA G.roots.length rc], .agg #[.slice (some ⟨T, 0, none⟩) G.nodes.length G.nodes.length, .slice RA2 G.roots.length rc2]] W fun e w' => e = .returned (.bool true) ∧ Below W.heap.size W w') := fun W hW => by
                  obtain ⟨_, h1, h2, _⟩ := HW.out W hW
                  have h3 := h2.gr
                  rw [e3] at h3
                  have := Same_any G (turnG G b) _ _ W (HGW.out W h1) h3 HokG.out hokH (HTb.out W h1)
                  rwa [hsm] at this
                have HRc : Hid (∀ r W, Below Z.heap.size Z W → Calls Tryd.prog 22 #[.agg #[.slice (some ⟨T, 0, none⟩) G.nodes.length G.nodes.length, .slice RA2 G.roots.length rc2], .int .i64 r] W fun e w' => ∃ A c, e = .returned (.slice A (reachL (turnG G b) r).length c) ∧ IntsAt w' w'.heap.size A ((reachL (turnG G b) r).map Int.ofNat) ∧ Below W.heap.size W w' ∧ ∀ p, A = some p → p.block ≠ T) := fun r W hW => by
                  obtain ⟨_, h1, h2, _⟩ := HW.out W hW
                  have h3 := h2.gr
                  rw [e3] at h3
                  refine (RReach_any (turnG G b) _ r W h3 hokR).mono ?_
                  rintro e w' ⟨A, c, rfl, q1, _, q3, q4⟩
                  refine ⟨A, c, rfl, q1, q3, fun p hp => ?_⟩
                  have := q4 p hp
                  have := (Array.getElem?_eq_some_iff.1 h2.out).1
                  omega
                have HokH := Lib.hid hokH
                obtain ⟨_, _, _, _, _, m0, m1⟩ := HW.out Z (Below.refl _ _)
                clear hst hst1 hTn hlt hk hV hw hnds hro hrl hTs HZ HR0 HSt e3 hRH hokH hokR hsm hVs HC
                by_cases hr0 : G.roots.length = 0
                · have q5 : ((G.roots.length : Int) == 0) = true := beq_iff_eq.2 (by omega)
                  clear hr0
                  go_wp2_with (go_at_call 30; refine (HS.out Z (Below.refl _ _)).mono ?_; rintro e w5 ⟨rfl, hb5⟩; obtain ⟨_, _, _, k0, k1, k2, k3⟩ := HW.out w5 hb5; have Hb5 := Lib.hid hb5; clear hb5)
                  go_ret
                  exact ⟨by first | rfl | simp, (HW.out w5 Hb5.out).2.1⟩
                · have q5 : ((G.roots.length : Int) == 0) = false := beq_eq_false_iff_ne.2 (by omega)
                  have q6 : (0 : Int) < (G.roots.length : Int) := by omega
                  have q8 : 0 < G.roots.length := by omega
                  have hH0 : 0 < (turnG G b).roots.length := by simp [turnG]; omega
                  obtain ⟨bR, oR, rfl, hbR, hcR⟩ := HTn.out.rts hH0
                  have hz0 := HRH.out.roots _ (nth_mem hH0)
                  obtain ⟨z0, hz0e⟩ : ∃ r : Nat, nth (turnG G b).roots 0 = (r : Int) := ⟨(nth (turnG G b).roots 0).toNat, by omega⟩
                  have hcR0 := hcR 0 hH0
                  rw [hz0e, Nat.add_zero] at hcR0
                  have HZ0 : Hid (z0 ∈ rootN (turnG G b) ∧ reachL (turnG G b) z0 = metL (turnG G b) z0) := by
                    have h1 := nth_mem hH0
                    rw [hz0e] at h1 hz0
                    refine ⟨List.mem_map.2 ⟨_, h1, by simp⟩, ?_⟩
                    have h2 : isB (turnG G b) z0 = true := by simp [isB, HRH.out.to]; omega
                    rw [reachL, if_pos h2]; simp
                  have HRc2 := Lib.hid (HRc.out z0)
                  rw [HZ0.out.2] at HRc2
                  obtain ⟨Lr, hLr⟩ : ∃ l, metL (turnG G b) z0 = l := ⟨_, rfl⟩
                  have HLr : Hid (∀ x ∈ Lr, x ∈ orderL (turnG G b) ∧ x < G.nodes.length) := fun x hx => by
                    rw [← hLr] at hx
                    have h1 := reach_order HRH.out HZ0.out.1 hx
                    have h2 := HRH.out.ord.lt x h1
                    rw [turnG_len] at h2
                    exact ⟨h1, h2⟩
                  have HLl : Hid (Lr.length ≤ 20000) := by
                    have h1 : z0 < (turnG G b).nodes.length := by rw [hz0e] at hz0; omega
                    have h2 := HRH.out.toRightG.met h1
                    have h4 := h2.nodup
                    have h5 := h2.lt
                    rw [hLr] at h4 h5
                    have h3 := nodup_short _ _ h4 h5
                    rw [turnG_len] at h3
                    have := HRR.out.nodes
                    show _ ≤ _
                    omega
                  rw [hLr] at HRc2
                  have HbR : Hid (∀ W, Below Z.heap.size Z W → W.cell? ⟨bR, oR, none⟩ = some (.int .i64 (z0 : Int))) := fun W hW => (hW.cell (p := ⟨bR, oR, none⟩) hbR).trans hcR0
                  clear hr0 hH0 hbR hcR hz0 hz0e hLr HRc
                  go_wp2_with (first
                    | (go_at_call 30; refine (HS.out Z (Below.refl _ _)).mono ?_; rintro e w5 ⟨rfl, hb5⟩; obtain ⟨_, _, _, k0, k1, k2, k3⟩ := HW.out w5 hb5; have kR := HbR.out w5 hb5; have Hb5 := Lib.hid hb5; clear hb5))
                  have Hb5d : Hid (Below Z.heap.size Z w5.drew) := Hb5.out.drew
                  clear k0 k1 m0 m1 c0 c1
                  refine wp_region_held_drew (S := fun W' => W'.cell? ⟨T + 1, 0, none⟩ = some (.slice (some ⟨T, 0, none⟩) G.nodes.length G.nodes.length) ∧ W'.cell? ⟨T + 1, 1, none⟩ = some (.slice (some ⟨bR, oR, none⟩) G.roots.length rc2) ∧ W'.cell? ⟨bR, oR, none⟩ = some (.int .i64 (z0 : Int))) (by kernel_rfl) ⟨k2, k3, kR⟩ (fun hHeld => ?_)
                  refine wpAnyH_take (i := 0) (v := ?_) rfl (by kernel_rfl) (by kernel_rfl) (by kernel_rfl) (fun _ _ _ h => h) (Or.inl ⟨by rfl, ?_⟩) hHeld ?_; rotate_left; (intro W hSw; obtain ⟨_, _, _⟩ := hSw; go_simp; with_reducible rfl); try simp only [Act.put, List.getElem_toArray, List.getElem_cons_zero, List.setIfInBounds_toArray, List.set_cons_zero, List.set_cons_succ]
                  refine wpAnyH_take (i := 1) (v := ?_) rfl (by kernel_rfl) (by kernel_rfl) (by kernel_rfl) (fun _ _ _ h => h) (Or.inl ⟨by rfl, ?_⟩) hHeld ?_; rotate_left; (intro W hSw; obtain ⟨_, _, _⟩ := hSw; go_simp; with_reducible rfl); try simp only [Act.put, List.getElem_toArray, List.getElem_cons_succ, List.getElem_cons_zero, List.setIfInBounds_toArray, List.set_cons_zero, List.set_cons_succ]
                  refine wpAnyH_take (i := 2) (v := ?_) rfl (by kernel_rfl) (by kernel_rfl) (by kernel_rfl) (fun _ _ _ h => h) (Or.inl ⟨by rfl, ?_⟩) hHeld ?_; rotate_left; (intro W hSw; obtain ⟨_, _, _⟩ := hSw; go_simp; with_reducible rfl); try simp only [Act.put, List.getElem_toArray, List.getElem_cons_succ, List.getElem_cons_zero, List.setIfInBounds_toArray, List.set_cons_zero, List.set_cons_succ]
                  refine wpAnyH_take (i := 3) (v := ?_) rfl (by kernel_rfl) (by kernel_rfl) (by kernel_rfl) (fun _ _ _ h => h) (Or.inl ⟨by rfl, ?_⟩) hHeld ?_; rotate_left; (intro W hSw; obtain ⟨_, _, _⟩ := hSw; go_simp; with_reducible rfl); try simp only [Act.put, List.getElem_toArray, List.getElem_cons_succ, List.getElem_cons_zero, List.setIfInBounds_toArray, List.set_cons_zero, List.set_cons_succ]
                  refine wpAnyH_take (i := 4) (v := ?_) rfl (by kernel_rfl) (by kernel_rfl) (by kernel_rfl) (fun _ _ _ h => h) (Or.inl ⟨by rfl, ?_⟩) hHeld ?_; rotate_left; (intro W hSw; obtain ⟨_, _, _⟩ := hSw; go_simp; with_reducible rfl); try simp only [Act.put, List.getElem_toArray, List.getElem_cons_succ, List.getElem_cons_zero, List.setIfInBounds_toArray, List.set_cons_zero, List.set_cons_succ]
                  refine wpAnyH_ready (rs := [5]) (by kernel_rfl) (by simp) (AllReadyH.cons rfl (fun K hK => ?_) .nil)
                  have HK := Lib.hid hK
                  clear hK hHeld
                  go_simp
                  go_at_call 22
                  refine (HRc2.out _ Hb5d.out).mono ?_
                  rintro e w6 ⟨LA, lc, rfl, hI, hb6, hf6⟩
                  have HI := Lib.hid hI
                  have HLT := Lib.hid hf6
                  have Hb6 := Lib.hid (below_then Hb5d.out hb6)
                  clear hI hb6 hf6
                  try go_simp
                  refine HK.out.out _ _ ⟨(HW.out _ Hb6.out).2.2.2.2.2.1, (HW.out _ Hb6.out).2.2.2.2.2.2, HbR.out _ Hb6.out⟩ (fun _ => ?_)
                  clear HK
                  refine wpAnyH_ready (rs := [6]) (by kernel_rfl) (by simp) (AllReadyH.cons rfl (fun K hK => ?_) .nil)
                  have HK := Lib.hid hK
                  clear hK
                  go_simp
                  refine HK.out.out _ _ ⟨(HW.out _ Hb6.out).2.2.2.2.2.1, (HW.out _ Hb6.out).2.2.2.2.2.2, HbR.out _ Hb6.out⟩ (fun _ => ?_)
                  clear HK
                  refine wpAnyH_done (by kernel_rfl) ?_ _
                  have HX6 : Hid (∀ W, Below w6.heap.size w6 W → Below Z.heap.size Z W ∧ IntsAt W w6.heap.size LA (Lr.map Int.ofNat)) := fun W hW => ⟨below_then Hb6.out hW, HI.out.below hW (Nat.le_refl _)⟩
                  clear k2 k3 kR hcR0
                  try clear hwx
                  go_wp2_with fail
                  go_loopw [17] (fun j wz => ∃ (k : Nat), k ≤ Lr.length ∧ j = .int .i64 (k : Int) ∧ Hid (Below w6.heap.size w6 wz)) (fun j _ => Lr.length - (intOf j).toNat)
                  case atStart => exact ⟨0, Nat.zero_le _, rfl, Below.refl _ _⟩
                  case round =>
                    obtain ⟨k, hk, rfl, hst⟩ := hrel
                    obtain ⟨hZw, hLI⟩ := HX6.out wr hst.out
                    obtain ⟨_, hw, hTn, c0, c1, m0, m1⟩ := HW.out wr hZw
                    have hll : (Lr.map Int.ofNat).length = Lr.length := List.length_map _
                    by_cases hlt : k < Lr.length
                    · obtain ⟨bL, oL, rfl, hbL, hcL⟩ := hLI (by omega)
                      obtain ⟨x, hx⟩ : ∃ x, Lr[k] = x := ⟨_, rfl⟩
                      have hck := hcL k (by omega)
                      have hnth : nth (Lr.map Int.ofNat) k = (x : Int) := by simp [nth, hlt, hx]
                      rw [hnth] at hck
                      have hxm : x ∈ Lr := hx ▸ List.getElem_mem hlt
                      obtain ⟨hxo, hxn⟩ := HLr.out x hxm
                      obtain ⟨e0, e2, e4⟩ := hTn.cells hxn
                      have hlt3 : (k : Int) < (Lr.length : Int) := by omega
                      have hxn' : (x : Int) < (G.nodes.length : Int) := by omega
                      have hx0 : (0 : Int) ≤ (x : Int) := Int.natCast_nonneg x
                      have Hlt := Lib.hid hlt
                      have Hxo := Lib.hid hxo
                      have Hxn := Lib.hid hxn
                      have Hst := Lib.hid hst.out
                      have hmz : ∀ z : Int, z = k + 1 → Lr.length - (intOf (.int .i64 z)).toNat < Lr.length - (intOf (.int .i64 (k : Int))).toNat := by intro z hz; subst hz; have := Hlt.out; simp only [intOf]; omega
                      have HWr : Hid (wrap64 ((k : Int) + 1) = k + 1) := IntWalk.wrap64_in _ (by have := Hlt.out; have := HLl.out; omega)
                      have htx : (nd (turnG G b).nodes x).text.size ≤ 1000000 := by
                        have h1 := turn_okR (b := b) HokR.out
                        exact h1.text _ (nd_mem (by rw [turnG_len]; exact hxn))
                      obtain ⟨L2, hT2⟩ := hTn.text hxn ((nd (turnG G b).nodes x).text ++ more)
                      obtain ⟨tx, htxe⟩ : ∃ t, (nd (turnG G b).nodes x).text = t := ⟨_, rfl⟩
                      obtain ⟨kd, hkd⟩ : ∃ t, (nd (turnG G b).nodes x).kind = t := ⟨_, rfl⟩
                      rw [hkd] at e0
                      rw [htxe] at e2 htx hT2
                      by_cases hks : kd = 1
                      · subst hks
                        have HT2 := Lib.hid hT2
                        have HTn2 := Lib.hid hTn
                        clear hcL hx hnth hxm hxo hxn hlt hk hst hZw hw hll hbL hT2 hTn hLI c0 c1 m1
                        go_wp2_with fail
                        go_region_held3 (fun W' => W'.cell? ⟨T + 1, 0, none⟩ = some (.slice (some ⟨T, 0, none⟩) G.nodes.length G.nodes.length) ∧ W'.cell? ⟨bL, oL + k, none⟩ = some (.int .i64 (x : Int)) ∧ W'.cell? ⟨T, x * 5, none⟩ = some (.int .i64 1) ∧ W'.cell? ⟨T, x * 5 + 2, none⟩ = some (.string tx)) (go_keep) (fail)
                        go_wp2_with fail
                        obtain ⟨wd, hwd⟩ : ∃ wd, wr.drew = wd := ⟨_, rfl⟩
                        have Hbd : Hid (Below w6.heap.size w6 wd) := by
                          rw [← hwd]; exact Below.drew Hst.out
                        obtain ⟨hZd, hLd⟩ := HX6.out wd Hbd.out
                        obtain ⟨_, hwd2, hTd, _, _, d0, _⟩ := HW.out wd hZd
                        have hTdd := hTd.below (Below.refl _ wd).drew
                        obtain ⟨_, d2, d4⟩ := hTdd.cells Hxn.out
                        rw [htxe] at d2
                        obtain ⟨L3, hT3⟩ := hTdd.text Hxn.out (tx ++ more)
                        have dk : wd.cell? ⟨bL, oL + k, none⟩ = some (.int .i64 (x : Int)) := by rw [← hwd]; exact hck
                        obtain ⟨W7, hW7⟩ : ∃ W7, wd.drew.setCell ⟨T, x * 5 + 2, none⟩ (.string (tx ++ more)) = W7 := ⟨_, rfl⟩
                        rw [hW7] at hT3
                        have hTw : w.heap.size ≤ T := by have := HY.out.2.1; omega
                        have HB7 : Hid (Below w.heap.size w W7) := by
                          rw [← hW7]; exact (Below.drew hwd2).setCell (p := ⟨T, x * 5 + 2, none⟩) hTw _
                        have hV7 : Below V.heap.size V W7 := by
                          rw [← hW7]; exact (Below.drew (below_then HVw.out hZd)).setCell (p := ⟨T, x * 5 + 2, none⟩) HY.out.2.2.1 _
                        have e3 : (turnG G b).roots.length = G.roots.length := by simp [turnG]
                        have hsx : sameB G (textG (turnG G b) x (tx ++ more)) = false := same_text HRR.out Hb.out Hxo.out (by rw [htxe]; exact append_ne h4s.out)
                        have hok3 : (textG (turnG G b) x (tx ++ more)).ok := text_ok HokH.out (by rw [ByteArray.size_append]; unfold maxLen; omega)
                        have HS7 : Hid (∀ W, Below W7.heap.size W7 W → Calls Tryd.prog 30 #[.agg #[.slice NA G.nodes.length nc, .slice RA G.roots.length rc], .agg #[.slice (some ⟨T, 0, none⟩) G.nodes.length G.nodes.length, .slice (some ⟨bR, oR, none⟩) G.roots.length rc2]] W fun e w' => e = .returned (.bool false) ∧ Below W.heap.size W w') := fun W hW => by
                          have h1 := below_then HB7.out hW
                          have h3 := (hT3.below hW).gr
                          rw [show (textG (turnG G b) x (tx ++ more)).roots.length = G.roots.length from e3] at h3
                          have := Same_any G (textG (turnG G b) x (tx ++ more)) _ _ W (HGW.out W h1) h3 HokG.out hok3 (HTb.out W h1)
                          rwa [hsx] at this
                        have HC7 : Hid (∀ W, Below W7.heap.size W7 W → W.cell? ⟨w.heap.size, 0, none⟩ = some (.slice NA G.nodes.length nc) ∧ W.cell? ⟨w.heap.size, 1, none⟩ = some (.slice RA G.roots.length rc) ∧ W.cell? ⟨T + 1, 0, none⟩ = some (.slice (some ⟨T, 0, none⟩) G.nodes.length G.nodes.length) ∧ W.cell? ⟨T + 1, 1, none⟩ = some (.slice (some ⟨bR, oR, none⟩) G.roots.length rc2) ∧ Below w.heap.size w W) := fun W hW => by
                          have h3 := (hT3.below hW).out
                          rw [show (textG (turnG G b) x (tx ++ more)).roots.length = G.roots.length from e3] at h3
                          obtain ⟨z0, z1, _⟩ := HCV.out W (below_then hV7 hW)
                          exact ⟨z0, z1, Lib.cell_of_heap h3 0, Lib.cell_of_heap h3 1, below_then HB7.out hW⟩
                        rw [hwd]
                        have HK7 : Hid (W7.cell? ⟨T + 1, 0, none⟩ = some (.slice (some ⟨T, 0, none⟩) G.nodes.length G.nodes.length) ∧ W7.cell? ⟨bL, oL + k, none⟩ = some (.int .i64 (x : Int))) := by
                          refine ⟨(HC7.out W7 (Below.refl _ _)).2.2.1, ?_⟩
                          rw [← hW7]
                          have hbT : bL ≠ T := HLT.out _ rfl
                          exact (World.cell?_of_block (Below.heap_setCell wd.drew ⟨T, x * 5 + 2, none⟩ _ bL hbT)).trans dk
                        have hcat : ¬ 9223372036854775807 < tx.size + more.size := by omega
                        clear hwd hZd hLd hwd2 hTd hTdd hT3 hTw hV7 e3 hsx hok3 e0 e2 e4 hck m0 htx htxe hkd
                        try clear hwe
                        apply wp_still3 (w2 := W7)
                        · refine wp_region_held_drew (S := fun W' => W'.cell? ⟨T + 1, 0, none⟩ = some (.slice (some ⟨T, 0, none⟩) G.nodes.length G.nodes.length) ∧ W'.cell? ⟨bL, oL + k, none⟩ = some (.int .i64 (x : Int))) (by kernel_rfl) ⟨d0, dk⟩ (fun hHeld => ?_)
                          refine wpAnyH_take (i := 0) (v := ?_) rfl (by kernel_rfl) (by kernel_rfl) (by kernel_rfl) (fun _ _ _ h => h) (Or.inl ⟨by rfl, ?_⟩) hHeld ?_; rotate_left; (intro W hSw; obtain ⟨_, _⟩ := hSw; go_simp; with_reducible rfl); try simp only [Act.put, List.getElem_toArray, List.getElem_cons_zero, List.setIfInBounds_toArray, List.set_cons_zero, List.set_cons_succ]
                          refine wpAnyH_take (i := 1) (v := ?_) rfl (by kernel_rfl) (by kernel_rfl) (by kernel_rfl) (fun _ _ _ h => h) (Or.inl ⟨by rfl, ?_⟩) hHeld ?_; rotate_left; (intro W hSw; obtain ⟨_, _⟩ := hSw; go_simp; with_reducible rfl); try simp only [Act.put, List.getElem_toArray, List.getElem_cons_succ, List.getElem_cons_zero, List.setIfInBounds_toArray, List.set_cons_zero, List.set_cons_succ]
                          refine wpAnyH_take (i := 2) (v := ?_) rfl (by kernel_rfl) (by kernel_rfl) (by kernel_rfl) (fun _ _ _ h => h) (Or.inl ⟨by rfl, ?_⟩) hHeld ?_; rotate_left; (intro W hSw; obtain ⟨_, _⟩ := hSw; go_simp; with_reducible rfl); try simp only [Act.put, List.getElem_toArray, List.getElem_cons_succ, List.getElem_cons_zero, List.setIfInBounds_toArray, List.set_cons_zero, List.set_cons_succ]
                          refine wpAnyH_take (i := 3) (v := ?_) rfl (by kernel_rfl) (by kernel_rfl) (by kernel_rfl) (fun _ _ _ h => h) (Or.inl ⟨by rfl, ?_⟩) hHeld ?_; rotate_left; (intro W hSw; obtain ⟨_, _⟩ := hSw; go_simp; with_reducible rfl); try simp only [Act.put, List.getElem_toArray, List.getElem_cons_succ, List.getElem_cons_zero, List.setIfInBounds_toArray, List.set_cons_zero, List.set_cons_succ]
                          refine wpAnyH_take (i := 4) (v := ?_) rfl (by kernel_rfl) (by kernel_rfl) (by kernel_rfl) (fun _ _ _ h => h) (Or.inl ⟨by rfl, ?_⟩) hHeld ?_; rotate_left; (intro W hSw; obtain ⟨_, _⟩ := hSw; go_simp; with_reducible rfl); try simp only [Act.put, List.getElem_toArray, List.getElem_cons_succ, List.getElem_cons_zero, List.setIfInBounds_toArray, List.set_cons_zero, List.set_cons_succ]
                          refine wpAnyH_take (i := 5) (v := ?_) rfl (by kernel_rfl) (by kernel_rfl) (by kernel_rfl) (fun _ _ _ h => h) (Or.inl ⟨by rfl, ?_⟩) hHeld ?_; rotate_left; (intro W hSw; obtain ⟨_, _⟩ := hSw; go_simp; with_reducible rfl); try simp only [Act.put, List.getElem_toArray, List.getElem_cons_succ, List.getElem_cons_zero, List.setIfInBounds_toArray, List.set_cons_zero, List.set_cons_succ]
                          refine wpAnyH_take (i := 6) (v := ?_) rfl (by kernel_rfl) (by kernel_rfl) (by kernel_rfl) (fun _ _ _ h => h) (Or.inl ⟨by rfl, ?_⟩) hHeld ?_; rotate_left; (intro W hSw; obtain ⟨_, _⟩ := hSw; go_simp; with_reducible rfl); try simp only [Act.put, List.getElem_toArray, List.getElem_cons_succ, List.getElem_cons_zero, List.setIfInBounds_toArray, List.set_cons_zero, List.set_cons_succ]
                          refine wpAnyH_take (i := 7) (v := ?_) rfl (by kernel_rfl) (by kernel_rfl) (by kernel_rfl) (fun _ _ _ h => h) (Or.inl ⟨by rfl, ?_⟩) hHeld ?_; rotate_left; (intro W hSw; obtain ⟨_, _⟩ := hSw; go_simp; with_reducible rfl); try simp only [Act.put, List.getElem_toArray, List.getElem_cons_succ, List.getElem_cons_zero, List.setIfInBounds_toArray, List.set_cons_zero, List.set_cons_succ]
                          refine wpAnyH_take (i := 8) (v := ?_) rfl (by kernel_rfl) (by kernel_rfl) (by kernel_rfl) (fun _ _ _ h => h) (Or.inl ⟨by rfl, ?_⟩) hHeld ?_; rotate_left; (intro W hSw; obtain ⟨_, _⟩ := hSw; go_simp; with_reducible rfl); try simp only [Act.put, List.getElem_toArray, List.getElem_cons_succ, List.getElem_cons_zero, List.setIfInBounds_toArray, List.set_cons_zero, List.set_cons_succ]
                          refine wpAnyH_take (i := 9) (v := ?_) rfl (by kernel_rfl) (by kernel_rfl) (by kernel_rfl) (fun _ _ _ h => h) (Or.inl ⟨by rfl, ?_⟩) hHeld ?_; rotate_left; (intro W hSw; obtain ⟨_, _⟩ := hSw; go_simp; with_reducible rfl); try simp only [Act.put, List.getElem_toArray, List.getElem_cons_succ, List.getElem_cons_zero, List.setIfInBounds_toArray, List.set_cons_zero, List.set_cons_succ]
                          refine wpAnyH_take (i := 10) (v := ?_) rfl (by kernel_rfl) (by kernel_rfl) (by kernel_rfl) (fun _ _ _ h => h) (Or.inl ⟨by rfl, ?_⟩) hHeld ?_; rotate_left; (intro W hSw; obtain ⟨_, _⟩ := hSw; go_simp; with_reducible rfl); try simp only [Act.put, List.getElem_toArray, List.getElem_cons_succ, List.getElem_cons_zero, List.setIfInBounds_toArray, List.set_cons_zero, List.set_cons_succ]
                          refine wpAnyH_take (i := 11) (v := ?_) rfl (by kernel_rfl) (by kernel_rfl) (by kernel_rfl) (fun _ _ _ h => h) (Or.inl ⟨by rfl, ?_⟩) hHeld ?_; rotate_left; (intro W hSw; obtain ⟨_, _⟩ := hSw; go_simp; with_reducible rfl); try simp only [Act.put, List.getElem_toArray, List.getElem_cons_succ, List.getElem_cons_zero, List.setIfInBounds_toArray, List.set_cons_zero, List.set_cons_succ]
                          refine wpAnyH_take (i := 12) (v := ?_) rfl (by kernel_rfl) (by kernel_rfl) (by kernel_rfl) (fun _ _ _ h => h) (Or.inl ⟨by rfl, ?_⟩) hHeld ?_; rotate_left; (intro W hSw; obtain ⟨_, _⟩ := hSw; go_simp; with_reducible rfl); try simp only [Act.put, List.getElem_toArray, List.getElem_cons_succ, List.getElem_cons_zero, List.setIfInBounds_toArray, List.set_cons_zero, List.set_cons_succ]
                          refine wpAnyH_take (i := 13) (v := ?_) rfl (by kernel_rfl) (by kernel_rfl) (by kernel_rfl) (fun _ _ _ h => h) (Or.inl ⟨by rfl, ?_⟩) hHeld ?_; rotate_left; (intro W hSw; obtain ⟨_, _⟩ := hSw; go_simp; with_reducible rfl); try simp only [Act.put, List.getElem_toArray, List.getElem_cons_succ, List.getElem_cons_zero, List.setIfInBounds_toArray, List.set_cons_zero, List.set_cons_succ]
                          refine wpAnyH_take (i := 15) (v := ?_) rfl (by kernel_rfl) (by kernel_rfl) (by kernel_rfl) (fun _ _ _ h => h) (Or.inl ⟨by rfl, ?_⟩) hHeld ?_; rotate_left; (intro W hSw; obtain ⟨_, _⟩ := hSw; go_simp; with_reducible rfl); try simp only [Act.put, List.getElem_toArray, List.getElem_cons_succ, List.getElem_cons_zero, List.setIfInBounds_toArray, List.set_cons_zero, List.set_cons_succ]
                          refine wpAnyH_ready (rs := [14]) (by kernel_rfl) (by simp) (AllReadyH.cons rfl (fun K hK => ?_) .nil)
                          have HK := Lib.hid hK
                          clear hK
                          go_simp
                          refine HK.out.out _ _ hHeld (fun _ => ?_)
                          clear HK
                          refine wpAnyH_take (i := 16) (v := ?_) rfl (by kernel_rfl) (by kernel_rfl) (by kernel_rfl) (fun _ _ _ h => h) (Or.inl ⟨by rfl, ?_⟩) hHeld ?_; rotate_left; (intro W hSw; obtain ⟨_, _⟩ := hSw; go_simp; with_reducible rfl); try simp only [Act.put, List.getElem_toArray, List.getElem_cons_succ, List.getElem_cons_zero, List.setIfInBounds_toArray, List.set_cons_zero, List.set_cons_succ]
                          refine wpAnyH_take (i := 17) (v := ?_) rfl (by kernel_rfl) (by kernel_rfl) (by kernel_rfl) (fun _ _ _ h => h) (Or.inl ⟨by rfl, ?_⟩) hHeld ?_; rotate_left; (intro W hSw; obtain ⟨_, _⟩ := hSw; go_simp; with_reducible rfl); try simp only [Act.put, List.getElem_toArray, List.getElem_cons_succ, List.getElem_cons_zero, List.setIfInBounds_toArray, List.set_cons_zero, List.set_cons_succ]
                          refine wpAnyH_take (i := 18) (v := ?_) rfl (by kernel_rfl) (by kernel_rfl) (by kernel_rfl) (fun _ _ _ h => h) (Or.inl ⟨by rfl, ?_⟩) hHeld ?_; rotate_left; (intro W hSw; obtain ⟨_, _⟩ := hSw; go_simp; with_reducible rfl); try simp only [Act.put, List.getElem_toArray, List.getElem_cons_succ, List.getElem_cons_zero, List.setIfInBounds_toArray, List.set_cons_zero, List.set_cons_succ]
                          refine wpAnyH_ready (rs := [19]) (by kernel_rfl) (by simp) (AllReadyH.cons rfl (fun K hK => ?_) .nil)
                          have HK := Lib.hid hK
                          clear hK
                          go_simp
                          try rw [hW7]
                          refine HK.out.out _ _ HK7.out (fun _ => ?_)
                          refine wpAnyH_done (by kernel_rfl) ?_ _
                          exact ⟨rfl, rfl⟩
                        clear d0 d2 d4 dk hcat HK7
                        obtain ⟨y0, y1, y2, y3, _⟩ := HC7.out W7 (Below.refl _ _)
                        go_wp2_with (go_at_call 30; refine (HS7.out _ (Below.refl _ _)).mono ?_; rintro e w8 ⟨rfl, hb8⟩; have Hb8 := Lib.hid hb8; clear hb8)
                        go_ret
                        exact ⟨by first | rfl | simp, (HC7.out w8 Hb8.out).2.2.2.2⟩
                      · have q7 : (kd == 1) = false := beq_eq_false_iff_ne.2 hks
                        have Hst2 : Hid (Below w6.heap.size w6 wr.drew) := Hst.out.drew
                        clear hcL hx hnth hxm hxo hxn hlt hk hst hZw hw hll hbL hT2 htxe hkd hks hTn hLI c0 c1 m1 e2
                        go_wp2_with fail
                        go_region_held3 (fun W' => W'.cell? ⟨T + 1, 0, none⟩ = some (.slice (some ⟨T, 0, none⟩) G.nodes.length G.nodes.length) ∧ W'.cell? ⟨bL, oL + k, none⟩ = some (.int .i64 (x : Int)) ∧ W'.cell? ⟨T, x * 5, none⟩ = some (.int .i64 kd)) (go_keep) (fail)
                        go_wp2_with fail
                        first
                          | exact ⟨⟨k + 1, Hlt.out, by simp, Hst2⟩, hmz _ rfl⟩
                          | exact ⟨⟨k + 1, Hlt.out, congrArg (Value.int .i64) (HWr.out.trans (by simp)), Hst2⟩, hmz _ HWr.out⟩
                    · obtain rfl : k = Lr.length := by omega
                      have hd3 : ¬ (Lr.length : Int) < (Lr.length : Int) := by omega
                      have Hw := Lib.hid hw
                      clear hlt hk hst hZw hw hTn hLI hll
                      go_wp2_with fail
                      go_ret
                      exact ⟨by first | rfl | simp, Hw.out⟩
end Go.Proofs.YtdcbngimgpdjoaaDoor
