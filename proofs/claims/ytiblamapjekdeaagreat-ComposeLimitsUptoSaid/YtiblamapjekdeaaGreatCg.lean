/- The law ComposeGraphs walked. Condition: a row no longer than an int. -/
import Derived.Test.YtiblamapjekdeaaGreatAv
import Derived.Test.YtiblamapjekdeaaGreatFm
import Derived.Test.YtiblamapjekdeaaGreatCo
namespace Go.Proofs.YtiblamapjekdeaaGreat
open Go.RowKit
attribute [local go_sem] Oper.semAt_some
theorem mkG_small (L : List Ev) (d n : Nat) (h : L.length ≤ 1500000) : (mkG L d n).1.okS := by
  unfold mkG
  split
  · cases hm : mkAll d n mk0 L with
    | error e => exact ⟨by simp, by simp, by simp⟩
    | ok s =>
      obtain ⟨_, sz⟩ := mkAll_good (L := L) L.length s (Nat.le_refl _) (by rw [List.take_length]; exact hm)
      refine ⟨?_, ?_, fun e he => ?_⟩
      · have := sz.nodes; show s.nodes.length ≤ _; omega
      · have := sz.roots; show s.roots.length ≤ _; omega
      · obtain ⟨k, hk, rfl⟩ := List.getElem_of_mem he
        have := sz.kids k
        rw [nd_eq hk] at this
        omega
  · exact ⟨by simp, by simp, by simp⟩
theorem bigB_small {L : List Ev} (h : bigB L = false) : L.length ≤ 300 := by
  unfold bigB at h
  simp at h
  omega
set_option maxRecDepth 100000 in
set_option maxHeartbeats 2000000 in
theorem composeGraphs_walk {w : World} (A : Option Addr) (c : Nat) (L : List Ev) (hcap : L.length ≤ c) (hm : c ≤ maxLen) (hE : EvsAt w w.heap.size A L) (hok : ∀ x ∈ L, Ev.ok x) (_hn : A = none → c = 0) (d : Int) (_wd : (Lit.int .i64 d).wf = true) (n : Int) (_wn : (Lit.int .i64 n).wf = true) :
    Calls Tryz.prog 3 #[.slice A L.length c, .int .i64 d, .int .i64 n] w fun e w' => e = .returned (.bool true) ∧ Below w.heap.size w w' := by
  have hl : L.length ≤ 9223372036854775807 := Nat.le_trans hcap hm
  have HA := Lib.hid (alive18_any w)
  have HBi : Hid (∀ W, Below w.heap.size w W → Calls Tryz.prog 7 #[.slice A L.length c] W fun e w' => e = .returned (.bool (bigB L)) ∧ W = w') := fun W hW => Big_any A c L W hl ((hE.below hW (Nat.le_refl _)).more hW.size) hok
  cases hb : bigB L with
  | true =>
    rw [hb] at HBi
    clear hE hok hl hcap hm hb
    go_enter Tryz.func3, Tryz.ntmps3
    go_wp2_with (first
      | (go_at_call 6; refine HA.out.mono ?_; rintro e w1 ⟨rfl, hb1⟩; have H1 := Lib.hid hb1; clear hb1)
      | (go_at_call 7; refine (HBi.out w1 H1.out).mono ?_; rintro e w2 ⟨rfl, rfl⟩))
    go_ret
    exact ⟨rfl, H1.out⟩
  | false =>
    rw [hb] at HBi
    have h300 := bigB_small hb
    obtain ⟨gx, hgx⟩ : ∃ gx, mkG L (min d 200).toNat (min n 20000).toNat = gx := ⟨_, rfl⟩
    have HGr : Hid (∀ W, Below w.heap.size w W → Calls Tryz.prog 8 #[.slice A L.length c, .int .i64 d, .int .i64 n] W (DidM W gx)) := fun W hW => by
      rw [← hgx]; exact Graph_any A c L d n W (by omega) ((hE.below hW (Nat.le_refl _)).more hW.size) hok
    have HCo : Hid (∀ W, Below w.heap.size w W → Calls Tryz.prog 9 #[.slice A L.length c, .int .i64 d, .int .i64 n] W (DidM W gx)) := fun W hW => by
      rw [← hgx]; exact Compose_any A c L d n W (by omega) hcap ((hE.below hW (Nat.le_refl _)).more hW.size) hok
    have HOk : Hid gx.1.okS := by show gx.1.okS; rw [← hgx]; exact mkG_small L _ _ (by omega)
    obtain ⟨G, x⟩ := gx
    clear hgx hE hok hl hcap hm hb h300
    go_enter Tryz.func3, Tryz.ntmps3
    go_wp2_with (first
      | (go_at_call 6; refine HA.out.mono ?_; rintro e w1 ⟨rfl, hb1⟩; have H1 := Lib.hid hb1; clear hb1)
      | (go_at_call 7; refine (HBi.out w1 H1.out).mono ?_; rintro e w2 ⟨rfl, rfl⟩)
      | (go_at_call 8; refine (HGr.out w1 H1.out).mono ?_; rintro e w3 ⟨v3, rfl, hg3, hb3⟩; obtain ⟨NA, nc, RA, rc, rfl, hN, hR⟩ := hg3; obtain ⟨V3, hV3, hbV3, hrV3, _⟩ := box2 w3 (.slice NA G.nodes.length nc) (.slice RA G.roots.length rc) 28; have H3 := Lib.hid (And.intro (below_then (below_then H1.out hb3) hbV3) (And.intro hrV3 (And.intro ((hN.below hbV3 (Nat.le_refl _)).more hbV3.size) ((hR.below hbV3 (Nat.le_refl _)).more hbV3.size)))); clear hb3 hbV3 hrV3 hN hR)
      | (go_at_call 9; refine (HCo.out V3 H3.out.1).mono ?_; rintro e w4 ⟨v4, rfl, hg4, hb4⟩; obtain ⟨NA4, nc4, RA4, rc4, rfl, hN4, hR4⟩ := hg4; obtain ⟨V4, hV4, hbV4, hrV4, _⟩ := box2 w4 (.slice NA4 G.nodes.length nc4) (.slice RA4 G.roots.length rc4) 28; have hb34 := below_then hb4 hbV4; have hr3 := (hb34.block _ (lt_of_row H3.out.2.1)).trans H3.out.2.1; have a0 := Lib.cell_of_heap hr3 0; have a1 := Lib.cell_of_heap hr3 1; have b0 := Lib.cell_of_heap hrV4 0; have b1 := Lib.cell_of_heap hrV4 1; have HSG := Lib.hid (SameGraph_any G G (.agg #[.slice NA G.nodes.length nc, .slice RA G.roots.length rc]) (.agg #[.slice NA4 G.nodes.length nc4, .slice RA4 G.roots.length rc4]) V4 ⟨NA, nc, RA, rc, rfl, (H3.out.2.2.1.below hb34 (Nat.le_refl _)).more hb34.size, (H3.out.2.2.2.below hb34 (Nat.le_refl _)).more hb34.size⟩ ⟨NA4, nc4, RA4, rc4, rfl, (hN4.below hbV4 (Nat.le_refl _)).more hbV4.size, (hR4.below hbV4 (Nat.le_refl _)).more hbV4.size⟩ HOk.out); have H4 := Lib.hid (below_then H3.out.1 hb34); clear hb4 hbV4 hrV4 hN4 hR4 hb34 hr3)
      | (go_at_call 10; refine (num18_any _ _).mono ?_; rintro e w5 ⟨rfl, rfl⟩)
      | (go_at_call 11; refine HSG.out.mono ?_; rintro e w6 ⟨rfl, hb6⟩))
    go_ret
    exact ⟨by simp, below_then H4.out hb6⟩
end Go.Proofs.YtiblamapjekdeaaGreat
