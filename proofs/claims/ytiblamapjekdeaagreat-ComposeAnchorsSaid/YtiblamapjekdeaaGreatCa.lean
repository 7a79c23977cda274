/- The law ComposeAnchors walked. Condition: a row no longer than an int. -/
import Derived.Test.YtiblamapjekdeaaGreatCm
import Derived.Test.YtiblamapjekdeaaGreatAv
import Derived.Test.YtiblamapjekdeaaGreatDi
namespace Go.Proofs.YtiblamapjekdeaaGreat
open Go.RowKit
attribute [local go_sem] Oper.semAt_some
theorem and_kk (z : Int) : ∃ v kk : Nat, kk < 6 ∧ bits .and .i64 z 1023 = (v : Int) ∧ Int.tmod (v : Int) 6 = (kk : Int) := by
  obtain ⟨v, hv, h1⟩ := and_1023 z
  exact ⟨v, v % 6, by omega, h1, by rw [Int.tmod_eq_emod_of_nonneg (by omega)]; omega⟩
/-- The round of ComposeAnchors. -/
structure AnSt (U W : World) (nb lb : Nat) (i : Nat) (a : An) (R : Nat → ORow) : Prop where
  inv : AnInv a i
  mem : AnAt U W nb lb a.ev a.want a.last R
set_option maxRecDepth 100000 in
set_option maxHeartbeats 1000000 in
theorem composeAnchors_walk {w : World} (A : Option Addr) (c : Nat) (l : List Int) (_ : l.length ≤ c) (_ : c ≤ maxLen) (hI : IntsAt w w.heap.size A l) (_hw : ∀ z ∈ l, (Lit.int .i64 z).wf = true) :
    Calls Tryz.prog 5 #[.slice A l.length c] w fun e w' => e = .returned (.bool true) ∧ Below w.heap.size w w' := by
  have HA := Lib.hid (alive18_any w)
  by_cases h30 : 30 < l.length
  · have hI30 : (30 : Int) < (l.length : Int) := by omega
    go_enter Tryz.func5, Tryz.ntmps5
    go_wp2_with (first
      | (go_at_call 6; refine HA.out.mono ?_; rintro e w1 ⟨rfl, hb1⟩; have H1 := Lib.hid hb1; clear hb1))
    go_ret
    exact ⟨rfl, H1.out⟩
  · have hI30 : ¬ (30 : Int) < (l.length : Int) := by omega
    have h30' : l.length ≤ 30 := by omega
    have HI := Lib.hid hI
    clear hI h30
    go_enter Tryz.func5, Tryz.ntmps5
    go_wp2_with (first
      | (go_at_call 6; refine HA.out.mono ?_; rintro e w1 ⟨rfl, hb1⟩; have H1 := Lib.hid hb1; clear hb1))
    obtain ⟨U, V, hV, hUr, hbU, hst⟩ := an_start w1
    obtain ⟨nb, hnb⟩ : ∃ nb, w1.heap.size = nb := ⟨_, rfl⟩
    rw [hV]
    rw [hnb] at hUr hbU hst ⊢
    have HU := Lib.hid (And.intro hUr (And.intro hbU hst))
    have Hnb : Hid (w1.heap.size = nb) := hnb
    clear hV hUr hbU hst hnb
    go_loopg [5, 7, 8, 9, 10] (l.length) (fun g o5 o7 o8 o9 o10 wr => ∃ i a R, i ≤ l.length ∧ g = l.length - i ∧ o10 = .int .i64 (i : Int) ∧ o5 = ORow.v (R 0) ∧ o7 = ORow.v (R 1) ∧ o8 = .int .i64 (An.n a : Int) ∧ o9 = .bool (An.bad a) ∧ Hid (AnSt U wr nb (nb + 1 + 1) i a R))
    case atStart => exact ⟨0, an0, _, Nat.zero_le _, rfl, rfl, rfl, rfl, rfl, rfl, ⟨an0_inv, HU.out.2.2⟩⟩
    case round =>
      obtain ⟨i, a, R, hi, hg, rfl, h5, h7, rfl, rfl, HS⟩ := hrel
      have HBw : Hid (∀ W, Below (nb + 1) U W → Below w.heap.size w W) := fun W hW => by
        have h1 := HU.out.2.1
        have h2 := H1.out.size
        have h3 := Hnb.out
        exact H1.out.trans ((h1.trans (hW.mono (by omega))).mono (by omega))
      obtain ⟨EA, ec, hev, hec, hEv⟩ := HS.out.mem.evForm
      obtain ⟨WA, wc, hwv, hWv⟩ := HS.out.mem.wantForm
      have hlen := HS.out.inv.len
      have hwlen := HS.out.inv.wlen
      have hn1 := HS.out.inv.n1
      have hn2 := HS.out.inv.n2
      rw [hlen] at hev hec
      rw [hwlen] at hwv
      rw [hev] at h5
      rw [hwv] at h7
      subst h5 h7
      have HL := Lib.hid (And.intro hlen hwlen)
      by_cases hlt : i < l.length
      · have hltI : (i : Int) < (l.length : Int) := by omega
        obtain ⟨b, off, rfl, hbw, hc⟩ := HI.out (by omega)
        have hci := ((HBw.out wr HS.out.mem.bel).cell (p := ⟨b, off + i, none⟩) hbw).trans (hc i hlt)
        obtain ⟨z, hz⟩ : ∃ z, nth l i = z := ⟨_, rfl⟩
        rw [hz] at hci
        obtain ⟨v, kk, hk6, hv, hkk⟩ := and_kk z
        have hn31 : a.n ≤ 31 := by omega
        have hi29 : i ≤ 29 := by omega
        clear hc hz
        by_cases hk3 : kk < 3
        · have hkI : (kk : Int) < 3 := by omega
          have hnk := HS.out.mem.names HU.out.1 hk3
          have HDg : Hid (∀ W, Calls Tryz.prog 14 #[.int .i64 (i : Int)] W fun e w' => e = .returned (.string (digS i)) ∧ W = w') := fun W => Digits_any i (by omega) W
          have hsz := digS_size i
          obtain ⟨A5, c5, w5, hrun, R5, h5, q50, q51⟩ := HS.out.mem.evs (w0 := (wr.alloc (.cells (evA7 (digS i) kk).row 41)).drew) ((Below.refl _ wr).alloc (Nat.le_refl _) _).drew (by omega) (evA7 (digS i) kk) (n0 := wr.heap.size) (fr := (0, 0)) (heap_alloc_new wr _)
          have hrun : (Builtin.append_ #[22, 22] 22 #[(R 0).v, .slice (some ⟨wr.heap.size, 0, none⟩) 1 1]).run Tryz.prog (wr.alloc (.cells #[.int .i64 7, .string (digS i), .string ⟨#[]⟩, .string (nmA kk), .int .i64 1, .bool false] 41)).drew = .ok (.slice A5 (a.ev.length + 1) c5) w5 := hrun
          rw [hev, hlen] at hrun
          rw [hlen] at q50
          obtain ⟨l5, f5⟩ := h5.lasts HS.out.inv.last hk3
          have h6 := h5.set kk a.n
          obtain ⟨X, hX⟩ : ∃ X, w5.setCell ⟨nb + 1 + 1, kk, none⟩ (.int .i64 (a.n : Int)) = X := ⟨_, rfl⟩
          rw [hX] at h6
          obtain ⟨A7, c7, w7, hrun7, R7, h7, q70, q71⟩ := h6.wants (by omega) (a.n : Int)
          rw [q51, hwv, hwlen] at hrun7
          rw [hwlen] at q71
          rw [q50] at q70
          have HN : Hid (AnSt U w7 nb (nb + 1 + 1) (i + 1) (an7 a (digS i) kk) R7) := ⟨HS.out.inv.seven (by omega) (Nat.le_trans hsz (by decide)) hk3, h7⟩
          clear h5 h6 h7 hEv hWv hsz hlen hwlen
          go_wp2_with fail
          apply wp_stillF (w2 := w5)
          · go_region_law (first
              | (rw [if_pos (by simp [Region.wanted])]; go_simp; go_at_call 14; refine (HDg.out _).mono ?_; rintro e w2 ⟨rfl, rfl⟩; try go_simp)
              | (refine step_appF rfl _ _ rfl (.slice EA (i + 2) ec) _ rfl rfl hrun ?_))
            all_goals exact ⟨rfl, rfl⟩
          go_wp2_with (first
            | (at_builtin; refine wpList_runA rfl _ _ 26 rfl _ _ _ rfl rfl hrun7 ?_))
          go_roundg (l.length - (i + 1))
          case measure => omega
          case rel => exact ⟨i + 1, an7 a (digS i) kk, R7, hlt, rfl, by go_num, q70.symm, q71.symm, by show Value.int .i64 ((a.n : Int) + 1) = .int .i64 ((a.n + 1 : Nat) : Int); simp, rfl, HN.out⟩
        · obtain ⟨k3, hk3e⟩ : ∃ k3, kk = k3 + 3 := ⟨kk - 3, by omega⟩
          subst hk3e
          have hk33 : k3 < 3 := by omega
          have hkI : ¬ ((k3 + 3 : Nat) : Int) < 3 := by omega
          obtain ⟨kz, hkz⟩ : ∃ kz : Int, ((k3 + 3 : Nat) : Int) = kz := ⟨_, rfl⟩
          rw [hkz] at hkk hkI
          have hks : wrap64 (kz - 3) = (k3 : Int) := by rw [← hkz, IntWalk.wrap64_in _ (by omega)]; omega
          have hk3I : (k3 : Int) < 3 := by omega
          have hnk := HS.out.mem.names HU.out.1 hk33
          obtain ⟨A5, c5, w5, hrun, R5, h5, q50, q51⟩ := HS.out.mem.evs (w0 := wr.alloc (.cells (evA8 k3).row 41)) ((Below.refl _ wr).alloc (Nat.le_refl _) _) (by omega) (evA8 k3) (n0 := wr.heap.size) (fr := (0, 0)) (heap_alloc_new wr _)
          have hrun : (Builtin.append_ #[22, 22] 22 #[(R 0).v, .slice (some ⟨wr.heap.size, 0, none⟩) 1 1]).run Tryz.prog (wr.alloc (.cells #[.int .i64 8, .string ⟨#[]⟩, .string ⟨#[]⟩, .string (nmA k3), .int .i64 0, .bool false] 41)) = .ok (.slice A5 (a.ev.length + 1) c5) w5 := hrun
          rw [hev, hlen] at hrun
          rw [hlen] at q50
          obtain ⟨l5, f5⟩ := h5.lasts HS.out.inv.last hk33
          obtain ⟨lk, hlk⟩ : ∃ lk, a.last.getD k3 0 = lk := ⟨_, rfl⟩
          rw [hlk] at l5
          obtain ⟨A7, c7, w7, hrun7, R7, h7, q70, q71⟩ := h5.wants (by omega) (lk : Int)
          rw [q51, hwv, hwlen] at hrun7
          rw [hwlen] at q71
          rw [q50] at q70
          obtain ⟨ab, hab⟩ : ∃ ab, a.bad = ab := ⟨_, rfl⟩
          have HN : Hid (AnSt U w7 nb (nb + 1 + 1) (i + 1) (an8 a k3) R7) := ⟨HS.out.inv.eight hk33, by rw [show (an8 a k3).want = a.want ++ [(lk : Int)] from by rw [← hlk]; rfl]; exact h7⟩
          have HBd : Hid ((an8 a k3).bad = (ab || (lk == 0))) := by show (a.bad || (a.last.getD k3 0 == 0)) = _; rw [hab, hlk]
          rw [hab]
          clear h5 h7 hEv hWv hlen hwlen hkz hlk hab hk3 hk33 hk6
          cases ab with
          | true =>
            go_wp2_with (first
              | (at_builtin; refine wpList_runA rfl _ _ 26 rfl _ _ _ rfl rfl hrun7 ?_)
              | (at_builtin; refine wpList_runA rfl _ _ 22 rfl _ _ _ rfl rfl hrun ?_))
            go_roundg (l.length - (i + 1))
            case measure => omega
            case rel => exact ⟨i + 1, an8 a k3, R7, hlt, rfl, by go_num, q70.symm, q71.symm, rfl, by rw [HBd.out]; rfl, HN.out⟩
          | false =>
            by_cases hl0 : lk = 0
            · have hlb : ((lk : Int) == 0) = true := by rw [hl0]; rfl
              have Hl0 := Lib.hid hl0
              clear hl0
              go_wp2_with (first
                | (at_builtin; refine wpList_runA rfl _ _ 26 rfl _ _ _ rfl rfl hrun7 ?_)
                | (at_builtin; refine wpList_runA rfl _ _ 22 rfl _ _ _ rfl rfl hrun ?_))
              go_roundg (l.length - (i + 1))
              case measure => omega
              case rel => exact ⟨i + 1, an8 a k3, R7, hlt, rfl, by go_num, q70.symm, q71.symm, rfl, by rw [HBd.out, Hl0.out]; rfl, HN.out⟩
            · have hlb : ((lk : Int) == 0) = false := beq_eq_false_iff_ne.2 (by omega)
              have hlb2 : (lk == 0) = false := beq_eq_false_iff_ne.2 hl0
              go_wp2_with (first
                | (at_builtin; refine wpList_runA rfl _ _ 26 rfl _ _ _ rfl rfl hrun7 ?_)
                | (at_builtin; refine wpList_runA rfl _ _ 22 rfl _ _ _ rfl rfl hrun ?_))
              go_roundg (l.length - (i + 1))
              case measure => omega
              case rel => exact ⟨i + 1, an8 a k3, R7, hlt, rfl, by go_num, q70.symm, q71.symm, rfl, by rw [HBd.out, hlb2]; rfl, HN.out⟩
      · obtain rfl : i = l.length := by omega
        have hltI : ¬ (l.length : Int) < (l.length : Int) := by omega
        obtain ⟨f1, f2, f3⟩ := HS.out.inv.fin
        obtain ⟨_, _, ok1, ok2⟩ := HS.out.inv.rights
        obtain ⟨A5, c5, w5, hrun, R5, h5, q50, q51⟩ := HS.out.mem.ends (w0 := wr.alloc (.cells (Ev.row ⟨4, ⟨#[]⟩, ⟨#[]⟩, ⟨#[]⟩, 0, false⟩ ++ Ev.row ⟨2, ⟨#[]⟩, ⟨#[]⟩, ⟨#[]⟩, 0, false⟩) 41)) ((Below.refl _ wr).alloc (Nat.le_refl _) _) (by omega) ⟨4, ⟨#[]⟩, ⟨#[]⟩, ⟨#[]⟩, 0, false⟩ ⟨2, ⟨#[]⟩, ⟨#[]⟩, ⟨#[]⟩, 0, false⟩ (n0 := wr.heap.size) (fr := (0, 0)) (heap_alloc_new wr _)
        have hrun : (Builtin.append_ #[22, 22] 22 #[(R 0).v, .slice (some ⟨wr.heap.size, 0, none⟩) 2 2]).run Tryz.prog (wr.alloc (.cells #[.int .i64 4, .string ⟨#[]⟩, .string ⟨#[]⟩, .string ⟨#[]⟩, .int .i64 0, .bool false, .int .i64 2, .string ⟨#[]⟩, .string ⟨#[]⟩, .string ⟨#[]⟩, .int .i64 0, .bool false] 41)) = .ok (.slice A5 (a.ev.length + 2) c5) w5 := hrun
        rw [hev, hlen] at hrun
        rw [hlen] at q50
        obtain ⟨A5', c5', q50', hc5, hE5⟩ := h5.evForm
        have hlen5 : (a.ev ++ endA).length = l.length + 2 + 2 := by rw [List.length_append, hlen]; rfl
        rw [q50, show (a.ev ++ endA).length = l.length + 2 + 2 from hlen5] at q50'
        cases q50'
        have HE5 := Lib.hid (And.intro h5 (And.intro hE5 hlen5))
        have HBw5 := Lib.hid (HBw.out w5 h5.bel)
        have HF := Lib.hid (And.intro f1 (And.intro f2 f3))
        have Hok := Lib.hid (And.intro ok1 ok2)
        have HGr : Hid (Calls Tryz.prog 8 #[.slice A5 (l.length + 2 + 2) c5, .int .i64 9, .int .i64 99] w5 (DidM w5 (mkG (a.ev ++ endA) 9 99))) := by
          have := Graph_any A5 c5 (a.ev ++ endA) 9 99 w5 (by rw [hlen5]; omega) hE5 ok1
          rw [hlen5] at this
          exact this
        cases hbad : a.bad with
        | true =>
          rw [f1 hbad] at HGr
          clear f1 f2 f3 ok1 ok2 h5 hE5 hEv hWv hlen hwlen hlen5 hbad hi hlt
          go_wp2_with (first
            | (at_builtin; refine wpList_runA rfl _ _ 22 rfl _ _ _ rfl rfl hrun ?_)
            | (go_at_call 8; refine HGr.out.mono ?_; rintro e w6 ⟨v6, rfl, hg6, hb6⟩; obtain ⟨NA6, nc6, RA6, rc6, rfl, hN6, hR6⟩ := hg6; obtain ⟨V6, hV6, hbV6, hrV6, _⟩ := box2 w6 (.slice NA6 0 nc6) (.slice RA6 0 rc6) 28; have b0 := Lib.cell_of_heap hrV6 0; have H6 := Lib.hid (below_then HBw5.out (hb6.trans (hbV6.mono hb6.size))); clear hb6 hbV6 hrV6 hN6 hR6)
            | (go_at_call 10; refine (num18_any _ _).mono ?_; rintro e w9 ⟨rfl, rfl⟩))
          go_ret
          exact ⟨rfl, H6.out⟩
        | false =>
          obtain ⟨G, hG, hGn, hGk⟩ := f2 hbad
          rw [hG] at HGr
          obtain ⟨G2, x2⟩ : ∃ g : Gr × Int, mkG (a.ev ++ endA ++ moreA) 9 99 = g := ⟨_, rfl⟩
          have hx10 := f3 hbad
          rw [x2] at hx10
          obtain ⟨G2, e2⟩ := G2
          have hx10 : e2 = 10 := hx10
          subst hx10
          have HGa : Hid (∀ A9 c9 W, EvsAt W W.heap.size A9 (a.ev ++ endA ++ moreA) → Calls Tryz.prog 8 #[.slice A9 (l.length + 2 + 2 + 3) c9, .int .i64 9, .int .i64 99] W (DidM W (G2, 10))) := fun A9 c9 W hE9 => by
            have hlen9 : (a.ev ++ endA ++ moreA).length = l.length + 2 + 2 + 3 := by rw [List.length_append, hlen5]; rfl
            have := Graph_any A9 c9 (a.ev ++ endA ++ moreA) 9 99 W (by rw [hlen9]; omega) hE9 ok2
            rw [hlen9] at this
            rw [← x2]
            exact this
          have hown5 := h5.fam.own 0
          rw [h5.ev0, q50] at hown5
          have hA5 : ∃ g, A5 = some ⟨g, 0, none⟩ := by
            rcases h5.fam.form 0 (n := (a.ev ++ endA).length) (by rw [h5.ev0]) with ⟨_, h0⟩ | ⟨g, cap, hv, _⟩
            · omega
            · rw [q50] at hv; simp only [Value.slice.injEq] at hv; exact ⟨g, hv.1⟩
          obtain ⟨g5, rfl⟩ := hA5
          have hown5' : w5.ownsRow (nb + 1) 41 6 (.slice (some ⟨g5, 0, none⟩) (l.length + 2 + 2) c5) (l.length + 2 + 2) (rows (a.ev ++ endA)) := by rw [← hlen5]; rw [← hlen5] at hown5; exact hown5
          have HO5 := Lib.hid hown5'
          obtain ⟨WA5, wc5, hwv5, hWv5⟩ := h5.wantForm
          rw [q51, hwv, hwlen] at hwv5
          cases hwv5
          have HWv5 := Lib.hid hWv5
          have HGk := Lib.hid (And.intro hGn (And.intro hGk hwlen))
          have hGne : 0 < G.nodes.length := by omega
          have HGne := Lib.hid hGne
          clear f1 f2 f3 ok1 ok2 h5 hE5 hEv hWv hlen hwlen hbad hi hlt hG hGn hGk x2 hown5 hown5' hWv5 hGne
          go_wp2_with (first
            | (at_builtin; refine wpList_runA rfl _ _ 22 rfl _ _ _ rfl rfl hrun9 ?_)
            | (at_builtin; refine wpList_runA rfl _ _ 22 rfl _ _ _ rfl rfl hrun8 ?_; obtain ⟨A9, c9, w9, hrun9, hE9, hc9, hb9⟩ := evs_more H8.out.1 H8.out.2.size hlen5 (M := moreA) (m := 3) rfl (by omega) (by omega) (cs := #[.int .i64 1, .string ⟨#[]⟩, .string ⟨#[]⟩, .string ⟨#[]⟩, .int .i64 0, .bool false, .int .i64 8, .string ⟨#[]⟩, .string ⟨#[]⟩, .string ⟨#[97]⟩, .int .i64 0, .bool false, .int .i64 2, .string ⟨#[]⟩, .string ⟨#[]⟩, .string ⟨#[]⟩, .int .i64 0, .bool false]) more_cells; rw [hlen5] at hrun9; have H9 := Lib.hid (And.intro hE9 (H8.out.2.trans hb9)); clear hE9 hb9 hc9)
            | (at_builtin; refine wpList_runA rfl _ _ 22 rfl _ _ _ rfl rfl hrun ?_)
            | (go_at_call 8; (with_reducible refine HGr.out.mono ?_); rintro e w6 ⟨v6, rfl, hg6, hb6⟩; obtain ⟨NA6, nc6, RA6, rc6, rfl, hN6, hR6⟩ := hg6; obtain ⟨V6, hV6, hbV6, hrV6, _⟩ := box2 w6 (.slice NA6 G.nodes.length nc6) (.slice RA6 G.roots.length rc6) 28; have H6 := Lib.hid (And.intro (below_then hb6 hbV6) (And.intro hrV6 ((hN6.below hbV6 (Nat.le_refl _)).more hbV6.size))); have hO6 := ownsRow_below HO5.out (below_then hb6 hbV6); rw [← hlen5] at hO6; obtain ⟨A8, c8, w8, hrun8, hO8, hb8⟩ := evs_copy hO6 (by omega) (by omega); rw [hlen5] at hrun8; have H8 := Lib.hid (And.intro hO8 hb8); clear hb6 hbV6 hrV6 hN6 hR6 hO6 hO8 hb8)
            | (go_at_call 8; (with_reducible refine (HGa.out _ _ w9 H9.out.1).mono ?_); rintro e w10 ⟨v10, rfl, hg10, hb10⟩; obtain ⟨NA10, nc10, RA10, rc10, rfl, hN10, hR10⟩ := hg10; obtain ⟨V10, hV10, hbV10, hrV10, _⟩ := box2 w10 (.slice NA10 G2.nodes.length nc10) (.slice RA10 G2.roots.length rc10) 28; have hb69 := H9.out.2.trans ((below_then hb10 hbV10).mono H9.out.2.size); have hr6 := (hb69.block _ (lt_of_row H6.out.2.1)).trans H6.out.2.1; have b0 := Lib.cell_of_heap hr6 0; have hN := (H6.out.2.2.below hb69 (Nat.le_refl _)).more hb69.size; obtain ⟨nb6, no6, rfl, hnb6, hcl6⟩ := hN HGne.out; obtain ⟨KA, kc, hnd⟩ := hcl6 0 HGne.out; have n3 := hnd.c3; have hkl : (nd G.nodes 0).kids.length = l.length := (by rw [HGk.out.2.1, HGk.out.2.2]); rw [hkl] at n3; have hb510 := below_then H6.out.1 hb69; have HSI := Lib.hid (SameInts_any KA WA kc wc (nd G.nodes 0).kids a.want V10 (by rw [hkl]; omega) hnd.kids ((HWv5.out.below hb510 (Nat.le_refl _)).more hb510.size)); have H10 := Lib.hid hb510; clear hb10 hbV10 hrV10 hN10 hR10 hb69 hr6 hN hcl6 hnd hb510)
            | (go_at_call 10; refine (num18_any _ _).mono ?_; rintro e w9 ⟨rfl, rfl⟩)
            | (go_at_call 15; have hsi := HSI.out; rw [hkl, HGk.out.2.2] at hsi; refine hsi.mono ?_; rintro e w11 ⟨rfl, hb11⟩; have H11 := Lib.hid hb11; clear hb11 hsi))
          go_goals
          all_goals first
            | (exfalso; rename_i hne; exact hne (by rw [HGk.out.1]))
            | (exfalso; rename_i hne; exact hne HGk.out.2.1)
            | (go_ret; exact ⟨rfl, HBw5.out.trans ((below_then H10.out H11.out).mono HBw5.out.size)⟩)
end Go.Proofs.YtiblamapjekdeaaGreat
