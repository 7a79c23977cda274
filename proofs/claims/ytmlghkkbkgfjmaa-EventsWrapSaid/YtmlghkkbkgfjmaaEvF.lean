/- The reference's End and Right. Condition: a row of at most 100000 events. -/
import Derived.Test.YtmlghkkbkgfjmaaEvP
import Derived.Deep.Draws
namespace Go.Proofs.Ytmlghkkbkgfjmaa
open Go.RowKit
theorem scan2_self : ∀ (l op : List Int) (m : Nat), Ev.scan2 l op = some m → Ev.scan2 (l.take m) op = some m
  | [], _, _, h => by simp [Ev.scan2] at h
  | y :: r, op, m, h => by
    have hm := Ev.scan2_le (y :: r) op m h
    obtain ⟨m, rfl⟩ : ∃ m', m = m' + 1 := ⟨m - 1, by omega⟩
    rw [List.take_succ_cons, Ev.scan2]
    rw [Ev.scan2] at h
    cases ha : Ev.after y op with
    | none => rw [ha] at h; cases h
    | some o =>
      rw [ha] at h
      cases o with
      | nil => exact h
      | cons c o =>
        simp only [Option.map_eq_some_iff] at h ⊢
        obtain ⟨m', hm', he⟩ := h
        obtain rfl : m' = m := by omega
        exact ⟨m', scan2_self r (c :: o) m' hm', rfl⟩
def part (L : List Ev) (n m : Nat) : List Ev := (L.drop n).take m
theorem kinds_part (L : List Ev) (n m : Nat) : kinds (part L n m) = ((kinds L).drop n).take m := by simp [kinds, part, List.map_take, List.map_drop]
theorem part_length {L : List Ev} {n m : Nat} (h : n + m ≤ L.length) : (part L n m).length = m := by simp [part]; omega
theorem evs_part {L : List Ev} {n m k : Nat} (hk : k < m) : evs (part L n m) k = evs L (n + k) := by
  simp [evs, part, List.getD_eq_getElem?_getD, hk]
theorem EvsAt.part {w : World} {B : Nat} {b off n m : Nat} {L : List Ev} (hbw : b < B) (hc : ∀ k, k < L.length → EvAt w b (off + k * 6) (evs L k)) (h : n + m ≤ L.length) : EvsAt w B (some ⟨b, off + n * 6, none⟩) (part L n m) := fun _ =>
  ⟨b, off + n * 6, rfl, hbw, fun k hk => by
    rw [part_length h] at hk
    rw [evs_part hk, show off + n * 6 + k * 6 = off + (n + k) * 6 by omega]
    exact hc (n + k) (by omega)⟩
theorem endI_two (L : List Ev) (n : Nat) : endI L n = match Ev.scan2 ((kinds L).drop n) [] with
    | some m => if Ev.paired (kinds (part L n m)) [] then (n : Int) + m else n
    | none => n := by
  rw [endI_node, Ev.node_eq, Ev.node2.eq_def]
  cases h : Ev.scan2 ((kinds L).drop n) [] with
  | none => rfl
  | some m =>
    simp only [kinds_part]
    by_cases hp : Ev.paired (((kinds L).drop n).take m) [] = true
    · rw [if_pos hp, if_pos hp]
    · rw [if_neg hp, if_neg hp]
structure RInv (L : List Ev) (n k : Nat) (op : List Int) : Prop where
  first : op = [] → k = n
  res : Ev.scan2 ((kinds L).drop n) [] = (Ev.scan2 ((kinds L).drop k) op).map (· + (k - n))
theorem RInv.start {L : List Ev} {n : Nat} : RInv L n n [] := ⟨fun _ => rfl, by simp⟩
theorem RInv.next {L : List Ev} {n k : Nat} {op : List Int} {c : Int} {o : List Int} (h : RInv L n k op) (hk : k < L.length) (hn : n ≤ k) (ha : Ev.after (evs L k).kind op = some (c :: o)) : RInv L n (k + 1) (c :: o) := by
  refine ⟨(fun e => by cases e), ?_⟩
  rw [h.res, kinds_drop hk, Ev.scan2, ha]
  simp only [Option.map_map]
  congr 1; funext m; simp only [Function.comp]; omega
theorem RInv.fin {L : List Ev} {n k : Nat} {op : List Int} (h : RInv L n k op) (hk : k < L.length) (hn : n ≤ k) (ha : Ev.after (evs L k).kind op = some []) : Ev.scan2 ((kinds L).drop n) [] = some (k + 1 - n) := by
  rw [h.res, kinds_drop hk, Ev.scan2, ha]
  simp only [Option.map_some, Option.some.injEq]; omega
theorem RInv.done {L : List Ev} {n k : Nat} {op : List Int} (h : RInv L n k op) (hk : k < L.length) (hn : n ≤ k) (ha : Ev.after (evs L k).kind op = some []) : endI L n = if Ev.paired (kinds (part L n (k + 1 - n))) [] then (k : Int) + 1 else n := by
  rw [endI_two, h.fin hk hn ha]
  simp only
  rw [show (n : Int) + ((k + 1 - n : Nat) : Int) = (k : Int) + 1 by omega]
theorem RInv.whole {L : List Ev} {n k : Nat} {op : List Int} (h : RInv L n k op) (hk : k < L.length) (hn : n ≤ k) (ha : Ev.after (evs L k).kind op = some []) : Ev.scan2 (kinds (part L n (k + 1 - n))) [] = some (part L n (k + 1 - n)).length := by
  rw [part_length (by omega), kinds_part]
  exact scan2_self _ _ _ (h.fin hk hn ha)
theorem RInv.stop {L : List Ev} {n k : Nat} {op : List Int} (h : RInv L n k op) (hk : k < L.length) (ha : Ev.after (evs L k).kind op = none) : endI L n = n := by
  rw [endI_two, h.res, kinds_drop hk, Ev.scan2, ha]; rfl
theorem RInv.over {L : List Ev} {n k : Nat} {op : List Int} (h : RInv L n k op) (hk : L.length ≤ k) : endI L n = n := by
  rw [endI_two, h.res, kinds_end hk, Ev.scan2]; rfl
theorem after_leaf {x : Int} {op : List Int} (h : x = 7 ∨ x = 8) : Ev.after x op = some op := by
  rcases h with rfl | rfl <;> rfl
theorem after_opens {x : Int} {op : List Int} (h : x = 3 ∨ x = 5) : Ev.after x op = some ((x + 1) :: op) := by
  rcases h with rfl | rfl <;> rfl
theorem after_nil {x : Int} (h : x = 4 ∨ x = 6) : Ev.after x [] = none := by
  rcases h with rfl | rfl <;> rfl
theorem after_pop {x : Int} {op : List Int} (h : x = 4 ∨ x = 6) : Ev.after x (x :: op) = some op := by
  rcases h with rfl | rfl <;> rfl
theorem after_bad {x c : Int} {op : List Int} (h : x = 4 ∨ x = 6) (hc : ¬ c = x) : Ev.after x (c :: op) = none := by
  rcases h with rfl | rfl <;> simp [Ev.after, Ev.leaf, Ev.opens, Ev.closes, hc]
theorem after_other {x : Int} {op : List Int} (h3 : ¬ x = 3) (h4 : ¬ x = 4) (h5 : ¬ x = 5) (h6 : ¬ x = 6) (h7 : ¬ x = 7) (h8 : ¬ x = 8) : Ev.after x op = none := by
  simp [Ev.after, Ev.leaf, Ev.opens, Ev.closes, h3, h4, h5, h6, h7, h8]
def intV (x : Int) : Value := .int .i64 x
set_option maxRecDepth 100000 in
set_option maxHeartbeats 2000000 in
theorem REnd_any (A : Option Addr) (c : Nat) (L : List Ev) (i : Int) (w : World) (hl : L.length ≤ 100000) (hcap : L.length ≤ c) (hE : EvsAt w w.heap.size A L) :
    Calls Try.prog 9 #[.slice A L.length c, .int .i64 i] w fun e w' => e = .returned (.int .i64 (endI L i)) ∧ Below w.heap.size w w' := by
  obtain ⟨i0, hi, hz0, hz1, hz2⟩ := info_parts Try.infoInt
  go_enter Try.func9, Try.ntmps9
  by_cases hr : i < 0 ∨ (L.length : Int) ≤ i
  · have e : endI L i = i := by rw [endI, if_pos hr]
    rw [e]
    rcases hr with hr | hr
    · go_wp2
      all_goals first | omega | (go_ret; exact ⟨rfl, Below.refl _ _⟩)
    · go_wp2
      all_goals first | omega | (go_ret; exact ⟨rfl, Below.refl _ _⟩)
  · obtain ⟨n, rfl⟩ : ∃ n : Nat, i = n := ⟨i.toNat, by omega⟩
    have hlt : n < L.length := by omega
    have hlt' : (n : Int) < (L.length : Int) := by omega
    obtain ⟨b, off, rfl, hbw, hc⟩ := hE (by omega)
    have HK : Hid (∀ k, k < L.length → EvAt w b (off + k * 6) (evs L k)) := hc
    clear hc hr
    have hge : decide ((L.length : Int) ≤ (n : Int)) = false := decide_eq_false (by omega)
    have hge2 : decide (L.length ≤ n) = false := decide_eq_false (by omega)
    go_wp2
    go_loopw [5, 6] (fun v i wr => ∃ (k : Nat) (op : List Int), n ≤ k ∧ k ≤ L.length ∧ i = .int .i64 k ∧ wr.ownsRow w.heap.size 3 1 v op.length (flat1 intV op) ∧ Below w.heap.size w wr ∧ op.length ≤ k ∧ RInv L n k op) (fun _ i _ => L.length - (intOf i).toNat)
    case atStart => exact ⟨n, [], Nat.le_refl _, by omega, rfl, World.ownsRow_nil _ _ _ _, Below.refl _ _, by simp, RInv.start⟩
    case round =>
      obtain ⟨k, op, hnk, hk, rfl, hown, hbl, hst, HI⟩ := hrel
      by_cases hlt2 : k < L.length
      · have hlt3 : (k : Int) < (L.length : Int) := by omega
        have c0 := ((HK.out k hlt2).below hbl hbw).c0
        have CW := Lib.hid (HK.out k hlt2).c0
        have hsz := hbl.size
        obtain ⟨x, hx⟩ : ∃ x, (evs L k).kind = x := ⟨_, rfl⟩
        rw [hx] at c0 CW
        have hP := fun (hw : Ev.after x op = some []) (w1 : World) (hb1 : Below w.heap.size w w1) => RPaired_any (some ⟨b, off + n * 6, none⟩) (c - n) (part L n (k + 1 - n)) w1 (by rw [part_length (by omega)]; omega)
          (((EvsAt.part hbw HK.out (by omega)).below hb1 (Nat.le_refl _)).more hb1.size) (HI.whole hlt2 hnk (hx ▸ hw))
        have hD := fun (hw : Ev.after x op = some []) => HI.done hlt2 hnk (hx ▸ hw)
        have HN := fun cc o (hw : Ev.after x op = some (cc :: o)) => HI.next hlt2 hnk (hx ▸ hw)
        have HT := fun (hw : Ev.after x op = none) => HI.stop hlt2 (hx ▸ hw)
        have HF := Lib.hid HI.first
        have hpl : (part L n (k + 1 - n)).length = k + 1 - n := part_length (by omega)
        rw [hpl] at hP
        obtain ⟨pb, hpb⟩ : ∃ pb, Ev.paired (kinds (part L n (k + 1 - n))) [] = pb := ⟨_, rfl⟩
        rw [hpb] at hP hD
        clear hpl hpb
        have HP := Lib.hid hP
        have HD := Lib.hid hD
        have HN := Lib.hid HN
        have HT := Lib.hid HT
        clear hP hD hx HI
        have hx6 : (x = 7 ∨ x = 8) ∨ (x = 3 ∨ x = 5) ∨ (x = 4 ∨ x = 6) ∨ (¬ x = 3 ∧ ¬ x = 4 ∧ ¬ x = 5 ∧ ¬ x = 6 ∧ ¬ x = 7 ∧ ¬ x = 8) := by omega
        rcases hx6 with h7 | h3 | h4 | ⟨h3, h4, h5, h6, h7, h8⟩
        · cases op with
          | nil =>
            obtain ⟨a1, c1, rfl⟩ := own_nil hown
            have HP1 := Lib.hid (HP.out (after_leaf h7) wr hbl)
            have HD1 := Lib.hid (HD.out (after_leaf h7))
            clear HP HD HN HT
            cases pb
            all_goals
              rcases h7 with rfl | rfl
              all_goals
                go_wp2_with (go_at_call 17; refine HP1.out.mono ?_; rintro e w5 ⟨rfl, hb5⟩)
                go_ret
                exact ⟨ret_int (by rw [HD1.out]; rfl), hbl.trans (hb5.mono hsz)⟩
          | cons cc o =>
            have HN1 := Lib.hid (HN.out cc o (after_leaf h7))
            clear HP HD HN HT
            obtain ⟨g, cap, rfl, hgb, hglt, hcp⟩ := own_cons hown
            have hne : (((o.length : Int) + 1) == 0) = false := beq_eq_false_iff_ne.2 (by omega)
            rcases h7 with rfl | rfl
            all_goals
              go_wp2
              go_roundw
              case rel => exact ⟨k + 1, cc :: o, by omega, by omega, by go_num, hown, hbl, by simp only [List.length_cons] at hst ⊢; omega, HN1.out⟩
              case measure => simp [intOf]; omega
        · have HN1 := Lib.hid (HN.out _ op (after_opens h3))
          clear HP HD HN HT
          have hne : (((op.length : Int) + 1) == 0) = false := beq_eq_false_iff_ne.2 (by omega)
          rcases h3 with rfl | rfl
          all_goals
            go_wp2_with (at_builtin; refine wpList_append_own _ rfl _ _ 33 rfl w.heap.size 3 i0 (.int .i64 0) 1 8 Try.underlying33 hi hz0 hz1 hz2 rfl (by decide) _ _ _ rfl (hown.alloc _) ⟨wr.heap.size, 0, none⟩ 1 1 [_] rfl rfl (cell_one_at _ _ _ (by simp)) (fun x hx => by simp at hx; subst hx; rfl) (by unfold maxLen; omega) (by omega) (by first | omega | (simp; omega)) ?_; intro v1 w1 hown1 hgrow1 hnil1; have hb1 := grown_below hbl hown hgrow1 hsz; obtain ⟨g1, cap1, hv1, hg1b, hg1lt, hc1⟩ := own_cons hown1; rw [hv1] at hown1; clear hgrow1 hnil1)
            go_wp2
            go_roundw
            case rel => exact ⟨k + 1, _ :: op, by omega, by omega, by go_num, hown1, hb1, by simp only [List.length_cons]; omega, HN1.out⟩
            case measure => simp [intOf]; omega
        · cases op with
          | nil =>
            obtain ⟨a1, c1, rfl⟩ := own_nil hown
            have HT1 := Lib.hid (HT.out (after_nil h4))
            clear HP HD HN HT
            rcases h4 with rfl | rfl
            all_goals
              go_wp2
              go_quiet (fail)
              go_wp2
              go_ret
              exact ⟨ret_int HT1.out.symm, below_drewN hbl _⟩
          | cons cc o =>
            obtain ⟨g, cap, rfl, hgb, hglt, hcp⟩ := own_cons hown
            simp only [List.length_cons] at hown hst ⊢
            have ct0 := (hown.cellAt o.length (by omega)).trans (flat1_top intV cc o)
            simp only [intV] at ct0
            have hix1 : (o.length : Int) < (o.length : Int) + 1 := by omega
            have hix3 : o.length < o.length + 1 := by omega
            have hix0 : (0 : Int) ≤ (o.length : Int) := by omega
            have hwr : IntKind.i64.wrap (o.length : Int) = (o.length : Int) := by rw [IntKind.wrap_i64]; omega
            have hne : (((o.length : Int) + 1) == 0) = false := beq_eq_false_iff_ne.2 (by omega)
            by_cases hcx : cc = x
            · subst hcx
              have hownP := flat1_pop hown
              cases o with
              | nil =>
                have HP1 := Lib.hid (HP.out (after_pop h4))
                have HD1 := Lib.hid (HD.out (after_pop h4))
                clear HP HD HN HT
                simp only [List.length_nil] at hown hst ct0 hix1 hix3 hix0 hwr hne hcp hownP ⊢
                cases pb
                all_goals
                  rcases h4 with rfl | rfl
                  all_goals
                    go_wp2
                    go_quiet (fail)
                    go_wp2_with (go_at_call 17; refine (HP1.out _ (below_drewN hbl _)).mono ?_; rintro e w5 ⟨rfl, hb5⟩)
                    go_ret
                    exact ⟨ret_int (by rw [HD1.out]; rfl), (below_drewN hbl _).trans (hb5.mono hsz)⟩
              | cons c2 o2 =>
                have HN1 := Lib.hid (HN.out c2 o2 (after_pop h4))
                clear HP HD HN HT
                obtain ⟨m, hm⟩ : ∃ m, o2.length + 1 = m := ⟨_, rfl⟩
                simp only [List.length_cons] at hown hst ct0 hix1 hix3 hix0 hwr hne hcp hownP ⊢
                have hm0 : ((m : Int) == 0) = false := beq_eq_false_iff_ne.2 (by omega)
                rw [hm] at hown hst ct0 hix1 hix3 hix0 hwr hne hcp hownP ⊢
                have HM : Hid ((c2 :: o2).length = m) := hm
                clear hm
                rcases h4 with rfl | rfl
                all_goals
                  go_wp2
                  go_quiet (fail)
                  go_wp2
                  go_roundw
                  case rel => exact ⟨k + 1, c2 :: o2, by omega, by omega, by go_num, (by rw [HM.out]; exact hownP), below_drewN hbl _, by rw [HM.out]; omega, HN1.out⟩
                  case measure => simp [intOf]; omega
            · have HT1 := Lib.hid (HT.out (after_bad h4 hcx))
              clear HP HD HN HT
              rcases h4 with rfl | rfl
              all_goals
                have hcx1 : (cc == _) = false := beq_eq_false_iff_ne.2 hcx
                have hcx2 : (cc != _) = true := bne_iff_ne.2 hcx
                go_wp2
                go_quiet (fail)
                go_wp2
                go_ret
                exact ⟨ret_int HT1.out.symm, below_drewN hbl _⟩
        · have HT1 := Lib.hid (HT.out (after_other h3 h4 h5 h6 h7 h8))
          clear HP HD HN HT
          have b3 : (x == 3) = false := beq_eq_false_iff_ne.2 h3
          have b4 : (x == 4) = false := beq_eq_false_iff_ne.2 h4
          have b5 : (x == 5) = false := beq_eq_false_iff_ne.2 h5
          have b6 : (x == 6) = false := beq_eq_false_iff_ne.2 h6
          have b7 : (x == 7) = false := beq_eq_false_iff_ne.2 h7
          have b8 : (x == 8) = false := beq_eq_false_iff_ne.2 h8
          go_wp2
          go_ret
          exact ⟨ret_int HT1.out.symm, hbl⟩
      · have e := HI.over (by omega)
        go_wp2
        go_ret
        exact ⟨ret_int e.symm, hbl⟩
end Go.Proofs.Ytmlghkkbkgfjmaa
