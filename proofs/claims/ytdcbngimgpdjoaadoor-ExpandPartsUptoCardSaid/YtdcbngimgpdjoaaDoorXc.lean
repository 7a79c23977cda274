/- expand.backs: the nodes that are come to from one, each behind its Kids, handed to any body. Conditions: the graph is right; the caller's own cells lie apart from the iterator's. -/
import Derived.Test.YtdcbngimgpdjoaaDoorXb
namespace Go.Proofs.YtdcbngimgpdjoaaDoor
open Go.RowKit Go.Shelf Go.Deep
attribute [local go_sem] Oper.semAt_some
set_option maxRecDepth 100000 in
theorem backs_any (NA : Option Addr) (n nc : Nat) (RA : Option Addr) (m rc : Nat) (root : Int) (w : World) : Calls Tryd.prog 74 #[.agg #[.slice NA n nc, .slice RA m rc], .int .i64 root] w fun e w' =>
    e = .returned (.func (.func 81) #[] #[.pointer (some ⟨w.heap.size, 0, none⟩), .pointer (some ⟨w.heap.size + 1, 0, none⟩)]) ∧ (w.alloc (.cells #[.slice NA n nc, .slice RA m rc] 25)).alloc (.cells #[.int .i64 root] 3) = w' := by
  go_enter Tryd.func74, Tryd.ntmps74
  go_wp2
  go_ret
  exact ⟨rfl, rfl⟩
theorem wrap_nat (m : Nat) (h : m ≤ 1000000000) : wrap64 (m : Int) = m := IntWalk.wrap64_in _ (by omega)
theorem wrap_nat1 (m : Nat) (h : m ≤ 1000000000) : wrap64 ((m : Int) + 1) = m + 1 := IntWalk.wrap64_in _ (by omega)
set_option maxRecDepth 100000 in
set_option maxHeartbeats 8000000 in
theorem backIter (G : Gr) (NA RA : Option Addr) (nc rc root lp B1 B2 N : Nat) (C : List Nat → World → Prop) (W : World) (hR : RightG G) (hr : isB G root = true) (hok : G.ok) (hC : CalQ C N G NA RA nc rc root B1 B2)
    (h0 : C [] W) (hN : N = W.heap.size)
    (Bk : World → Prop) (Bx : Code → World → Prop) (keep : ∀ A B, KeepsOthers A B → Bk A → Bk B)
    (hY : ∀ (s : QTold) (W1 : World), QRd C N G (metL G root) s W1 → Bk W1 → YieldAt Fence.wide (3 - 1 - 1) Tryd.prog lp #[.int .i64 (s.i : Int)] W1 fun e W' =>
      (e = .returned (.bool true) ∧ QAf C N G (metL G root) s W' ∧ Bk W') ∨ (e = .returned (.bool false) ∧ ∃ cd, False ∧ Bx cd W'))
    (hk : Bk W) :
    CallsIn Fence.wide (3 - 1) Tryd.prog 81 #[.func (.yield lp) #[] #[], .pointer (some ⟨B1, 0, none⟩), .pointer (some ⟨B2, 0, none⟩)] W fun e W' => (∃ v, e = .returned v) ∧
      (((∃ R, (∀ x ∈ metL G root, Acc (edge (kidN G)) x → x ∈ R) ∧ C R W') ∧ Bk W') ∨ (∃ cd, False ∧ Bx cd W')) := by
  obtain ⟨c0, c1, c2⟩ := hC.cells _ _ h0
  have hn := hR.nodes
  have hlt : root < G.nodes.length := by simp only [isB, Bool.and_eq_true, decide_eq_true_eq] at hr; omega
  have hmet := hR.met hlt
  have hRc : Hid (Calls Tryd.prog 21 #[.agg #[.slice NA G.nodes.length nc, .slice RA G.roots.length rc], .int .i64 (root : Int)] W fun e w' => ∃ LA lc, e = .returned (.slice LA (metL G root).length lc) ∧ IntsAt w' w'.heap.size LA ((metL G root).map Int.ofNat) ∧ Below W.heap.size W w') := by
    refine (Reach_any G _ root W ((hC.gr _ _ h0).more (by omega)) hok (hC.tabs _ _ h0)).mono ?_
    rintro e w' ⟨u, rfl, ⟨A, c, rfl, q1, _, _⟩, q2⟩
    have e1 : reachL G root = metL G root := by rw [reachL, if_pos hr]; simp
    rw [e1] at q1 ⊢
    exact ⟨A, c, rfl, q1, q2⟩
  obtain ⟨L, hLe⟩ : ∃ L, metL G root = L := ⟨_, rfl⟩
  rw [hLe] at hRc hY ⊢
  have hLn : L.Nodup := hLe ▸ hmet.nodup
  have hLl : ∀ x ∈ L, x < G.nodes.length := hLe ▸ hmet.lt
  have hLk : ∀ x ∈ L, ∀ y ∈ kidN G x, y ∈ L := hLe ▸ hmet.kids
  have hL20 : L.length ≤ 20000 := by have := nodup_short _ _ hLn hLl; omega
  have HF : Hid (L.Nodup ∧ (∀ x ∈ L, x < G.nodes.length) ∧ (∀ x ∈ L, ∀ y ∈ kidN G x, y ∈ L) ∧ L.length ≤ 20000 ∧ RightG G) := ⟨hLn, hLl, hLk, hL20, hR⟩
  have HC := Lib.hid hC
  have HY := Lib.hid hY
  have H0 := Lib.hid h0
  have Hk := Lib.hid hk
  have HN := Lib.hid hN
  clear hC hY h0 hk hmet hLe hLn hLl hLk hL20 hR hok hr hlt hN
  refine callsIn_of_wp Tryd.func81 rfl trivial ?_ rfl
  simp only [Tryd.ntmps81, List.size_toArray, List.length_cons, List.length_nil, Nat.reduceAdd, Nat.reduceSub, Array.replicate_succ, Array.replicate_zero, List.push_toArray, List.append_toArray, List.nil_append, List.cons_append]
  refine wpIn_wide.2 ?_
  go_wp2_with (go_at_call 21; refine hRc.out.mono ?_; rintro e w3 ⟨LA, lc, rfl, hI, hb3⟩
               obtain ⟨d0, d1, d2⟩ := HC.out.cells _ _ (HC.out.frm _ _ w3 H0.out (.of_below hb3))
               have hmake := run_make_row' (P := Tryd.prog) 23 3 (.int .i64 0) 8 rfl Tryd.infoIntZ rfl .i64 .i64 G.nodes.length (by omega) (by omega) w3
               obtain ⟨M1, hM1, hbM1, hrM1, hsM1⟩ := rowM w3 (.int .i64 0) G.nodes.length 3
               rw [hM1] at hmake
               have hmake2 := run_make_row' (P := Tryd.prog) 71 23 (.slice none 0 0) 24 rfl Tryd.infoSlZ rfl .i64 .i64 G.nodes.length (by omega) (by omega) M1
               obtain ⟨M2, hM2, hbM2, hrM2, hsM2⟩ := rowM M1 (.slice none 0 0) G.nodes.length 23
               rw [hM2, hsM1] at hmake2
               obtain ⟨e0, e1, e2⟩ := HC.out.cells _ _ (HC.out.frm _ _ M1 (HC.out.frm _ _ w3 H0.out (.of_below hb3)) (.of_below hbM1))
               have HI := Lib.hid hI
               have Hb3 := Lib.hid hb3
               have HK := Lib.hid (kaStart w3 M1 M2 G.nodes.length hM1 hM2)
               have HsM := Lib.hid hsM1
               clear hI hb3 hbM1 hrM1 hsM1 hbM2 hrM2 hsM2)
  have HCw : Hid (∀ W', Below w3.heap.size w3 W' → W'.cell? ⟨B1, 0, none⟩ = some (.slice NA G.nodes.length nc) ∧ W'.cell? ⟨B1, 1, none⟩ = some (.slice RA G.roots.length rc) ∧ C [] W' ∧ NdsAt W' N NA G.nodes ∧ IntsAt W' w3.heap.size LA (L.map Int.ofNat)) := fun W' hW => by
    have h1 := HC.out.frm _ _ W' H0.out (.of_below (below_then Hb3.out hW))
    obtain ⟨q1, q2, _⟩ := HC.out.cells _ _ h1
    exact ⟨q1, q2, h1, HC.out.nodes _ _ h1, HI.out.below hW (Nat.le_refl _)⟩
  have Hw3 : Hid (N ≤ w3.heap.size) := by rw [HN.out]; exact Hb3.out.size
  have HBk : Hid (∀ W', Below w3.heap.size w3 W' → Bk W') := fun W' hW => keep _ _ (keeps_of_below (below_then Hb3.out hW)) Hk.out
  have HKe := Lib.hid keep
  clear hmake hmake2 d0 d1 d2 e0 e1 e2 HI Hb3 HsM hM1 hM2 hRc hn c0 c1 c2 HN H0 Hk keep
  go_loopw [7, 28] (fun fr i wr => ∃ (k : Nat) (vs : Nat → Value), k ≤ L.length ∧ i = .int .i64 (k : Int) ∧ Hid (KaSt w3 G.nodes.length (lfs (kidN G) (L.take k)) vs (upsN (kidN G) (L.take k)) (frees (kidN G) (L.take k)) fr wr)) (fun _ i _ => L.length - (intOf i).toNat)
  case atStart => exact ⟨0, fun _ => .slice none 0 0, Nat.zero_le _, rfl, HK.out.congr (fun _ _ => by simp [lfs]) (fun _ _ => by simp [upsN])⟩
  case round =>
    obtain ⟨k, vs, hk, rfl, hs⟩ := hrel
    have hlL : (L.map Int.ofNat).length = L.length := List.length_map _
    by_cases hlt : k < L.length
    · obtain ⟨x, hx⟩ : ∃ x, L[k] = x := ⟨_, rfl⟩
      have hxL : x ∈ L := hx ▸ List.getElem_mem hlt
      have hxn : x < G.nodes.length := HF.out.2.1 x hxL
      have htk : L.take (k + 1) = L.take k ++ [x] := by rw [List.take_succ_eq_append_getElem hlt, hx]
      have HTk := Lib.hid htk
      have hlt' : (k : Int) < (L.length : Int) := by omega
      obtain ⟨e0, e1, hcw, hnds, hli⟩ := HCw.out wr hs.out.keep
      obtain ⟨lb, lo, rfl, hlb, hlc⟩ := hli (by omega)
      have hlk : wr.cell? ⟨lb, lo + k, none⟩ = some (.int .i64 (x : Int)) := by
        rw [hlc k (by omega)]
        simp [nth, hlt, hx]
      obtain ⟨bn, on, rfl, hbn, hnc⟩ := hnds (by omega)
      obtain ⟨K, kc, hnd⟩ := hnc x hxn
      obtain ⟨kl, hkl⟩ : ∃ l, (nd G.nodes x).kids = l := ⟨_, rfl⟩
      have hbnN : bn < N := hbn
      have HKN : Hid (kidN G x = kl.map Int.toNat) := by rw [← hkl]; rfl
      have HKr : Hid (∀ z ∈ kl, 0 ≤ z ∧ z < G.nodes.length) := by rw [← hkl]; exact HF.out.2.2.2.2.kids x hxn
      have HKl : Hid (kl.length ≤ 20000) := by
        have h1 := restK_all (kids := kidN G) [x] [] (by simp) (by simpa using hxn)
        rw [restK_sum G _ (Nat.le_refl _), List.take_length] at h1
        have := HF.out.2.2.2.2.sum
        simp [kidN, hkl] at h1
        show _ ≤ _; omega
      have c3 := hnd.c3
      have hk5 := hnd.kids
      rw [hkl] at c3 hk5
      have HK5 := Lib.hid hk5
      have HUl : Hid (∀ y, (upsN (kidN G) (L.take k) y).length + (kidN G x).count y ≤ 20001) := fun y => by
        have h1 := HF.out.2.2.2.2.upsLen (l := L.take (k + 1)) (List.Pairwise.sublist (List.take_sublist _ _) HF.out.1) (fun z hz => HF.out.2.1 z (List.mem_of_mem_take hz)) y
        rw [htk, upsN_snoc, List.length_append, List.length_replicate] at h1
        exact h1
      have HW1 : Hid (∀ W2, Below w3.heap.size w3 W2 → W2.cell? ⟨lb, lo + k, none⟩ = some (.int .i64 (x : Int)) ∧ IntsAt W2 N K kl) := fun W2 h2 => by
        have hz1 : N ≤ w3.heap.size := Hw3.out
        have hblk : ∀ b, b < w3.heap.size → W2.heap[b]? = wr.heap[b]? := fun b hb => (h2.block b hb).trans (hs.out.keep.block b hb).symm
        refine ⟨(World.cell?_of_block (hblk lb (by omega))).trans hlk, fun hz => ?_⟩
        obtain ⟨b, o, hA, hb, hc⟩ := HK5.out hz
        exact ⟨b, o, hA, hb, fun j hj => (World.cell?_of_block (hblk b (by omega))).trans (hc j hj)⟩
      have HSd := Lib.hid hs.out
      have Hlt := Lib.hid hlt
      have Hlb := Lib.hid hlb
      have hx0 : (0 : Int) ≤ (x : Int) := Int.natCast_nonneg x
      have hxn' : (x : Int) < (G.nodes.length : Int) := by omega
      have hlr := HSd.out.left.cell hxn
      have hfz := HSd.out.left.frozen x
      obtain ⟨wd, hwd⟩ : ∃ wd, wd = wr := ⟨_, rfl⟩
      rw [← hwd] at hlr hfz HSd e0 hlk c3 ⊢
      clear hwd hnds hnc hnd hli hlc hcw hk5 htk hkl hx hs hbn hlb e1
      obtain ⟨W1, hW1⟩ : ∃ W1, wd.setCell ⟨w3.heap.size, x, none⟩ (.int .i64 (kl.length : Int)) = W1 := ⟨_, rfl⟩
      have HS1 : Hid (KaSt w3 G.nodes.length (lfs (kidN G) (L.take (k + 1))) vs (fun y => upsN (kidN G) (L.take k) y ++ List.replicate (((kl.take 0).map Int.toNat).count y) x) (frees (kidN G) (L.take k)) u7 W1) := by
        rw [← hW1]
        refine (HSd.out.setLeft x kl.length).congr (fun j _ => ?_) (fun j _ => by simp)
        rw [HTk.out]
        by_cases e : j = x
        · subst e; simp [lfs, HKN.out]
        · simp [lfs, e]
      obtain ⟨e0w, _, _, hndw, _⟩ := HCw.out W1 HS1.out.keep
      obtain ⟨_, _, ebn, _, hncw⟩ := hndw (by omega)
      cases ebn
      obtain ⟨Kw, kcw, hndx⟩ := hncw x hxn
      have c3w := hndx.c3
      have hek : (nd G.nodes x).kids.length = kl.length := by have h1 := congrArg List.length HKN.out; simpa [kidN] using h1
      have c3e : some (Value.slice Kw (nd G.nodes x).kids.length kcw) = some (Value.slice K kl.length kc) := by
        rw [← c3w, ← c3, ← hW1]
        exact World.cell?_of_block (Below.heap_setCell wd ⟨w3.heap.size, x, none⟩ _ bn (by show bn ≠ w3.heap.size; have := Hw3.out; omega))
      rw [c3e] at c3w
      clear hndw hncw hndx hek c3e
      go_wp2_with fail
      clear hW1 hlr hfz HSd e0w c3w e0 hlk c3
      go_loopw [49] (fun j w2 => ∃ (q : Nat) (vs2 : Nat → Value), q ≤ kl.length ∧ j = .int .i64 (q : Int) ∧ Hid (KaSt w3 G.nodes.length (lfs (kidN G) (L.take (k + 1))) vs2 (fun y => upsN (kidN G) (L.take k) y ++ List.replicate (((kl.take q).map Int.toNat).count y) x) (frees (kidN G) (L.take k)) u7 w2)) (fun j _ => kl.length - (intOf j).toNat)
      case atStart => exact ⟨0, vs, Nat.zero_le _, rfl, HS1⟩
      case round =>
        obtain ⟨q, vs2, hq, rfl, hs2⟩ := hrel
        by_cases hlt3 : q < kl.length
        · obtain ⟨_, y3⟩ := HW1.out wr hs2.out.keep
          obtain ⟨bK, oK, rfl, hbK, hcK⟩ := y3 (by omega)
          have hbK3 : bK < w3.heap.size := by have := Hw3.out; omega
          have hcq := hcK q hlt3
          obtain ⟨z, hz⟩ : ∃ z : Nat, nth kl q = (z : Int) := ⟨(nth kl q).toNat, by have := (HKr.out _ (nth_mem hlt3)).1; omega⟩
          have hzn : z < G.nodes.length := by have := (HKr.out _ (nth_mem hlt3)).2; omega
          have hzn' : (z : Int) < (G.nodes.length : Int) := by omega
          have hz0' : (0 : Int) ≤ (z : Int) := Int.natCast_nonneg z
          rw [hz] at hcq
          have hvz := hs2.out.vrow.cell hzn
          have hlt4 : (q : Int) < (kl.length : Int) := by omega
          have htq : (kl.take (q + 1)).map Int.toNat = (kl.take q).map Int.toNat ++ [z] := by rw [take_nth hlt3, hz]; simp
          have hlen : (upsN (kidN G) (L.take k) z ++ List.replicate (((kl.take q).map Int.toNat).count z) x).length ≤ 1000000000 := by
            have h1 := HUl.out z
            have h2 : ((kl.take q).map Int.toNat).count z ≤ (kidN G x).count z := by
              rw [HKN.out]
              exact List.Sublist.count_le _ ((List.take_sublist q kl).map _)
            rw [List.length_append, List.length_replicate]; omega
          have hsz3 : w3.heap.size + 2 ≤ (wr.alloc (.cells #[.int .i64 (x : Int)] 3)).heap.size := by have := hs2.out.size; simp; omega
          have hrow3 : (wr.alloc (.cells #[.int .i64 (x : Int)] 3)).ownsRow (w3.heap.size + 2) 3 1 (vs2 z) (upsN (kidN G) (L.take k) z ++ List.replicate (((kl.take q).map Int.toNat).count z) x).length (ncells (upsN (kidN G) (L.take k) z ++ List.replicate (((kl.take q).map Int.toNat).count z) x)) := (hs2.out.rows z hzn).alloc _
          have HT : Hid (∀ v' w' g, (wr.alloc (.cells #[.int .i64 (x : Int)] 3)).grownBy w' (vs2 z).ownBlock → w'.ownsRow (w3.heap.size + 2) 3 1 v' ((upsN (kidN G) (L.take k) z ++ List.replicate (((kl.take q).map Int.toNat).count z) x) ++ [x]).length (ncells ((upsN (kidN G) (L.take k) z ++ List.replicate (((kl.take q).map Int.toNat).count z) x) ++ [x])) →
              (v'.ownBlock = (vs2 z).ownBlock ∨ v'.ownBlock = some (wr.alloc (.cells #[.int .i64 (x : Int)] 3)).heap.size) → v'.ownBlock = some g →
              (w'.cell? ⟨w3.heap.size + 1, z, none⟩ = some (vs2 z) ∧ w'.frozen? ⟨w3.heap.size + 1, z, none⟩ = false) ∧ KaSt w3 G.nodes.length (lfs (kidN G) (L.take (k + 1))) (fun j => if j = z then v' else vs2 j) (fun y => upsN (kidN G) (L.take k) y ++ List.replicate (((kl.take (q + 1)).map Int.toNat).count y) x) (frees (kidN G) (L.take k)) u7 (w'.setCell ⟨w3.heap.size + 1, z, none⟩ v')) := fun v' w' g a1 a2 a3 a4 => by
            have h5 : (vs2 z).ownBlock = some g ∨ g = wr.heap.size + 1 := by
              rcases a3 with e | e
              · left; rw [← e, a4]
              · right; rw [a4] at e; simpa using e
            obtain ⟨t1, t2⟩ := hs2.out.tell hzn a1 a2 a4 h5
            refine ⟨⟨t2.cell hzn, t2.frozen z⟩, t1.congr (fun _ _ => rfl) fun y _ => ?_⟩
            rw [htq, List.count_append]
            by_cases e : y = z
            · subst e; simp only [if_true]; rw [List.append_assoc, ← rep_snoc]; simp
            · rw [if_neg e, List.count_eq_zero_of_not_mem (a := y) (l := [z]) (by simpa using e)]; simp
          have Hlt3 := Lib.hid hlt3
          have hmz : ∀ y : Int, y = q + 1 → kl.length - (intOf (.int .i64 y)).toNat < kl.length - (intOf (.int .i64 (q : Int))).toNat := by intro y hy; subst hy; have := Hlt3.out; simp only [intOf]; omega
          have HW : Hid (wrap64 ((q : Int) + 1) = q + 1) := IntWalk.wrap64_in _ (by have := Hlt3.out; have := HKl.out; omega)
          clear hcK y3 hz htq hs2 hq hbK hlt3
          go_wp2_with (at_builtin; refine wpList_appO2 rfl _ _ _ rfl rfl (vs2 z) _ x rfl hrow3 wr.heap.size rfl (by simp) hlen hsz3 ?_; intro v' w' r1 r2 r3 r4; obtain ⟨g, r4⟩ := r4; obtain ⟨⟨s1, s2⟩, HE0⟩ := HT.out v' w' g r2 r1 r3 r4; have HE := Lib.hid HE0; obtain ⟨A', m', c', hv'⟩ : ∃ A m c, v' = .slice A m c := (by obtain ⟨A, c, h, _⟩ := ints_row r1; exact ⟨A, _, c, h⟩); subst hv'; clear r1 r2 r3 r4 HE0)
          first
            | exact ⟨⟨q + 1, _, Hlt3.out, by simp, HE⟩, hmz _ rfl⟩
            | exact ⟨⟨q + 1, _, Hlt3.out, congrArg (Value.int .i64) (HW.out.trans (by simp)), HE⟩, hmz _ HW.out⟩
        · obtain rfl : q = kl.length := by omega
          have hd2 : ¬ (kl.length : Int) < (kl.length : Int) := by omega
          have HE : Hid (KaSt w3 G.nodes.length (lfs (kidN G) (L.take (k + 1))) vs2 (upsN (kidN G) (L.take (k + 1))) (frees (kidN G) (L.take k)) u7 wr) := hs2.out.congr (fun _ _ => rfl) fun y _ => by
            rw [List.take_of_length_le (Nat.le_refl _), ← HKN.out, HTk.out, upsN_snoc]
          have hlx : wr.cell? ⟨w3.heap.size, x, none⟩ = some (.int .i64 (kl.length : Int)) := by
            rw [HE.out.left.cell hxn, HTk.out]
            simp [lfs, HKN.out]
          have hmz : ∀ y : Int, y = k + 1 → L.length - (intOf (.int .i64 y)).toNat < L.length - (intOf (.int .i64 (k : Int))).toNat := by intro y hy; subst hy; have := Hlt.out; simp only [intOf]; omega
          have HW : Hid (wrap64 ((k : Int) + 1) = k + 1) := IntWalk.wrap64_in _ (by have := Hlt.out; have := HF.out.2.2.2.1; omega)
          by_cases hz0 : kl = []
          · have HFr : Hid (frees (kidN G) (L.take (k + 1)) = x :: frees (kidN G) (L.take k)) := by
              show _ = _
              rw [HTk.out, frees_snoc, HKN.out, hz0]; rfl
            have hk0 : ((kl.length : Int) == 0) = true := by rw [hz0]; rfl
            have hfl : (frees (kidN G) (L.take k)).reverse.length ≤ 1000000000 := by
              have h1 : (frees (kidN G) (L.take k)).length ≤ (L.take k).length := by unfold frees; rw [List.length_reverse]; exact List.length_filter_le _ _
              rw [List.length_take] at h1
              have := HF.out.2.2.2.1
              rw [List.length_reverse]; omega
            have hws := HE.out.size
            have hrow3 : (wr.alloc (.cells #[.int .i64 (x : Int)] 3)).ownsRow (w3.heap.size + 2) 3 1 u7 (frees (kidN G) (L.take k)).reverse.length (ncells (frees (kidN G) (L.take k)).reverse) := by
              have := HE.out.free.alloc (.cells #[.int .i64 (x : Int)] 3)
              rwa [List.length_reverse]
            have hsz3 : w3.heap.size + 2 ≤ (wr.alloc (.cells #[.int .i64 (x : Int)] 3)).heap.size := by simp; omega
            have HP : Hid (∀ v' w' g, (wr.alloc (.cells #[.int .i64 (x : Int)] 3)).grownBy w' u7.ownBlock → w'.ownsRow (w3.heap.size + 2) 3 1 v' ((frees (kidN G) (L.take k)).reverse ++ [x]).length (ncells ((frees (kidN G) (L.take k)).reverse ++ [x])) →
                (v'.ownBlock = u7.ownBlock ∨ v'.ownBlock = some (wr.alloc (.cells #[.int .i64 (x : Int)] 3)).heap.size) → v'.ownBlock = some g →
                KaSt w3 G.nodes.length (lfs (kidN G) (L.take (k + 1))) vs2 (upsN (kidN G) (L.take (k + 1))) (frees (kidN G) (L.take (k + 1))) v' w') := fun v' w' g a1 a2 a3 a4 => by
              have h5 : u7.ownBlock = some g ∨ g = wr.heap.size + 1 := by
                rcases a3 with e | e
                · left; rw [← e, a4]
                · right; rw [a4] at e; simpa using e
              rw [HFr.out]
              exact HE.out.push a1 a2 a4 h5
            clear hq hlt3 hs2 HE hws
            go_wp2_with (at_builtin; refine wpList_appO2 rfl _ _ _ rfl rfl u7 _ x rfl hrow3 wr.heap.size rfl (by simp) hfl hsz3 ?_; intro v' w' r1 r2 r3 r4; obtain ⟨g, r4⟩ := r4; have HE := Lib.hid (HP.out v' w' g r2 r1 r3 r4); clear r1 r2 r3 r4)
            first
              | exact ⟨⟨k + 1, vs2, Hlt.out, by simp, HE⟩, hmz _ rfl⟩
              | exact ⟨⟨k + 1, vs2, Hlt.out, congrArg (Value.int .i64) (HW.out.trans (by simp)), HE⟩, hmz _ HW.out⟩
          · have HE2 : Hid (KaSt w3 G.nodes.length (lfs (kidN G) (L.take (k + 1))) vs2 (upsN (kidN G) (L.take (k + 1))) (frees (kidN G) (L.take (k + 1))) u7 wr) := by
              have : frees (kidN G) (L.take (k + 1)) = frees (kidN G) (L.take k) := by
                rw [HTk.out, frees_snoc, HKN.out, if_neg (by simpa using hz0)]
              rw [this]; exact HE
            have hk0 : ((kl.length : Int) == 0) = false := beq_eq_false_iff_ne.2 (by have := List.length_pos_iff.2 hz0; omega)
            clear hq hlt3 hs2 HE
            go_wp2_with fail
            first
              | exact ⟨⟨k + 1, vs2, Hlt.out, by simp, HE2⟩, hmz _ rfl⟩
              | exact ⟨⟨k + 1, vs2, Hlt.out, congrArg (Value.int .i64) (HW.out.trans (by simp)), HE2⟩, hmz _ HW.out⟩
    · obtain rfl : k = L.length := by omega
      have hd2 : ¬ (L.length : Int) < (L.length : Int) := by omega
      have HS2 := hs.out
      rw [List.take_of_length_le (Nat.le_refl _)] at HS2
      have HS := Lib.hid HS2
      have HKn : Hid (Kn (kidN G) L [] (frees (kidN G) L).reverse (lfs (kidN G) L)) := (Kn.start HF.out.1).perm (List.reverse_perm _).symm
      have HQ0 : Hid (KqSt N w3.heap.size (w3.heap.size + 1) (w3.heap.size + 2) G.nodes.length (lfs (kidN G) L) vs (upsN (kidN G) L) (frees (kidN G) L).reverse u7 wr) := .of HS.out Hw3.out
      have HC0 := Lib.hid (HCw.out wr HS.out.keep).2.2.1
      have HB0 := Lib.hid (HBk.out wr HS.out.keep)
      obtain ⟨gl, hgl⟩ : ∃ g, w3.heap.size = g := ⟨_, rfl⟩
      rw [hgl] at HQ0 ⊢
      clear hk hlt hs HS2 HS HCw HBk HK Hw3 hgl
      go_wp2_with fail
      refine (wpIn_wide (n := 3 - 1)).1 ?_
      gi_loopg [7] 20001 (fun gk u wr => gk ≤ 20001 ∧ ∃ (R q : List Nat) (lf : Nat → Nat), Hid (gk + R.length = 20001) ∧ Hid (Kn (kidN G) L R q lf) ∧ Hid (KqSt N gl (gl + 1) (gl + 2) G.nodes.length lf vs (upsN (kidN G) L) q u wr) ∧ Hid (C R wr) ∧ Hid (Bk wr))
      case atStart => exact ⟨Nat.le_refl _, [], _, _, rfl, HKn, HQ0, HC0, HB0⟩
      case round =>
        obtain ⟨hgk, R, q, lf, hgR, hkn, hst, hc, hbk⟩ := hrel
        obtain ⟨A, c, hu, hqc⟩ := hst.out.shape
        subst hu
        cases q with
        | nil =>
          have HFin : Hid (∀ x ∈ L, Acc (edge (kidN G)) x → x ∈ R) := hkn.out.all HF.out.2.2.1
          clear hst hkn hqc
          gi_wp2
          refine bodyPost_end (results_none rfl _ _ _) rfl ?_
          exact ⟨⟨_, rfl⟩, .inl ⟨⟨R, HFin.out, hc.out⟩, hbk.out⟩⟩
        | cons i q =>
          obtain ⟨g, o, rfl, hci, hc1, hcm, hqc2, hpop⟩ := hst.out.pop
          obtain ⟨A2, hA2⟩ : ∃ A2, (if c = 1 then some (⟨g, o, none⟩ : Addr) else some ⟨g, o + 1, none⟩) = A2 := ⟨_, rfl⟩
          rw [hA2] at hpop
          have hki := hkn.out.pop
          have hkids := hki.kids
          have hiL : i ∈ L := hki.sub i (by simp)
          have hin := HF.out.2.1 i hiL
          have hnew : i ∉ R := by
            have := hki.nd
            rw [List.nodup_append] at this
            exact fun hx => this.2.2 i hx i (by simp) rfl
          have hRL : R.length ≤ 20000 := by
            have h1 : R.Nodup := (List.nodup_append.1 hki.nd).1
            have h2 := nodup_sub R L h1 fun x hx => hki.sub x (by simp [hx])
            have := HF.out.2.2.2.1
            omega
          obtain ⟨gk, rfl⟩ : ∃ k, gk = k + 1 := ⟨gk - 1, by have := hgR.out; omega⟩
          have hgR2 : gk + (R ++ [i]).length = 20001 := by have := hgR.out; simp; omega
          have HgR := Lib.hid hgR2
          have Hki := Lib.hid hki
          have Hin := Lib.hid hin
          have hYd := HY.out ⟨i, R, lf, vs, q, .slice A2 q.length (c - 1), gl, gl + 1, gl + 2⟩ wr ⟨hc.out, hpop, hkids, hnew, hin, hRL, hki.acc i (by simp)⟩ hbk.out
          obtain ⟨fn, tmps, assign, body, hy, hRr0⟩ := hYd
          have HRr := Lib.hid hRr0
          have hcI : (1 : Int) ≤ (c : Int) := by omega
          have hqI : (0 : Int) < (q.length : Int) + 1 := by omega
          unfold maxLen at hcm
          clear hst hkn hkids hiL hnew hRL hgR hgR2 hRr0 hki hin hpop hqc
          gi_wp2
          refine HRr.out.mono ?_
          rintro e W3 (⟨rfl, haf, hk3⟩ | ⟨rfl, cd, hF, _⟩)
          · obtain ⟨hc3, hst3⟩ := haf
            simp only at hc3 hst3
            obtain ⟨Av, cv, hvi, hIv, hlv, _⟩ := ints_row (hst3.rows i Hin.out)
            have hvc := hst3.vrow.cell Hin.out
            rw [hvi] at hvc
            have hinI : (i : Int) < (G.nodes.length : Int) := by have := Hin.out; omega
            have hin0 : (0 : Int) ≤ (i : Int) := Int.natCast_nonneg i
            have HUl : Hid ((upsN (kidN G) L i).length ≤ 20001) := HF.out.2.2.2.2.upsLen HF.out.1 HF.out.2.1 i
            have HU : Hid (Ki (kidN G) L R q i 0 lf) := Hki.out
            have Hst3 := Lib.hid hst3
            have Hc3 := Lib.hid hc3
            have Hk3 := Lib.hid hk3
            have Hvi := Lib.hid hvi
            clear hst3 hc3 hk3 hIv hlv hvi HRr hy hc hbk hci hA2 Hki
            gi_wp2
            clear hvc
            gi_loopw [7, 91] (fun u j w2 => ∃ (jn : Nat) (q2 : List Nat) (lf2 : Nat → Nat), jn ≤ (upsN (kidN G) L i).length ∧ j = .int .i64 (jn : Int) ∧ Hid (Ki (kidN G) L R q2 i jn lf2) ∧ Hid (KqSt N gl (gl + 1) (gl + 2) G.nodes.length lf2 vs (upsN (kidN G) L) q2 u w2) ∧ Hid (C (R ++ [i]) w2) ∧ Hid (Bk w2)) (fun _ j _ => (upsN (kidN G) L i).length - (intOf j).toNat)
            case atStart => exact ⟨0, q, lf, Nat.zero_le _, rfl, HU, Hst3, Hc3, Hk3⟩
            case round =>
              obtain ⟨jn, q2, lf2, hj, rfl, hki, hst, hc, hbk⟩ := hrel
              by_cases hlj : jn < (upsN (kidN G) L i).length
              · obtain ⟨Aw, cw, hvi2, hIw, _⟩ := ints_row (hst.out.rows i Hin.out)
                have hAw : Aw = Av := by have h1 := hvi2.symm.trans Hvi.out; injection h1
                rw [hAw] at hIw
                obtain ⟨bA, oA, rfl, hbA, hcA⟩ := hIw (by rw [List.length_map]; omega)
                have hcp := hcA jn (by rw [List.length_map]; exact hlj)
                obtain ⟨p, hp⟩ : ∃ p, (upsN (kidN G) L i)[jn] = p := ⟨_, rfl⟩
                have hnth : nth ((upsN (kidN G) L i).map Int.ofNat) jn = (p : Int) := by simp [nth, hlj, hp]
                rw [hnth] at hcp
                obtain ⟨hpL, hp1, hpz, hpn⟩ := hki.out.step HF.out.1 hlj hp
                have hpl := HF.out.2.1 p hpL
                obtain ⟨m, hm⟩ : ∃ m, lf2 p = m + 1 := ⟨lf2 p - 1, by omega⟩
                rw [show lf2 p - 1 = m by omega] at hpz hpn
                have hlr := hst.out.left.cell hpl
                rw [hm, show ((m + 1 : Nat) : Int) = (m : Int) + 1 by omega] at hlr
                have hfz := hst.out.left.frozen p
                have hm20 : m ≤ 20000 := by
                  have h1 := hki.out.left p hpL
                  have h2 : leftN (kidN G) R p ≤ (kidN G p).length := by unfold leftN; exact List.length_filter_le _ _
                  have h3 := restK_all (kids := kidN G) [p] [] (by simp) (by simpa using hpl)
                  rw [restK_sum G _ (Nat.le_refl _), List.take_length] at h3
                  have := HF.out.2.2.2.2.sum
                  simp at h3
                  omega
                have hwm : Hid (wrap64 (m : Int) = m) := wrap_nat m (by omega)
                have HS1 := Lib.hid (hst.out.setLeft p m)
                have HC1 := Lib.hid (HC.out.frm _ _ _ hc.out (.setCell wr (a := ⟨gl, p, none⟩) (.int .i64 (m : Int)) (by show N ≤ gl; exact hst.out.lo) (by show gl ≠ B1; have := hst.out.lo; have := HC.out.lt.1; omega)))
                have HB1 := Lib.hid (HKe.out _ _ (KeepsOthers.setCell wr ⟨gl, p, none⟩ (.int .i64 (m : Int))) hbk.out)
                obtain ⟨A7, c7, hu7, _⟩ := hst.out.shape
                subst hu7
                obtain ⟨W1, hW1⟩ : ∃ W1, wr.setCell ⟨gl, p, none⟩ (.int .i64 (m : Int)) = W1 := ⟨_, rfl⟩
                rw [hW1] at HS1 HC1 HB1
                have hl1 : W1.cell? ⟨gl, p, none⟩ = some (.int .i64 (m : Int)) := by
                  have := HS1.out.left.cell hpl
                  rw [if_pos rfl] at this
                  exact this
                have hlj' : (jn : Int) < ((upsN (kidN G) L i).length : Int) := by omega
                have hpI : (p : Int) < (G.nodes.length : Int) := by omega
                have hpI0 : (0 : Int) ≤ (p : Int) := Int.natCast_nonneg p
                have Hlj := Lib.hid hlj
                have hmz : ∀ z : Int, z = jn + 1 → (upsN (kidN G) L i).length - (intOf (.int .i64 z)).toNat < (upsN (kidN G) L i).length - (intOf (.int .i64 (jn : Int))).toNat := by intro z hz; subst hz; have := Hlj.out; simp only [intOf]; omega
                have HWj : Hid (wrap64 ((jn : Int) + 1) = jn + 1) := wrap_nat1 jn (by have := Hlj.out; have := HUl.out; omega)
                by_cases hm0 : m = 0
                · have q9 : ((m : Int) == 0) = true := beq_iff_eq.2 (by omega)
                  have hq20 : q2.length ≤ 1000000000 := by
                    have h1 := hki.out.nd
                    have h2 := nodup_sub _ L h1 hki.out.sub
                    have := HF.out.2.2.2.1
                    simp at h2; omega
                  have HKi := Lib.hid ((hpz hm0).perm (f' := q2 ++ [p]) (List.perm_append_singleton p q2).symm)
                  have hqa : ownsQ (W1.alloc (.cells #[.int .i64 (p : Int)] 3)) (gl + 2) (.slice A7 q2.length c7) q2 := HS1.out.que.same fun b _ hb => Below.heap_alloc W1 _ b hb
                  obtain ⟨v', w', hrun, r1, r2, r3, g, r4⟩ := run_appQ (W1.alloc (.cells #[.int .i64 (p : Int)] 3)) _ q2 p hqa W1.heap.size (by simp) hq20 (by have := HS1.out.size; simp; omega)
                  have h5 : (Value.slice A7 q2.length c7).ownBlock = some g ∨ g = W1.heap.size + 1 := by
                    rcases r3 with e | e
                    · left; rw [← e, r4]
                    · right; rw [r4] at e; simpa using e
                  have HS2 := Lib.hid (HS1.out.push r2 r1 r4 h5)
                  obtain ⟨f1, f2⟩ := HS1.out.frm HC.out.lt.1 r2
                  have HC2 := Lib.hid (HC.out.frm _ _ _ HC1.out f1)
                  have HB2 := Lib.hid (HKe.out _ _ f2 HB1.out)
                  clear hki hj hlj hcA hp hnth hpL hp1 hpz hpn hm hm20 hst hc hbk hvi2 hIw hAw hbA r1 r2 r3 r4 h5 f1 f2 hqa hq20 hm0
                  have hw64 := hwm.out
                  gi_wp2_with (gi_at_builtin; refine wpListIn_appRun rfl _ _ rfl _ _ rfl rfl hrun ?_)
                  first
                    | exact ⟨⟨jn + 1, _, _, Hlj.out, by simp, HKi, HS2, HC2, HB2⟩, hmz _ rfl⟩
                    | exact ⟨⟨jn + 1, _, _, Hlj.out, congrArg (Value.int .i64) (HWj.out.trans (by simp)), HKi, HS2, HC2, HB2⟩, hmz _ HWj.out⟩
                · have q9 : ((m : Int) == 0) = false := beq_eq_false_iff_ne.2 (by omega)
                  have HKi := Lib.hid (hpn hm0)
                  clear hki hj hlj hcA hp hnth hpL hp1 hpz hpn hm hm20 hst hc hbk hvi2 hIw hAw hbA hm0
                  have hw64 := hwm.out
                  gi_wp2
                  first
                    | exact ⟨⟨jn + 1, q2, _, Hlj.out, by simp, HKi, HS1, HC1, HB1⟩, hmz _ rfl⟩
                    | exact ⟨⟨jn + 1, q2, _, Hlj.out, congrArg (Value.int .i64) (HWj.out.trans (by simp)), HKi, HS1, HC1, HB1⟩, hmz _ HWj.out⟩
              · obtain rfl : jn = (upsN (kidN G) L i).length := by omega
                have hd3 : ¬ ((upsN (kidN G) L i).length : Int) < ((upsN (kidN G) L i).length : Int) := by omega
                have Hkn := Lib.hid (hki.out.fin HF.out.1)
                clear hki hj hlj
                gi_wp2
                gi_roundg gk
                case rel => exact ⟨by omega, R ++ [i], q2, lf2, HgR, Hkn, hst, hc, hbk⟩
                case measure => omega
          · exact hF.elim
end Go.Proofs.YtdcbngimgpdjoaaDoor
