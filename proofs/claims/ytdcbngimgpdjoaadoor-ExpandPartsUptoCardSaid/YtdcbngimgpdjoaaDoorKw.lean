/- The reference's Cyclic (marginaliaref17). Conditions: as May's. -/
import Derived.Test.YtdcbngimgpdjoaaDoorKm
import Derived.Test.YtdcbngimgpdjoaaDoorRi
import Derived.Deep.RegionHeld3
import Derived.Test.YtdcbngimgpdjoaaDoorGl
namespace Go.Proofs.YtdcbngimgpdjoaaDoor
open Go.RowKit Go.Shelf Go.Deep
attribute [local go_sem] Oper.semAt_some
theorem Tryd.infoSlZ : (Tryd.prog.info? 23).map (fun i => (i.zero, i.size, i.bytes)) = some (some (.slice none 0 0), 1, 24) := by kernel_rfl
/-- What was laid out of the first k. -/
def frees (kids : Nat → List Nat) (l : List Nat) : List Nat := (l.filter fun x => (kids x).isEmpty).reverse
def lfs (kids : Nat → List Nat) (l : List Nat) (x : Nat) : Nat := if x ∈ l then (kids x).length else 0
theorem frees_snoc (kids : Nat → List Nat) (l : List Nat) (x : Nat) : frees kids (l ++ [x]) = if (kids x).isEmpty then x :: frees kids l else frees kids l := by
  unfold frees
  rw [List.filter_append]
  by_cases h : (kids x).isEmpty <;> simp [h]
theorem Kn.start {kids : Nat → List Nat} {L : List Nat} (hn : L.Nodup) : Kn kids L [] (frees kids L) (lfs kids L) := by
  refine ⟨?_, ?_, ?_, ?_, by simp⟩
  · simp only [frees, List.nil_append]
    exact (List.reverse_perm _).nodup_iff.2 (List.Pairwise.sublist List.filter_sublist hn)
  · intro x hx
    simp only [frees, List.nil_append, List.mem_reverse, List.mem_filter] at hx
    exact hx.1
  · intro u hu
    unfold lfs leftN
    rw [if_pos hu, List.filter_eq_self.2 (by simp)]
  · intro u hu
    simp [lfs, hu, frees]
abbrev stillPost (A : Act) (w2 : World) : Exit → Act → World → Prop
  | .normal, a', w' => w' = w2 ∧ a' = A
  | _, _, _ => False
theorem wp_still2 {P : Program} {c : Code} {a A : Act} {w w2 : World} {Q : Exit → Act → World → Prop} (h : c.wp P (stillPost A w2) a w) (hq : Q .normal A w2) : c.wp P Q a w :=
  wp_mono h fun e a' w' h => by
    cases e <;> first | (obtain ⟨h2, h3⟩ := h; subst h2; subst h3; exact hq) | exact h.elim
theorem rep_snoc (c x : Nat) : List.replicate (c + 1) x = List.replicate c x ++ [x] := List.replicate_succ'
theorem RightG.upsLen {G : Gr} (h : RightG G) {l : List Nat} (hn : l.Nodup) (hl : ∀ x ∈ l, x < G.nodes.length) (k : Nat) : (upsN (kidN G) l k).length ≤ 20001 := by
  rw [upsN_len]
  have := h.uses hn hl k k
  unfold usesF at this
  omega
theorem upsN_take_le (kids : Nat → List Nat) (l : List Nat) (j k : Nat) : (upsN kids (l.take j) k).length ≤ (upsN kids l k).length := by
  have : upsN kids l k = upsN kids (l.take j) k ++ upsN kids (l.drop j) k := by
    unfold upsN
    rw [← List.flatMap_append, List.take_append_drop]
  rw [this, List.length_append]
  omega
theorem met_leads' {G : Gr} {a : Nat} : ∀ b ∈ metL G a, Leads (kidN G) a b := metL_least .refl fun _ h _ hy => h.step hy
theorem kaStart (w M1 M2 : World) (n : Nat) (h1 : w.alloc (.cells (madeCells #[.int .i64 0] n) 3) = M1) (h2 : M1.alloc (.cells (madeCells #[.slice none 0 0] n) 23) = M2) :
    KaSt w n (fun _ => 0) (fun _ => .slice none 0 0) (fun _ => []) [] (.slice none 0 0) M2 := by
  have hb1 : Below w.heap.size w M1 := by rw [← h1]; exact (Below.refl _ w).alloc (Nat.le_refl _) _
  have hs1 : M1.heap.size = w.heap.size + 1 := by rw [← h1]; simp
  have hb2 : Below M1.heap.size M1 M2 := by rw [← h2]; exact (Below.refl _ M1).alloc (Nat.le_refl _) _
  have hs2 : M2.heap.size = w.heap.size + 2 := by rw [← h2]; simp; omega
  refine ⟨below_then hb1 hb2, by omega, ?_, ?_, fun k _ => ⟨rfl, .inl ⟨rfl, rfl⟩⟩, ⟨rfl, .inl ⟨rfl, rfl⟩⟩, fun j k g _ _ h => (by cases h), fun k g _ h => (by cases h)⟩
  · have : M1.rowIs w.heap.size 3 n fun _ => .int .i64 0 := by rw [← h1]; exact World.rowIs_made _ _ _ _
    exact (this.of_block (hb2.block _ (by omega))).congr fun _ _ => by simp
  · have : M2.rowIs M1.heap.size 23 n fun _ => .slice none 0 0 := by rw [← h2]; exact World.rowIs_made _ _ _ _
    rwa [hs1] at this
set_option maxRecDepth 100000 in
set_option maxHeartbeats 4000000 in
theorem RCyclic_any (G : Gr) (v : Value) (root : Int) (w : World) (hG : GrAt w w.heap.size G v) (hok : G.okR) :
    Calls Tryd.prog 24 #[v, .int .i64 root] w fun e w' => e = .returned (.bool (cyclicB G root)) ∧ Below w.heap.size w w' := by
  have hM : Hid (∀ W, Below w.heap.size w W → Calls Tryd.prog 27 #[v, .int .i64 root] W fun r w' => r = .returned (.bool (isB G root)) ∧ Below W.heap.size W w') := fun W hW => RMay_any G v root W ((hG.below hW (Nat.le_refl _)).more hW.size) hok
  have hRr : Hid (∀ W, Below w.heap.size w W → Calls Tryd.prog 22 #[v, .int .i64 root] W fun e w' => ∃ A c, e = .returned (.slice A (reachL G root).length c) ∧ IntsAt w' w'.heap.size A ((reachL G root).map Int.ofNat) ∧ (reachL G root).length ≤ c ∧ Below W.heap.size W w' ∧ ∀ p, A = some p → W.heap.size ≤ p.block) := fun W hW => RReach_any G v root W ((hG.below hW (Nat.le_refl _)).more hW.size) hok
  have hr := isB_cases G root
  obtain ⟨NA, nc, RA, rc, rfl, hN, hR⟩ := hG.ex
  obtain ⟨V, hV, hbV, hrow, hsz⟩ := box2 w (.slice NA G.nodes.length nc) (.slice RA G.roots.length rc) 25
  have v0 : V.cell? ⟨w.heap.size, 0, none⟩ = some (.slice NA G.nodes.length nc) := Lib.cell_of_heap hrow 0
  have v1 : V.cell? ⟨w.heap.size, 1, none⟩ = some (.slice RA G.roots.length rc) := Lib.cell_of_heap hrow 1
  have HM := Lib.hid (hM.out V hbV)
  clear hM
  rcases hr with hr | ⟨hr, r, rfl, hlt, hRG⟩
  · rw [hr] at HM
    have HE : Hid (cyclicB G root = false) := by show _ = _; rw [cyclicB, hr]; rfl
    rw [HE.out]
    have HbV := Lib.hid hbV
    clear hsz hrow hG hN hR hok hr hbV hRr
    go_enter Tryd.func24, Tryd.ntmps24
    go_wp2_with (go_at_call 27; refine HM.out.mono ?_; rintro e w' ⟨rfl, hb⟩)
    go_ret
    exact ⟨rfl, below_then HbV.out hb⟩
  · rw [hr] at HM
    have HL : Hid (cyclicB G r = cycL G r) := by show _ = _; rw [cyclicB, hr]; simp
    rw [HL.out]
    have HLr : Hid (reachL G r = metL G r) := by show _ = _; rw [reachL, hr]; simp
    rw [HLr.out] at hRr
    have hnn := hRG.nodes
    have hmet := hRG.met hlt
    have HG1 : Hid (∀ W, Below V.heap.size V W → W.cell? ⟨w.heap.size, 0, none⟩ = some (.slice NA G.nodes.length nc) ∧ W.cell? ⟨w.heap.size, 1, none⟩ = some (.slice RA G.roots.length rc) ∧ Below w.heap.size w W ∧ NdsAt W w.heap.size NA G.nodes) := fun W h => by
      have hr := (h.block w.heap.size (by omega)).trans hrow
      exact ⟨Lib.cell_of_heap hr 0, Lib.cell_of_heap hr 1, below_then hbV h, hN.below (below_then hbV h) (Nat.le_refl _)⟩
    obtain ⟨L, hLe⟩ : ∃ L, metL G r = L := ⟨_, rfl⟩
    have hcyc : cycL G r = true ↔ ∃ x ∈ L, ¬ Acc (edge (kidN G)) x := by
      rw [← hLe]
      refine (hRG.cyc hlt).trans ⟨fun h => ⟨r, hmet.base, h⟩, fun ⟨x, hx, hn⟩ ha => hn ((met_leads' x hx).acc ha)⟩
    have hLn : L.Nodup := hLe ▸ hmet.nodup
    have hLl : ∀ x ∈ L, x < G.nodes.length := hLe ▸ hmet.lt
    have hLk : ∀ x ∈ L, ∀ y ∈ kidN G x, y ∈ L := hLe ▸ hmet.kids
    have hL20 : L.length ≤ 20000 := by have := nodup_short _ _ hLn hLl; omega
    rw [hLe] at hRr
    have HF : Hid (L.Nodup ∧ (∀ x ∈ L, x < G.nodes.length) ∧ (∀ x ∈ L, ∀ y ∈ kidN G x, y ∈ L) ∧ L.length ≤ 20000 ∧ (cycL G r = true ↔ ∃ x ∈ L, ¬ Acc (edge (kidN G)) x) ∧ RightG G) := ⟨hLn, hLl, hLk, hL20, hcyc, hRG⟩
    have Hlt := Lib.hid hlt
    have Hsz := Lib.hid hsz
    clear hsz hrow hG hN hR hok hr hbV hRG hmet hLe hcyc hLn hLl hLk hL20 HL HLr
    go_enter Tryd.func24, Tryd.ntmps24
    go_wp2_with (first
      | (go_at_call 27; refine HM.out.mono ?_; rintro e w1 ⟨rfl, hb⟩
         obtain ⟨g0, g1, _, _⟩ := HG1.out w1 hb
         have Hb := Lib.hid hb
         clear hb)
      | (go_at_call 22; refine (hRr.out w1 (HG1.out w1 Hb.out).2.2.1).mono ?_; rintro e w3 ⟨LA, lc, rfl, hI, hc, hb3, hf3⟩
         obtain ⟨g2, g3, _, _⟩ := HG1.out w3 (below_then Hb.out hb3)
         have hmake := run_make_row' (P := Tryd.prog) 23 3 (.int .i64 0) 8 rfl Tryd.infoIntZ rfl .i64 .i64 G.nodes.length (by omega) (by omega) w3
         obtain ⟨M1, hM1, hbM1, hrM1, hsM1⟩ := rowM w3 (.int .i64 0) G.nodes.length 3
         rw [hM1] at hmake
         have hmake2 := run_make_row' (P := Tryd.prog) 71 23 (.slice none 0 0) 24 rfl Tryd.infoSlZ rfl .i64 .i64 G.nodes.length (by omega) (by omega) M1
         obtain ⟨M2, hM2, hbM2, hrM2, hsM2⟩ := rowM M1 (.slice none 0 0) G.nodes.length 23
         rw [hM2, hsM1] at hmake2
         obtain ⟨g4, g5, _, _⟩ := HG1.out M1 (below_then Hb.out (below_then hb3 hbM1))
         have HI := Lib.hid hI
         have Hf3 := Lib.hid hf3
         have Hb3 := Lib.hid (below_then Hb.out hb3)
         have HK := Lib.hid (kaStart w3 M1 M2 G.nodes.length hM1 hM2)
         have HsM := Lib.hid hsM1
         clear hI hc hb3 hf3 hbM1 hrM1 hsM1 hbM2 hrM2 hsM2))
    have HCw : Hid (∀ W, Below w3.heap.size w3 W → W.cell? ⟨w.heap.size, 0, none⟩ = some (.slice NA G.nodes.length nc) ∧ W.cell? ⟨w.heap.size, 1, none⟩ = some (.slice RA G.roots.length rc) ∧ Below w.heap.size w W ∧ NdsAt W w.heap.size NA G.nodes ∧ IntsAt W w3.heap.size LA (L.map Int.ofNat)) := fun W hW => by
      obtain ⟨q1, q2, q3, q4⟩ := HG1.out W (below_then Hb3.out hW)
      exact ⟨q1, q2, q3, q4, HI.out.below hW (Nat.le_refl _)⟩
    have Hw3 : Hid (w.heap.size ≤ w3.heap.size) := (HCw.out w3 (Below.refl _ _)).2.2.1.size
    clear hmake hmake2 g0 g1 g2 g3 g4 g5 HI Hb3 Hb HG1 Hf3 HsM hM1 hM2 hRr hnn v0 v1 hV
    go_loopw [8, 9] (fun fr i wr => ∃ (k : Nat) (vs : Nat → Value), k ≤ L.length ∧ i = .int .i64 (k : Int) ∧ Hid (KaSt w3 G.nodes.length (lfs (kidN G) (L.take k)) vs (upsN (kidN G) (L.take k)) (frees (kidN G) (L.take k)) fr wr)) (fun _ i _ => L.length - (intOf i).toNat)
    case atStart => exact ⟨0, fun _ => .slice none 0 0, Nat.zero_le _, rfl, HK.out.congr (fun _ _ => by simp [lfs]) (fun _ _ => by simp [upsN])⟩
    case round =>
      obtain ⟨k, vs, hk, rfl, hs⟩ := hrel
      have hlL : (L.map Int.ofNat).length = L.length := List.length_map _
      by_cases hlt : k < L.length
      · obtain ⟨x, hx⟩ : ∃ x, L[k] = x := ⟨_, rfl⟩
        have hxL : x ∈ L := hx ▸ List.getElem_mem hlt
        have hxn : x < G.nodes.length := HF.out.2.1 x hxL
        have htk : L.take (k + 1) = L.take k ++ [x] := by rw [List.take_succ_eq_append_getElem hlt, hx]
        have HTk := Lib.hid htk
        have hlt' : (k : Int) < (L.length : Int) := by omega
        obtain ⟨e0, e1, hbw, hnds, hli⟩ := HCw.out wr hs.out.keep
        obtain ⟨lb, lo, rfl, hlb, hlc⟩ := hli (by omega)
        have hlk : wr.cell? ⟨lb, lo + k, none⟩ = some (.int .i64 (x : Int)) := by
          rw [hlc k (by omega)]
          simp [nth, hlt, hx]
        obtain ⟨bn, on, rfl, hbn, hnc⟩ := hnds (by omega)
        obtain ⟨K, kc, hnd⟩ := hnc x hxn
        obtain ⟨kl, hkl⟩ : ∃ l, (nd G.nodes x).kids = l := ⟨_, rfl⟩
        have HKN : Hid (kidN G x = kl.map Int.toNat) := by rw [← hkl]; rfl
        have HKr : Hid (∀ z ∈ kl, 0 ≤ z ∧ z < G.nodes.length) := by rw [← hkl]; exact HF.out.2.2.2.2.2.kids x hxn
        have HKl : Hid (kl.length ≤ 20000) := by
          have h1 := restK_all (kids := kidN G) [x] [] (by simp) (by simpa using hxn)
          rw [restK_sum G _ (Nat.le_refl _), List.take_length] at h1
          have := HF.out.2.2.2.2.2.sum
          simp [kidN, hkl] at h1
          show _ ≤ _; omega
        have c3 := hnd.c3
        have hk5 := hnd.kids
        rw [hkl] at c3 hk5
        have HK5 := Lib.hid hk5
        have HUl : Hid (∀ y, (upsN (kidN G) (L.take k) y).length + (kidN G x).count y ≤ 20001) := fun y => by
          have h1 := HF.out.2.2.2.2.2.upsLen (l := L.take (k + 1)) (List.Pairwise.sublist (List.take_sublist _ _) HF.out.1) (fun z hz => HF.out.2.1 z (List.mem_of_mem_take hz)) y
          rw [htk, upsN_snoc, List.length_append, List.length_replicate] at h1
          exact h1
        have HW1 : Hid (∀ W2, Below w3.heap.size w3 W2 → W2.cell? ⟨lb, lo + k, none⟩ = some (.int .i64 (x : Int)) ∧ IntsAt W2 w.heap.size K kl) := fun W2 h2 => by
          have hz1 : w.heap.size ≤ w3.heap.size := Hw3.out
          have hblk : ∀ b, b < w3.heap.size → W2.heap[b]? = wr.heap[b]? := fun b hb => (h2.block b hb).trans (hs.out.keep.block b hb).symm
          refine ⟨(World.cell?_of_block (hblk lb (by omega))).trans hlk, fun hz => ?_⟩
          obtain ⟨b, o, hA, hb, hc⟩ := HK5.out hz
          exact ⟨b, o, hA, hb, fun j hj => (World.cell?_of_block (hblk b (by omega))).trans (hc j hj)⟩
        have HSd := Lib.hid hs.out.drew
        have Hlt := Lib.hid hlt
        have Hlb := Lib.hid hlb
        have hx0 : ¬ (x : Int) < 0 := by omega
        clear hnds hnc hnd hli hlc hbw hk5 htk hkl hx hs hbn hlb
        go_wp2_with fail
        go_region_held3 (fun W' => W'.cell? ⟨w.heap.size, 0, none⟩ = some (.slice (some ⟨bn, on, none⟩) G.nodes.length nc) ∧ W'.cell? ⟨lb, lo + k, none⟩ = some (.int .i64 (x : Int)) ∧ W'.cell? ⟨bn, on + x * 5 + 3, none⟩ = some (.slice K kl.length kc)) (go_keep) (first | fail)
        obtain ⟨wd, hwd⟩ : ∃ wd, wr.drew = wd := ⟨_, rfl⟩
        rw [hwd] at HSd ⊢
        clear hwd e0 e1 hlk c3
        obtain ⟨y2, _⟩ := HW1.out wd HSd.out.keep
        have hlr := HSd.out.left.cell hxn
        have hfz := HSd.out.left.frozen x
        obtain ⟨W1, hW1⟩ : ∃ W1, wd.setCell ⟨w3.heap.size, x, none⟩ (.int .i64 (kl.length : Int)) = W1 := ⟨_, rfl⟩
        have HS1 : Hid (KaSt w3 G.nodes.length (lfs (kidN G) (L.take (k + 1))) vs (fun y => upsN (kidN G) (L.take k) y ++ List.replicate (((kl.take 0).map Int.toNat).count y) x) (frees (kidN G) (L.take k)) u8 W1) := by
          rw [← hW1]
          refine (HSd.out.setLeft x kl.length).congr (fun j _ => ?_) (fun j _ => by simp)
          rw [HTk.out]
          by_cases e : j = x
          · subst e; simp [lfs, HKN.out]
          · simp [lfs, e]
        go_wp2_with fail
        try rw [hW1]
        clear hW1 y2 hlr hfz HSd
        go_loopw [11] (fun j w2 => ∃ (q : Nat) (vs2 : Nat → Value), q ≤ kl.length ∧ j = .int .i64 (q : Int) ∧ Hid (KaSt w3 G.nodes.length (lfs (kidN G) (L.take (k + 1))) vs2 (fun y => upsN (kidN G) (L.take k) y ++ List.replicate (((kl.take q).map Int.toNat).count y) x) (frees (kidN G) (L.take k)) u8 w2)) (fun j _ => kl.length - (intOf j).toNat)
        case atStart => exact ⟨0, vs, Nat.zero_le _, rfl, HS1⟩
        case round =>
          obtain ⟨q, vs2, hq, rfl, hs2⟩ := hrel
          by_cases hlt3 : q < kl.length
          · obtain ⟨y2, y3⟩ := HW1.out wr hs2.out.keep
            obtain ⟨bK, oK, rfl, hbK, hcK⟩ := y3 (by omega)
            have hbK3 : bK < w3.heap.size := by have := Hw3.out; omega
            have hlb3 : lb < w3.heap.size := Hlb.out
            have hcq := hcK q hlt3
            obtain ⟨z, hz⟩ : ∃ z : Nat, nth kl q = (z : Int) := ⟨(nth kl q).toNat, by have := (HKr.out _ (nth_mem hlt3)).1; omega⟩
            have hzn : z < G.nodes.length := by have := (HKr.out _ (nth_mem hlt3)).2; omega
            rw [hz] at hcq
            have hvz := hs2.out.vrow.cell hzn
            have hlt4 : (q : Int) < (kl.length : Int) := by omega
            have htq : (kl.take (q + 1)).map Int.toNat = (kl.take q).map Int.toNat ++ [z] := by rw [take_nth hlt3, hz]; simp
            have hlen : (upsN (kidN G) (L.take k) z ++ List.replicate (((kl.take q).map Int.toNat).count z) x).length ≤ 1000000000 := by
              have h1 := HUl.out z
              have h2 : ((kl.take q).map Int.toNat).count z ≤ (kidN G x).count z := by
                rw [HKN.out]
                exact List.Sublist.count_le _ ((List.take_sublist q kl).map _)
              rw [List.length_append, List.length_replicate]; omega
            have hsz3 : w3.heap.size + 2 ≤ ((wr.alloc (.cells #[.int .i64 (x : Int)] 3)).drew).heap.size := by have := hs2.out.size; simp; omega
            have hrow3 : ((wr.alloc (.cells #[.int .i64 (x : Int)] 3)).drew).ownsRow (w3.heap.size + 2) 3 1 (vs2 z) (upsN (kidN G) (L.take k) z ++ List.replicate (((kl.take q).map Int.toNat).count z) x).length (ncells (upsN (kidN G) (L.take k) z ++ List.replicate (((kl.take q).map Int.toNat).count z) x)) := (hs2.out.rows z hzn).alloc _
            have HT : Hid (∀ v' w' g, ((wr.alloc (.cells #[.int .i64 (x : Int)] 3)).drew).grownBy w' (vs2 z).ownBlock → w'.ownsRow (w3.heap.size + 2) 3 1 v' ((upsN (kidN G) (L.take k) z ++ List.replicate (((kl.take q).map Int.toNat).count z) x) ++ [x]).length (ncells ((upsN (kidN G) (L.take k) z ++ List.replicate (((kl.take q).map Int.toNat).count z) x) ++ [x])) →
                (v'.ownBlock = (vs2 z).ownBlock ∨ v'.ownBlock = some ((wr.alloc (.cells #[.int .i64 (x : Int)] 3)).drew).heap.size) → v'.ownBlock = some g →
                (w'.cell? ⟨w3.heap.size + 1, z, none⟩ = some (vs2 z) ∧ w'.frozen? ⟨w3.heap.size + 1, z, none⟩ = false ∧ w'.cell? ⟨bK, oK + q, none⟩ = some (.int .i64 (z : Int)) ∧ w'.cell? ⟨lb, lo + k, none⟩ = some (.int .i64 (x : Int))) ∧ KaSt w3 G.nodes.length (lfs (kidN G) (L.take (k + 1))) (fun j => if j = z then v' else vs2 j) (fun y => upsN (kidN G) (L.take k) y ++ List.replicate (((kl.take (q + 1)).map Int.toNat).count y) x) (frees (kidN G) (L.take k)) u8 (w'.setCell ⟨w3.heap.size + 1, z, none⟩ v')) := fun v' w' g a1 a2 a3 a4 => by
              have a1' : (wr.alloc (.cells #[.int .i64 (x : Int)] 3)).grownBy w' (vs2 z).ownBlock := ⟨a1.os, a1.tape, a1.output, a1.size, a1.block⟩
              have h5 : (vs2 z).ownBlock = some g ∨ g = wr.heap.size + 1 := by
                rcases a3 with e | e
                · left; rw [← e, a4]
                · right; rw [a4] at e; simpa using e
              obtain ⟨t1, t2⟩ := hs2.out.tell hzn a1' a2 a4 h5
              have hbk : ∀ b, b < w3.heap.size → w'.heap[b]? = wr.heap[b]? := fun b hb => (a1'.block b (by have := hs2.out.size; simp; omega) (fun e => by have := (own_place (hs2.out.rows z hzn) e.symm).1; omega)).trans (Below.heap_alloc wr _ b (by have := hs2.out.size; omega))
              refine ⟨⟨t2.cell hzn, t2.frozen z, (World.cell?_of_block (hbk bK hbK3)).trans hcq, (World.cell?_of_block (hbk lb hlb3)).trans y2⟩, t1.congr (fun _ _ => rfl) fun y _ => ?_⟩
              rw [htq, List.count_append]
              by_cases e : y = z
              · subst e; simp only [if_true]; rw [List.append_assoc, ← rep_snoc]; simp
              · rw [if_neg e, List.count_eq_zero_of_not_mem (a := y) (l := [z]) (by simpa using e)]; simp
            have hal : ∀ b, b < wr.heap.size → ((wr.alloc (.cells #[.int .i64 (x : Int)] 3)).drew).heap[b]? = wr.heap[b]? := fun b hb => Below.heap_alloc wr _ b hb
            have hws := hs2.out.size
            have hvz2 : ((wr.alloc (.cells #[.int .i64 (x : Int)] 3)).drew).cell? ⟨w3.heap.size + 1, z, none⟩ = some (vs2 z) := (World.cell?_of_block (hal _ (by show w3.heap.size + 1 < _; omega))).trans hvz
            have hcq2 : ((wr.alloc (.cells #[.int .i64 (x : Int)] 3)).drew).cell? ⟨bK, oK + q, none⟩ = some (.int .i64 (z : Int)) := (World.cell?_of_block (hal _ (by show bK < _; omega))).trans hcq
            obtain ⟨v', w', hrun, r1, r2, r3, g, r4⟩ := run_appR _ (vs2 z) _ x hrow3 wr.heap.size (by simp) hlen hsz3
            obtain ⟨⟨c1, c2, c3, c4⟩, HE0⟩ := HT.out v' w' g r2 r1 r3 r4
            have HE := Lib.hid HE0
            obtain ⟨A', m', c', hv'⟩ : ∃ A m c, v' = .slice A m c := by obtain ⟨A, c, h, _⟩ := ints_row r1; exact ⟨A, _, c, h⟩
            subst hv'
            clear hcK y3 hz htq hs2 hq HE0 HT r1 r2 r3 r4 hrow3 hlen hsz3 hal hws c4
            go_wp2_with fail
            apply wp_still2 (w2 := w'.setCell ⟨w3.heap.size + 1, z, none⟩ (.slice A' m' c'))
            · go_region_law (first | (refine step_appRun rfl _ _ rfl (vs2 z) _ rfl rfl hrun ?_))
              all_goals exact ⟨rfl, rfl⟩
            obtain ⟨W5, hW5⟩ : ∃ W5, w'.setCell ⟨w3.heap.size + 1, z, none⟩ (.slice A' m' c') = W5 := ⟨_, rfl⟩
            rw [hW5] at HE ⊢
            have Hlt3 := Lib.hid hlt3
            have hmz : ∀ y : Int, y = q + 1 → kl.length - (intOf (.int .i64 y)).toNat < kl.length - (intOf (.int .i64 (q : Int))).toNat := by intro y hy; subst hy; have := Hlt3.out; simp only [intOf]; omega
            have HW : Hid (wrap64 ((q : Int) + 1) = q + 1) := IntWalk.wrap64_in _ (by have := Hlt3.out; have := HKl.out; omega)
            clear hW5 hlt3 c1 c2 c3 hrun hvz hvz2 hcq hcq2 y2 hbK3 hlb3 hbK
            go_wp2_with fail
            first
              | exact ⟨⟨q + 1, _, Hlt3.out, by simp, HE⟩, hmz _ rfl⟩
              | exact ⟨⟨q + 1, _, Hlt3.out, congrArg (Value.int .i64) (HW.out.trans (by simp)), HE⟩, hmz _ HW.out⟩
          · obtain rfl : q = kl.length := by omega
            have hd2 : ¬ (kl.length : Int) < (kl.length : Int) := by omega
            have HE : Hid (KaSt w3 G.nodes.length (lfs (kidN G) (L.take (k + 1))) vs2 (upsN (kidN G) (L.take (k + 1))) (frees (kidN G) (L.take k)) u8 wr) := hs2.out.congr (fun _ _ => rfl) fun y _ => by
              rw [List.take_of_length_le (Nat.le_refl _), ← HKN.out, HTk.out, upsN_snoc]
            have hmz : ∀ y : Int, y = k + 1 → L.length - (intOf (.int .i64 y)).toNat < L.length - (intOf (.int .i64 (k : Int))).toNat := by intro y hy; subst hy; have := Hlt.out; simp only [intOf]; omega
            have HW : Hid (wrap64 ((k : Int) + 1) = k + 1) := IntWalk.wrap64_in _ (by have := Hlt.out; have := HF.out.2.2.2.1; omega)
            by_cases hz0 : kl = []
            · have HFr : Hid (frees (kidN G) (L.take (k + 1)) = x :: frees (kidN G) (L.take k)) := by
                show _ = _
                rw [HTk.out, frees_snoc, HKN.out, hz0]; rfl
              have hk0 : ((kl.length : Int) == 0) = true := by rw [hz0]; rfl
              obtain ⟨y2, _⟩ := HW1.out wr HE.out.keep
              have hfl : (frees (kidN G) (L.take k)).reverse.length ≤ 1000000000 := by
                have h1 : (frees (kidN G) (L.take k)).length ≤ (L.take k).length := by unfold frees; rw [List.length_reverse]; exact List.length_filter_le _ _
                rw [List.length_take] at h1
                have := HF.out.2.2.2.1
                rw [List.length_reverse]; omega
              have hws := HE.out.size
              have hrow3 : (wr.alloc (.cells #[.int .i64 (x : Int)] 3)).ownsRow (w3.heap.size + 2) 3 1 u8 (frees (kidN G) (L.take k)).reverse.length (ncells (frees (kidN G) (L.take k)).reverse) := by
                have := HE.out.free.alloc (.cells #[.int .i64 (x : Int)] 3)
                rwa [List.length_reverse]
              have hsz3 : w3.heap.size + 2 ≤ (wr.alloc (.cells #[.int .i64 (x : Int)] 3)).heap.size := by simp; omega
              have HP : Hid (∀ v' w' g, (wr.alloc (.cells #[.int .i64 (x : Int)] 3)).grownBy w' u8.ownBlock → w'.ownsRow (w3.heap.size + 2) 3 1 v' ((frees (kidN G) (L.take k)).reverse ++ [x]).length (ncells ((frees (kidN G) (L.take k)).reverse ++ [x])) →
                  (v'.ownBlock = u8.ownBlock ∨ v'.ownBlock = some (wr.alloc (.cells #[.int .i64 (x : Int)] 3)).heap.size) → v'.ownBlock = some g →
                  KaSt w3 G.nodes.length (lfs (kidN G) (L.take (k + 1))) vs2 (upsN (kidN G) (L.take (k + 1))) (frees (kidN G) (L.take (k + 1))) v' w') := fun v' w' g a1 a2 a3 a4 => by
                have h5 : u8.ownBlock = some g ∨ g = wr.heap.size + 1 := by
                  rcases a3 with e | e
                  · left; rw [← e, a4]
                  · right; rw [a4] at e; simpa using e
                rw [HFr.out]
                exact HE.out.push a1 a2 a4 h5
              clear hq hlt3 hs2 HE hws
              go_wp2_with (at_builtin; refine wpList_appO2 rfl _ _ _ rfl rfl u8 _ x rfl hrow3 wr.heap.size rfl (by simp) hfl hsz3 ?_; intro v' w' r1 r2 r3 r4; obtain ⟨g, r4⟩ := r4; have HE := Lib.hid (HP.out v' w' g r2 r1 r3 r4); clear r1 r2 r3 r4)
              first
                | exact ⟨⟨k + 1, vs2, Hlt.out, by simp, HE⟩, hmz _ rfl⟩
                | exact ⟨⟨k + 1, vs2, Hlt.out, congrArg (Value.int .i64) (HW.out.trans (by simp)), HE⟩, hmz _ HW.out⟩
            · have HE2 : Hid (KaSt w3 G.nodes.length (lfs (kidN G) (L.take (k + 1))) vs2 (upsN (kidN G) (L.take (k + 1))) (frees (kidN G) (L.take (k + 1))) u8 wr) := by
                have : frees (kidN G) (L.take (k + 1)) = frees (kidN G) (L.take k) := by
                  rw [HTk.out, frees_snoc, HKN.out, if_neg (by simpa using hz0)]
                rw [this]; exact HE
              have hk0 : ((kl.length : Int) == 0) = false := beq_eq_false_iff_ne.2 (by have := List.length_pos_iff.2 hz0; omega)
              clear hq hlt3 hs2 HE
              go_wp2_with fail
              first
                | exact ⟨⟨k + 1, vs2, Hlt.out, by simp, HE2⟩, hmz _ rfl⟩
                | exact ⟨⟨k + 1, vs2, Hlt.out, congrArg (Value.int .i64) (HW.out.trans (by simp)), HE2⟩, hmz _ HW.out⟩
      · obtain rfl : k = L.length := by omega
        have hd2 : ¬ (L.length : Int) < (L.length : Int) := by omega
        have HS2 := hs.out
        rw [List.take_of_length_le (Nat.le_refl _)] at HS2
        have HS := Lib.hid HS2
        have HKn : Hid (Kn (kidN G) L [] (frees (kidN G) L) (lfs (kidN G) L)) := Kn.start HF.out.1
        clear hk hlt hs HS2
        go_wp2_with fail
        go_loopw [8, 12] (fun fr gn wr => ∃ (R free : List Nat) (lf : Nat → Nat) (vs : Nat → Value), gn = .int .i64 (R.length : Int) ∧ Hid (Kn (kidN G) L R free lf) ∧ Hid (KaSt w3 G.nodes.length lf vs (upsN (kidN G) L) free fr wr)) (fun _ gn _ => L.length + 1 - (intOf gn).toNat)
        case atStart => exact ⟨[], _, _, vs, rfl, HKn, HS⟩
        case round =>
          obtain ⟨R, free, lf, vs, rfl, hkn, hs⟩ := hrel
          obtain ⟨A, c, hu8⟩ := hs.out.shape
          subst hu8
          cases free with
          | nil =>
            have hfin := hkn.out.fin HF.out.2.2.1 HF.out.1
            have HRes : Hid (decide ((R.length : Int) < (L.length : Int)) = cycL G r) := by
              show _ = _
              have h1 := HF.out.2.2.2.2.1
              rw [← hfin.2] at h1
              rw [Bool.eq_iff_iff, h1, decide_eq_true_iff]
              omega
            have HB := Lib.hid (HCw.out wr hs.out.keep).2.2.1
            clear hfin hkn hs
            go_wp2_with fail
            go_ret
            first
              | exact ⟨ret_bool HRes.out, HB.out⟩
              | exact ⟨ret_bool (by rw [← HRes.out]; simp), HB.out⟩
          | cons kk free =>
            obtain ⟨hp, g, rfl, htop, hcw⟩ := hs.out.pop
            have hkL : kk ∈ L := hkn.out.sub kk (by simp)
            have hkn2 : kk < G.nodes.length := HF.out.2.1 kk hkL
            have hki := hkn.out.pop
            have hnd := hkn.out.nd
            have hRl : R.length + 1 + free.length ≤ L.length := by
              have := nodup_sub _ L hkn.out.nd hkn.out.sub
              simp at this; omega
            have hL20 := HF.out.2.2.2.1
            have hsl : (free.length : Int) + 1 - 1 = free.length := by omega
            have hw64 : wrap64 (free.length : Int) = free.length := IntWalk.wrap64_in _ (by omega)
            have hwg : wrap64 ((R.length : Int) + 1) = R.length + 1 := IntWalk.wrap64_in _ (by omega)
            have HP := Lib.hid hp
            have HKi := Lib.hid hki
            have HRl := Lib.hid hRl
            obtain ⟨U, hU⟩ : ∃ U, upsN (kidN G) L kk = U := ⟨_, rfl⟩
            have HU := Lib.hid hU
            have HU20 : Hid (U.length ≤ 20001) := by rw [← hU]; exact HF.out.2.2.2.2.2.upsLen HF.out.1 HF.out.2.1 kk
            have HWg := Lib.hid hwg
            clear hp hki hnd hkn hs hRl hU hsl hwg
            simp only [List.length_cons]
            go_wp2_with fail
            clear htop hw64
            go_loopw [8, 14] (fun fr j w2 => ∃ (q : Nat) (free2 : List Nat) (lf2 : Nat → Nat), q ≤ U.length ∧ j = .int .i64 (q : Int) ∧ Hid (Ki (kidN G) L R free2 kk q lf2) ∧ Hid (KaSt w3 G.nodes.length lf2 vs (upsN (kidN G) L) free2 fr w2)) (fun _ j _ => U.length - (intOf j).toNat)
            case atStart => exact ⟨0, free, lf, Nat.zero_le _, rfl, HKi, HP⟩
            case round =>
              obtain ⟨q, free2, lf2, hq, rfl, hki2, hs2⟩ := hrel
              obtain ⟨A2, c2, hv2, hi2⟩ := hs2.out.upsShape hkn2
              rw [HU.out] at hv2 hi2
              have hvk := hs2.out.vrow.cell hkn2
              rw [hv2] at hvk
              by_cases hlt3 : q < U.length
              · obtain ⟨bu, ou, rfl, _, hcu⟩ := hi2 (by rw [List.length_map]; omega)
                obtain ⟨u, hu⟩ : ∃ u, U[q] = u := ⟨_, rfl⟩
                have hcq : wr.cell? ⟨bu, ou + q, none⟩ = some (.int .i64 (u : Int)) := by
                  rw [hcu q (by rw [List.length_map]; exact hlt3)]
                  simp [nth, hlt3, hu]
                have hst := hki2.out.step HF.out.1 (j := q) (by rw [HU.out]; exact hlt3) (u := u) (by simp only [HU.out]; exact hu)
                obtain ⟨huL, h1, hA, hB⟩ := hst
                have hun : u < G.nodes.length := HF.out.2.1 u huL
                have hlu : lf2 u ≤ 20001 := by
                  have h2 := hki2.out.left u huL
                  have h3 : leftN (kidN G) R u ≤ (kidN G u).length := List.length_filter_le _ _
                  have h4 := restK_all (kids := kidN G) [u] [] (by simp) (by simpa using hun)
                  rw [restK_sum G _ (Nat.le_refl _), List.take_length] at h4
                  have := HF.out.2.2.2.2.2.sum
                  simp at h4
                  omega
                obtain ⟨F, hF⟩ : ∃ F, lf2 u = F + 1 := ⟨lf2 u - 1, by omega⟩
                have hlr := hs2.out.left.cell hun
                have hfz := hs2.out.left.frozen u
                rw [hF] at hlr
                have hF1 : ((F + 1 : Nat) : Int) = (F : Int) + 1 := by omega
                rw [hF1] at hlr
                have hsF : (F : Int) + 1 - 1 = F := by omega
                have HwF : Hid (wrap64 (F : Int) = F) := IntWalk.wrap64_in _ (by omega)
                obtain ⟨W1, hW1⟩ : ∃ W1, wr.setCell ⟨w3.heap.size, u, none⟩ (.int .i64 (F : Int)) = W1 := ⟨_, rfl⟩
                have HS1 : Hid (KaSt w3 G.nodes.length (fun x => if x = u then lf2 u - 1 else lf2 x) vs (upsN (kidN G) L) free2 u8 W1) := by
                  rw [← hW1, show lf2 u - 1 = F by omega]
                  exact hs2.out.setLeft u F
                have hlr1 : W1.cell? ⟨w3.heap.size, u, none⟩ = some (.int .i64 (F : Int)) := by
                  have := HS1.out.left.cell hun
                  rw [this]
                  simp [hF]
                have hlt4 : (q : Int) < (U.length : Int) := by omega
                have Hlt3 := Lib.hid hlt3
                have hmz : ∀ y : Int, y = q + 1 → U.length - (intOf (.int .i64 y)).toNat < U.length - (intOf (.int .i64 (q : Int))).toNat := by intro y hy; subst hy; have := Hlt3.out; simp only [intOf]; omega
                have HW : Hid (wrap64 ((q : Int) + 1) = q + 1) := IntWalk.wrap64_in _ (by have := Hlt3.out; have := HU20.out; omega)
                have hfl : free2.reverse.length ≤ 1000000000 := by
                  have := nodup_sub _ L hki2.out.nd hki2.out.sub
                  simp at this
                  rw [List.length_reverse]; omega
                by_cases hz0 : F = 0
                · have HKA := Lib.hid (hA (by omega))
                  have heq0 : ((F : Int) == 0) = true := by rw [beq_iff_eq]; omega
                  clear hz0
                  have hws := HS1.out.size
                  have hrow3 : (W1.alloc (.cells #[.int .i64 (u : Int)] 3)).ownsRow (w3.heap.size + 2) 3 1 u8 free2.reverse.length (ncells free2.reverse) := by
                    have := HS1.out.free.alloc (.cells #[.int .i64 (u : Int)] 3)
                    rwa [List.length_reverse]
                  have hsz3 : w3.heap.size + 2 ≤ (W1.alloc (.cells #[.int .i64 (u : Int)] 3)).heap.size := by simp; omega
                  have HPu : Hid (∀ v' w' g, (W1.alloc (.cells #[.int .i64 (u : Int)] 3)).grownBy w' u8.ownBlock → w'.ownsRow (w3.heap.size + 2) 3 1 v' (free2.reverse ++ [u]).length (ncells (free2.reverse ++ [u])) →
                      (v'.ownBlock = u8.ownBlock ∨ v'.ownBlock = some (W1.alloc (.cells #[.int .i64 (u : Int)] 3)).heap.size) → v'.ownBlock = some g →
                      KaSt w3 G.nodes.length (fun x => if x = u then lf2 u - 1 else lf2 x) vs (upsN (kidN G) L) (u :: free2) v' w') := fun v' w' g a1 a2 a3 a4 => by
                    have h5 : u8.ownBlock = some g ∨ g = W1.heap.size + 1 := by
                      rcases a3 with e | e
                      · left; rw [← e, a4]
                      · right; rw [a4] at e; simpa using e
                    exact HS1.out.push a1 a2 a4 h5
                  clear hcu hu hA hB hq hlt3 hs2 HS1 hws hki2 hv2 hi2 hF hlu hF1 h1 huL
                  have hwF := HwF.out
                  go_wp2_with (at_builtin; refine wpList_appO2 rfl _ _ _ rfl rfl u8 _ u rfl hrow3 W1.heap.size rfl (by simp) hfl hsz3 ?_; intro v' w' r1 r2 r3 r4; obtain ⟨g, r4⟩ := r4; have HE := Lib.hid (HPu.out v' w' g r2 r1 r3 r4); clear r1 r2 r3 r4)
                  first
                    | exact ⟨⟨q + 1, u :: free2, _, Hlt3.out, by simp, HKA, HE⟩, hmz _ rfl⟩
                    | exact ⟨⟨q + 1, u :: free2, _, Hlt3.out, congrArg (Value.int .i64) (HW.out.trans (by simp)), HKA, HE⟩, hmz _ HW.out⟩
                · have HKA := Lib.hid (hB (by omega))
                  have hne0 : ((F : Int) == 0) = false := beq_eq_false_iff_ne.2 (by omega)
                  clear hcu hu hA hB hq hlt3 hs2 hki2 hv2 hi2 hF hlu hF1 h1 huL
                  have hwF := HwF.out
                  go_wp2_with fail
                  first
                    | exact ⟨⟨q + 1, free2, _, Hlt3.out, by simp, HKA, HS1⟩, hmz _ rfl⟩
                    | exact ⟨⟨q + 1, free2, _, Hlt3.out, congrArg (Value.int .i64) (HW.out.trans (by simp)), HKA, HS1⟩, hmz _ HW.out⟩
              · obtain rfl : q = U.length := by omega
                have hd3 : ¬ (U.length : Int) < (U.length : Int) := by omega
                have HE : Hid (Kn (kidN G) L (R ++ [kk]) free2 lf2) := Ki.fin HF.out.1 (by rw [HU.out]; exact hki2.out)
                have hmz : ∀ y : Int, y = R.length + 1 → L.length + 1 - (intOf (.int .i64 y)).toNat < L.length + 1 - (intOf (.int .i64 (R.length : Int))).toNat := by intro y hy; subst hy; have := HRl.out; simp only [intOf]; omega
                clear hq hlt3 hki2 hv2 hi2
                go_wp2_with fail
                first
                  | exact ⟨⟨R ++ [kk], free2, lf2, vs, by simp, HE, hs2⟩, hmz _ rfl⟩
                  | exact ⟨⟨R ++ [kk], free2, lf2, vs, congrArg (Value.int .i64) (HWg.out.trans (by simp)), HE, hs2⟩, hmz _ HWg.out⟩
end Go.Proofs.YtdcbngimgpdjoaaDoor
