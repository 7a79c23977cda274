/- The reference's reach (marginaliaref17): the nodes that are met from one, with a row of what was seen. Conditions: the graph is right; the row lies apart from the graph. -/
import Derived.Test.YtdcbngimgpdjoaaDoorGe
import Derived.Test.YtdcbngimgpdjoaaDoorIp
namespace Go.Proofs.YtdcbngimgpdjoaaDoor
open Go.RowKit Go.Shelf Go.Deep
attribute [local go_sem] Oper.semAt_some
theorem grown_trans {a b c : World} {o : Option Nat} (h : a.grownBy b o) (h' : b.grownBy c o) : a.grownBy c o :=
  ⟨h'.os.trans h.os, h'.tape.trans h.tape, h'.output.trans h.output, Nat.le_trans h.size h'.size, fun k hk he => (h'.block k (Nat.lt_of_lt_of_le hk h.size) he).trans (h.block k hk he)⟩
theorem grown_below {a b : World} {o : Option Nat} (h : Below a.heap.size a b) : a.grownBy b o := ⟨h.os, h.tape, h.output, h.size, fun k hk _ => h.block k hk⟩
theorem grown_refl (a : World) (o : Option Nat) : a.grownBy a o := ⟨rfl, rfl, rfl, Nat.le_refl _, fun _ _ _ => rfl⟩
/-- How the walk stands: what was seen, the row of what is told, the row of what is yet to be looked at. -/
structure RcSt (w : World) (gs n : Nat) (seen out stk : List Nat) (u : Value) (gw cw : Nat) (W : World) : Prop where
  keep : w.grownBy W (some gs)
  lt : gs < w.heap.size
  seen : W.rowIs gs 4 n fun j => .bool (decide (j ∈ seen))
  out : W.ownsRow w.heap.size 3 1 u out.length (ncells out)
  way : W.ownsRow w.heap.size 3 1 (.slice (some ⟨gw, 0, none⟩) stk.length cw) stk.length (ncells stk.reverse)
  ne : u.ownBlock ≠ some gw
theorem own_place {W : World} {N : Nat} {e : TypeId} {s n : Nat} {u : Value} {xs : List Value} (h : W.ownsRow N e s u n xs) {b : Nat} (hb : u.ownBlock = some b) : N ≤ b ∧ b < W.heap.size ∧ ∃ cur, W.heap[b]? = some (.cells cur e (0, 0)) := by
  rcases h.2 with ⟨rfl, _⟩ | ⟨g', cap, cur, rfl, hb', hg', _⟩
  · cases hb
  · cases hb
    exact ⟨hb', (Array.getElem?_eq_some_iff.1 hg').1, cur, hg'⟩
theorem RcSt.pop {w W : World} {gs n gw cw i : Nat} {seen out stk : List Nat} {u : Value} (h : RcSt w gs n seen out (i :: stk) u gw cw W) : RcSt w gs n seen out stk u gw cw W := by
  refine ⟨h.keep, h.lt, h.seen, h.out, ?_, h.ne⟩
  refine ownsRow_pop (last := ncells [i]) (by simp [ncells]) ?_
  have := h.way
  simpa [ncells] using this
theorem RcSt.top {w W : World} {gs n gw cw i : Nat} {seen out stk : List Nat} {u : Value} (h : RcSt w gs n seen out (i :: stk) u gw cw W) : W.cell? ⟨gw, stk.length, none⟩ = some (.int .i64 i) := by
  have := h.way.cellAt stk.length (by simp)
  rw [this]
  simp [ncells]
theorem RcSt.mark {w W : World} {gs n gw cw i : Nat} {seen out stk : List Nat} {u : Value} (h : RcSt w gs n seen out stk u gw cw W) : RcSt w gs n (seen ++ [i]) out stk u gw cw (W.setCell ⟨gs, i, none⟩ (.bool true)) := by
  have hg : W.grownBy (W.setCell ⟨gs, i, none⟩ (.bool true)) (some gs) := ⟨rfl, rfl, rfl, by simp, fun k _ hk => Below.heap_setCell W ⟨gs, i, none⟩ _ k (by intro e; exact hk (by simp [e]))⟩
  have hl := h.lt
  refine ⟨grown_trans h.keep hg, hl, (h.seen.set i (.bool true)).congr fun j _ => ?_, ownsRow_same h.out fun g hg' hlt => ?_, ownsRow_same h.way fun g hg' hlt => ?_, h.ne⟩
  · by_cases e : j = i <;> simp [e]
  · have := (own_place h.out hg').1
    exact hg.block g hlt (by simp; omega)
  · have := (own_place h.way hg').1
    exact hg.block g hlt (by simp; omega)
theorem RcSt.tell {w W w' : World} {gs n gw cw z g : Nat} {seen out stk : List Nat} {u v' : Value} {o : Obj} (h : RcSt w gs n seen out stk u gw cw W) (hg : (W.alloc o).grownBy w' u.ownBlock)
    (hv : w'.ownsRow w.heap.size 3 1 v' (out ++ [z]).length (ncells (out ++ [z]))) (hg1 : v'.ownBlock = some g) (hg2 : u.ownBlock = some g ∨ g = W.heap.size + 1) : RcSt w gs n seen (out ++ [z]) stk v' gw cw w' := by
  have hl := h.lt
  have hs := h.keep.size
  have hk : ∀ b, b < W.heap.size → u.ownBlock ≠ some b → w'.heap[b]? = W.heap[b]? := fun b hb hne =>
    (hg.block b (by simp; omega) (fun e => hne e.symm)).trans (Below.heap_alloc W o b hb)
  have hlow : ∀ b, b < w.heap.size → w'.heap[b]? = W.heap[b]? := fun b hb => hk b (by omega) fun e => by have := (own_place h.out e).1; omega
  have hsz : W.heap.size ≤ w'.heap.size := Nat.le_trans (by simp) hg.size
  have hwp : w.heap.size ≤ gw ∧ gw < W.heap.size ∧ _ := own_place h.way rfl
  refine ⟨⟨hg.os.trans h.keep.os, hg.tape.trans h.keep.tape, hg.output.trans h.keep.output, Nat.le_trans hs hsz, fun b hb hne => (hlow b hb).trans (h.keep.block b hb hne)⟩, hl, h.seen.of_block (hlow gs hl), hv, ownsRow_same h.way fun b hb hlt => hk b hlt (by cases hb; exact h.ne), ?_⟩
  rw [hg1]
  intro e
  cases e
  rcases hg2 with e | rfl
  · exact h.ne e
  · have := hwp.2.1; omega
theorem RcSt.push {w W w' : World} {gs n gw cw z g c : Nat} {seen out stk : List Nat} {u : Value} {o : Obj} (h : RcSt w gs n seen out stk u gw cw W) (hg : (W.alloc o).grownBy w' (some gw))
    (hv : w'.ownsRow w.heap.size 3 1 (.slice (some ⟨g, 0, none⟩) (stk.reverse ++ [z]).length c) (stk.reverse ++ [z]).length (ncells (stk.reverse ++ [z]))) (hg2 : gw = g ∨ g = W.heap.size + 1) : RcSt w gs n seen out (z :: stk) u g c w' := by
  have hl := h.lt
  have hs := h.keep.size
  have hwp : w.heap.size ≤ gw ∧ gw < W.heap.size ∧ _ := own_place h.way rfl
  have hk : ∀ b, b < W.heap.size → gw ≠ b → w'.heap[b]? = W.heap[b]? := fun b hb hne =>
    (hg.block b (by simp; omega) (fun e => hne (by cases e; rfl))).trans (Below.heap_alloc W o b hb)
  have hlow : ∀ b, b < w.heap.size → w'.heap[b]? = W.heap[b]? := fun b hb => hk b (by omega) fun e => by have := hwp.1; omega
  have hsz : W.heap.size ≤ w'.heap.size := Nat.le_trans (by simp) hg.size
  refine ⟨⟨hg.os.trans h.keep.os, hg.tape.trans h.keep.tape, hg.output.trans h.keep.output, Nat.le_trans hs hsz, fun b hb hne => (hlow b hb).trans (h.keep.block b hb hne)⟩, hl, h.seen.of_block (hlow gs hl), ownsRow_same h.out fun b hb hlt => hk b hlt (by rintro rfl; exact h.ne hb), by simpa using hv, ?_⟩
  intro e
  rcases hg2 with rfl | rfl
  · exact h.ne e
  · have := (own_place h.out e).2.1; omega
theorem ints_row {W : World} {N : Nat} {u : Value} {l : List Nat} (h : W.ownsRow N 3 1 u l.length (ncells l)) : ∃ A c, u = .slice A l.length c ∧ IntsAt W W.heap.size A (l.map Int.ofNat) ∧ l.length ≤ c ∧ ∀ p, A = some p → N ≤ p.block := by
  rcases h.2 with ⟨rfl, h0⟩ | ⟨g, cap, cur, rfl, hNg, hg, hcp, _, _, _⟩
  · exact ⟨none, 0, by rw [h0], fun h => by simp [h0] at h, by omega, fun p e => by cases e⟩
  · refine ⟨_, cap, rfl, fun _ => ⟨g, 0, rfl, (Array.getElem?_eq_some_iff.1 hg).1, fun k hk => ?_⟩, hcp, fun p e => by cases e; exact hNg⟩
    have h1 := h.cells (g := g) rfl k (.int .i64 (nth (l.map Int.ofNat) k)) (by
      simp only [List.length_map] at hk
      simp [ncells, nth, hk])
    simpa [Addr.add_lit] using h1
set_option maxRecDepth 100000 in
set_option maxHeartbeats 1000000 in
theorem refreach_any (G : Gr) (v : Value) (r gs c : Nat) (vis0 T : List Nat) (w : World) (hG : GrAt w gs G v) (hR : RightG G) (hs : w.rowIs gs 4 G.nodes.length fun j => .bool (decide (j ∈ vis0))) (hw : Way (kidN G) G.nodes.length T 20001 vis0 [r]) :
    Calls Tryd.prog 50 #[v, .slice (some ⟨gs, 0, none⟩) G.nodes.length c, .int .i64 (r : Int)] w fun e w' => ∃ A cc out, e = .returned (.slice A out.length cc) ∧ vis0 ++ out = T ∧ IntsAt w' w'.heap.size A (out.map Int.ofNat) ∧ out.length ≤ cc ∧
      (w'.rowIs gs 4 G.nodes.length fun j => .bool (decide (j ∈ T))) ∧ w.grownBy w' (some gs) ∧ ∀ p, A = some p → w.heap.size ≤ p.block := by
  obtain ⟨NA, nc, RA, rc, rfl, hN, hRo⟩ := hG.ex
  have hgs := hs.lt
  have hrl := hw.slt r List.mem_cons_self
  obtain ⟨V, hV, hbV, hrow, hsz⟩ := box2 w (.slice NA G.nodes.length nc) (.slice RA G.roots.length rc) 25
  obtain ⟨X, hX⟩ : ∃ X, V.alloc (.cells #[.int .i64 (r : Int)] 3) = X := ⟨_, rfl⟩
  have hbX : Below V.heap.size V X := by rw [← hX]; exact (Below.refl _ V).alloc (Nat.le_refl _) _
  have hI : RcSt V gs G.nodes.length (vis0 ++ []) [] [r] (.slice none 0 0) V.heap.size 1 X := by
    refine ⟨grown_below hbX, by omega, ?_, ⟨rfl, .inl ⟨rfl, rfl⟩⟩, ?_, fun h => by cases h⟩
    · have := (hs.of_block (hbV.block gs hgs)).of_block (hbX.block gs (by omega))
      exact this.congr fun j _ => by simp
    · have := World.ownsRow_lit (base := V.heap.size) (size := 1) (e := 3) V #[.int .i64 (r : Int)] 1 (Nat.le_refl _) (by decide) rfl
      rw [hX] at this
      simpa [ncells] using this
  have HC : Hid (∀ W, V.grownBy W (some gs) → W.cell? ⟨w.heap.size, 0, none⟩ = some (.slice NA G.nodes.length nc) ∧ W.cell? ⟨w.heap.size, 1, none⟩ = some (.slice RA G.roots.length rc) ∧ NdsAt W gs NA G.nodes ∧ w.grownBy W (some gs)) := fun W h => by
    have hb : ∀ k, k < V.heap.size → k ≠ gs → W.heap[k]? = V.heap[k]? := fun k hk hne => h.block k hk (by simpa using hne)
    have hr := (hb w.heap.size (by omega) (by omega)).trans hrow
    refine ⟨Lib.cell_of_heap hr 0, Lib.cell_of_heap hr 1, ?_, ⟨h.os.trans hbV.os, h.tape.trans hbV.tape, h.output.trans hbV.output, Nat.le_trans hbV.size h.size, fun k hk hne => (h.block k (by omega) hne).trans (hbV.block k hk)⟩⟩
    refine hN.below (B' := gs) ?_ (Nat.le_refl _)
    exact ⟨h.os.trans hbV.os, h.tape.trans hbV.tape, h.output.trans hbV.output, Nat.le_trans hbV.size h.size, fun k hk => (hb k (by omega) (by omega)).trans (hbV.block k (by omega))⟩
  have HI := Lib.hid hI
  have HWay : Hid (Way (kidN G) G.nodes.length T 20001 (vis0 ++ []) [r]) := by simpa using Lib.hid hw
  have HRG := Lib.hid hR
  clear hI hw hs hG hN hRo hrow hbX hbV hR
  have Hgs := Lib.hid hgs
  have Hsz := Lib.hid hsz
  clear hgs hsz hrl
  refine (callsIn_wide (n := 3)).1 ?_
  refine callsIn_of_wp Tryd.func50 rfl trivial ?_ rfl
  simp only [Tryd.ntmps50, List.size_toArray, List.length_cons, List.length_nil, Nat.reduceAdd, Nat.reduceSub, Array.replicate_succ, Array.replicate_zero, List.push_toArray, List.append_toArray, List.nil_append, List.cons_append]
  gi_wp2
  gi_loopg [7, 8] 20001 (fun gk out way wr => gk ≤ 20001 ∧ ∃ (os stk : List Nat) (u : Value) (gw cw : Nat), out = u ∧ way = .slice (some ⟨gw, 0, none⟩) stk.length cw ∧ Hid (Way (kidN G) G.nodes.length T gk (vis0 ++ os) stk) ∧ Hid (RcSt V gs G.nodes.length (vis0 ++ os) os stk u gw cw wr))
  case atStart => exact ⟨Nat.le_refl _, [], [r], _, V.heap.size, 1, rfl, rfl, HWay, HI⟩
  case round =>
    obtain ⟨hgk, os, stk, u, gw, cw, rfl, rfl, hw, hs⟩ := hrel
    obtain ⟨e0, e1, hnd0, _⟩ := HC.out wr hs.out.keep
    cases stk with
    | nil =>
      have HT : Hid (vis0 ++ os = T) := hw.out.fin
      obtain ⟨A, cc, hu7, hI, hcc, hfr⟩ := ints_row hs.out.out
      subst hu7
      have HE := Lib.hid (And.intro hI (And.intro hcc hfr))
      clear hI hcc hfr hnd0 e0 e1
      gi_wp2
      go_ret
      exact ⟨A, cc, os, rfl, HT.out, HE.out.1, HE.out.2.1, HT.out ▸ hs.out.seen, (HC.out wr hs.out.keep).2.2.2, fun p hp => by have := HE.out.2.2 p hp; have := Hsz.out; omega⟩
    | cons i stk =>
      have hil : i < G.nodes.length := hw.out.slt i List.mem_cons_self
      have hsl : (stk.length : Int) + 1 - 1 = stk.length := by omega
      have htop := hs.out.top
      have hsee := hs.out.seen.cell hil
      have hroom := hw.out.room
      have hcw := (ownsRow_block hs.out.way).2.2.1
      simp only [List.length_cons] at hcw
      have hsl20 : stk.length < 20001 := by unfold room at hroom; simp at hroom; omega
      have hw64 : wrap64 (stk.length : Int) = stk.length := IntWalk.wrap64_in _ (by omega)
      clear hroom hsl
      by_cases hv : i ∈ vis0 ++ os
      · rw [decide_eq_true hv] at hsee
        obtain ⟨g, rfl, hw2⟩ := hw.out.pop hv
        have HW2 := Lib.hid hw2
        have HI2 := Lib.hid hs.out.pop
        clear hw2 hnd0
        gi_wp2
        gi_roundg g
        case rel => exact ⟨by omega, os, stk, u7, gw, cw, rfl, rfl, HW2, HI2⟩
        case measure => omega
      · rw [decide_eq_false hv] at hsee
        obtain ⟨g, rfl, hw2⟩ := hw.out.push hv (HRG.out.lt hil)
        rw [List.append_assoc] at hw2
        have HW2 := Lib.hid hw2
        have hfz := hs.out.seen.frozen i
        have HM : Hid (RcSt V gs G.nodes.length (vis0 ++ (os ++ [i])) os stk u7 gw cw (wr.setCell ⟨gs, i, none⟩ (.bool true))) := by
          have := hs.out.pop.mark (i := i)
          rwa [List.append_assoc] at this
        have hol : os.length ≤ 1000000000 := by
          have h1 := nodup_short _ _ hw2.nd hw2.vlt
          have := HRG.out.nodes
          simp at h1; omega
        have hsM : V.heap.size ≤ (wr.setCell ⟨gs, i, none⟩ (.bool true)).heap.size := HM.out.keep.size
        obtain ⟨kl, hkl⟩ : ∃ l, (nd G.nodes i).kids = l := ⟨_, rfl⟩
        have HKN : Hid (kidN G i = kl.map Int.toNat) := by rw [← hkl]; rfl
        have HKr : Hid (∀ z ∈ kl, 0 ≤ z ∧ z < G.nodes.length) := by rw [← hkl]; exact HRG.out.kids i hil
        have HKL : Hid (kl.length + stk.length ≤ 20001) := by
          have := HW2.out.room
          unfold room at this
          rw [HKN.out] at this
          simp at this
          show _ ≤ _; omega
        have hk64 : wrap64 ((kl.length : Int) - 1) = kl.length - 1 := IntWalk.wrap64_in _ (by have := HKL.out; omega)
        have HFR : Hid (∀ W, V.grownBy W (some gs) → W.cell? ⟨w.heap.size, 0, none⟩ = some (.slice NA G.nodes.length nc) ∧ ∃ b off K kc, NA = some ⟨b, off, none⟩ ∧ W.cell? ⟨b, off + i * 5 + 3, none⟩ = some (.slice K kl.length kc) ∧ IntsAt W gs K kl) := fun W h => by
          obtain ⟨q0, _, q2, _⟩ := HC.out W h
          obtain ⟨b, off, hA, hbl, hnds⟩ := q2 (by omega)
          obtain ⟨K, kc, hnd⟩ := hnds i hil
          have h3 := hnd.c3
          have h4 := hnd.kids
          rw [hkl] at h3 h4
          exact ⟨q0, b, off, K, kc, hA, h3, h4⟩
        clear hw2 hv hkl hnd0
        gi_wp2_with (gi_at_builtin; refine wpListIn_appO rfl _ _ _ rfl rfl u7 os i rfl HM.out.out wr.heap.size (by simp) rfl hol hsM ?_; rintro v' w' r1 r2 ⟨g', cap', hv', r4⟩; have HS2 := Lib.hid (HM.out.tell r2 r1 (by rw [hv']; rfl) r4); obtain ⟨f0, b, off, K, kc, rfl, f1, f2⟩ := HFR.out w' HS2.out.keep; have HF2 := Lib.hid f2; clear r1 r2 r4 hv' f2)
        rw [hk64]
        clear hk64 f0 f1 hw64 e0 e1 htop hsee hfz hsM hol HM hs hw
        gi_loopw [8, 11] (fun way k w2 => ∃ (j gw' cw' : Nat) (L : List Nat), j ≤ kl.length ∧ k = .int .i64 ((j : Int) - 1) ∧ way = .slice (some ⟨gw', 0, none⟩) L.length cw' ∧ Hid (L = (kl.drop j).map Int.toNat ++ stk) ∧ Hid (RcSt V gs G.nodes.length (vis0 ++ (os ++ [i])) (os ++ [i]) L v' gw' cw' w2)) (fun _ k _ => (intOf k + 1).toNat)
        case atStart => exact ⟨kl.length, gw, cw, stk, Nat.le_refl _, rfl, rfl, by show _ = _; simp, HS2⟩
        case round =>
          obtain ⟨j, gw', cw', L, hj, rfl, rfl, hL, hs2⟩ := hrel
          cases j with
          | zero =>
            have HLe : Hid (L = kidN G i ++ stk) := by show _ = _; rw [hL.out, HKN.out]; simp
            gi_wp2
            gi_roundg g
            case rel => exact ⟨by omega, os ++ [i], kidN G i ++ stk, _, gw', cw', rfl, by rw [HLe.out], HW2, HLe.out ▸ hs2⟩
            case measure => omega
          | succ j =>
            have hjl : j < kl.length := by omega
            obtain ⟨bK, oK, rfl, hbK, hcK⟩ := HF2.out (by omega)
            have hgV := HS2.out.lt
            have hcj : wr.cell? ⟨bK, oK + j, none⟩ = some (.int .i64 (nth kl j)) :=
              (World.cell?_of_block ((hs2.out.keep.block bK (by omega) (by simp; omega)).trans (HS2.out.keep.block bK (by omega) (by simp; omega)).symm)).trans (hcK j hjl)
            have hj64 : ((j + 1 : Nat) : Int) - 1 = (j : Int) := by omega
            obtain ⟨z, hz⟩ : ∃ z : Nat, nth kl j = (z : Int) := ⟨(nth kl j).toNat, by have := (HKr.out _ (nth_mem hjl)).1; omega⟩
            have HLn : Hid (z :: L = (kl.drop j).map Int.toNat ++ stk) := by
              show _ = _
              rw [hL.out, List.drop_eq_getElem_cons hjl, ← nth_eq hjl, hz]; simp
            have hLl : L.reverse.length ≤ 1000000000 := by rw [List.length_reverse, hL.out]; have := HKL.out; simp; omega
            rw [hz] at hcj
            have hjw : wrap64 ((j : Int) - 1) = j - 1 := IntWalk.wrap64_in _ (by have := HKL.out; omega)
            have hsV : V.heap.size ≤ wr.heap.size := hs2.out.keep.size
            have hway : wr.ownsRow V.heap.size 3 1 (.slice (some ⟨gw', 0, none⟩) L.length cw') L.reverse.length (ncells L.reverse) := by rw [List.length_reverse]; exact hs2.out.way
            rw [hj64]
            clear hcK hz hgV hbK hL hj64
            gi_wp2_with (gi_at_builtin; refine wpListIn_appO rfl _ _ _ rfl rfl (.slice (some ⟨gw', 0, none⟩) L.length cw') L.reverse z rfl hway _ rfl rfl hLl hsV ?_; rintro v2 w4 r1 r2 ⟨gw4, cw4, rfl, r4⟩; have HS4 := Lib.hid (hs2.out.push r2 r1 (r4.imp (fun e => by injection e) id)); clear r1 r2 r4)
            go_roundw
            case rel => exact ⟨j, gw4, cw4, z :: L, by omega, by go_num, by simp, HLn, HS4⟩
            case measure => simp [intOf]; omega
end Go.Proofs.YtdcbngimgpdjoaaDoor
