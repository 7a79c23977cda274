/- graph.met: the nodes that are come to from one, handed to any body. Conditions: the graph is right; the caller's own cells lie apart from the iterator's. -/
import Derived.Test.YtdcbngimgpdjoaaDoorXp
import Derived.Sort.LoopGhostIn
import Derived.WalkSmall
import Derived.Deep.OwnRows
import Derived.Maps.OwnIn
namespace Go.Proofs.YtdcbngimgpdjoaaDoor
open Go.RowKit Go.Shelf Go.Deep
attribute [local go_sem] Oper.semAt_some
set_option maxRecDepth 100000 in
theorem met_any (NA : Option Addr) (n nc : Nat) (RA : Option Addr) (m rc : Nat) (root : Int) (w : World) : Calls Tryd.prog 49 #[.agg #[.slice NA n nc, .slice RA m rc], .int .i64 root] w fun e w' =>
    e = .returned (.func (.func 69) #[] #[.pointer (some ⟨w.heap.size, 0, none⟩), .pointer (some ⟨w.heap.size + 1, 0, none⟩)]) ∧ (w.alloc (.cells #[.slice NA n nc, .slice RA m rc] 25)).alloc (.cells #[.int .i64 root] 3) = w' := by
  go_enter Tryd.func49, Tryd.ntmps49
  go_wp2
  go_ret
  exact ⟨rfl, rfl⟩
theorem Tryd.infoBoolM : (Tryd.prog.info? 4).map (fun i => (i.zero, i.size, i.bytes)) = some (some (.bool false), 1, 1) := by kernel_rfl
def ncells (l : List Nat) : List Value := l.map fun (x : Nat) => Value.int .i64 (x : Int)
/-- All below N and one block lie as they lay. -/
structure Frm (N k : Nat) (w w' : World) : Prop where
  os : w'.os = w.os
  tape : w'.tape = w.tape
  output : w'.output = w.output
  size : w.heap.size ≤ w'.heap.size
  block : ∀ g, g < w.heap.size → g < N ∨ g = k → w'.heap[g]? = w.heap[g]?
theorem Frm.trans {N k : Nat} {a b c : World} (h : Frm N k a b) (h' : Frm N k b c) : Frm N k a c :=
  ⟨h'.os.trans h.os, h'.tape.trans h.tape, h'.output.trans h.output, Nat.le_trans h.size h'.size, fun g hg hk => (h'.block g (Nat.lt_of_lt_of_le hg h.size) hk).trans (h.block g hg hk)⟩
theorem Frm.of_below {N k : Nat} {w w' : World} (h : Below w.heap.size w w') : Frm N k w w' := ⟨h.os, h.tape, h.output, h.size, fun g hg _ => h.block g hg⟩
theorem Frm.setCell {N k : Nat} (w : World) {a : Addr} (v : Value) (h1 : N ≤ a.block) (h2 : a.block ≠ k) : Frm N k w (w.setCell a v) :=
  ⟨rfl, rfl, rfl, by simp, fun g _ hk => Below.heap_setCell w a v g (by rcases hk with h | rfl <;> omega)⟩
theorem Frm.grown {N k : Nat} {w w' : World} {b : Nat} (h : w.grownBy w' (some b)) (h1 : N ≤ b) (h2 : b ≠ k) : Frm N k w w' :=
  ⟨h.os, h.tape, h.output, h.size, fun g hg hk => h.block g hg (by intro e; cases e; rcases hk with h | rfl <;> omega)⟩
/-- A caller's state, by what was told, with a block of its own. -/
structure Cal (C : List Nat → Nat → World → Prop) (N : Nat) (G : Gr) (NA RA : Option Addr) (nc m rc root B1 B2 : Nat) : Prop where
  frm : ∀ vis kO W W', C vis kO W → Frm N kO W W' → C vis kO W'
  lt : ∀ vis kO W, C vis kO W → kO < W.heap.size ∧ N ≤ W.heap.size
  cells : ∀ vis kO W, C vis kO W → W.cell? ⟨B1, 0, none⟩ = some (.slice NA G.nodes.length nc) ∧ W.cell? ⟨B1, 1, none⟩ = some (.slice RA m rc) ∧ W.cell? ⟨B2, 0, none⟩ = some (.int .i64 root)
  nodes : ∀ vis kO W, C vis kO W → NdsAt W N NA G.nodes
/-- The iterator's rows: what was met, and the way that is yet to be gone. -/
structure ItSt (N kO gs n : Nat) (vis : List Nat) (gw cw : Nat) (stk : List Nat) (W : World) : Prop where
  seen : W.rowIs gs 4 n fun j => .bool (decide (j ∈ vis))
  lo : N ≤ gs
  ne : gs ≠ kO
  way : W.ownsRow N 3 1 (.slice (some ⟨gw, 0, none⟩) stk.length cw) stk.length (ncells stk.reverse)
  wne : gw ≠ kO
  wgs : gw ≠ gs
theorem ownsRow_block {W : World} {N : Nat} {e : TypeId} {s g n c : Nat} {xs : List Value} (h : W.ownsRow N e s (.slice (some ⟨g, 0, none⟩) n c) n xs) : N ≤ g ∧ g < W.heap.size ∧ n ≤ c ∧ ∃ cur, W.heap[g]? = some (.cells cur e (0, 0)) := by
  rcases h.2 with ⟨h0, _⟩ | ⟨g', cap, cur, hv, hb, hg, hn, _⟩
  · cases h0
  · cases hv; exact ⟨hb, (Array.getElem?_eq_some_iff.1 hg).1, hn, cur, hg⟩
theorem ItSt.kept {N kO kO' gs n gw cw : Nat} {vis stk : List Nat} {W W' : World} (h : ItSt N kO gs n vis gw cw stk W) (hb : ∀ g, N ≤ g → g < W.heap.size → g ≠ kO → W'.heap[g]? = W.heap[g]?)
    (hk : kO' = kO ∨ W.heap.size ≤ kO') : ItSt N kO' gs n vis gw cw stk W' := by
  obtain ⟨hw1, hw2, hw3, cur, hw4⟩ := ownsRow_block h.way
  have hg := h.seen.lt
  refine ⟨h.seen.of_block (hb gs h.lo hg h.ne), h.lo, ?_, ⟨h.way.1, ?_⟩, ?_, h.wgs⟩
  · rcases hk with rfl | hk
    · exact h.ne
    · omega
  · rcases h.way.2 with ⟨h0, _⟩ | ⟨g', cap, cur, hv, hb', hg', r⟩
    · cases h0
    · cases hv
      exact .inr ⟨gw, cw, cur, rfl, hb', (hb gw hw1 hw2 h.wne).trans hg', r⟩
  · rcases hk with rfl | hk
    · exact h.wne
    · omega
theorem ItSt.below {N kO gs n gw cw : Nat} {vis stk : List Nat} {W W' : World} (h : ItSt N kO gs n vis gw cw stk W) (hb : Below W.heap.size W W') : ItSt N kO gs n vis gw cw stk W' :=
  h.kept (fun g _ hg _ => hb.block g hg) (.inl rfl)
theorem ItSt.pop {N kO gs n gw cw i : Nat} {vis stk : List Nat} {W : World} (h : ItSt N kO gs n vis gw cw (i :: stk) W) : ItSt N kO gs n vis gw cw stk W := by
  refine ⟨h.seen, h.lo, h.ne, ?_, h.wne, h.wgs⟩
  refine ownsRow_pop (last := ncells [i]) (by simp [ncells]) ?_
  have := h.way
  simpa [ncells] using this
theorem ItSt.top {N kO gs n gw cw i : Nat} {vis stk : List Nat} {W : World} (h : ItSt N kO gs n vis gw cw (i :: stk) W) : W.cell? ⟨gw, stk.length, none⟩ = some (.int .i64 i) := by
  have := h.way.cellAt stk.length (by simp)
  rw [this]
  simp [ncells]
theorem ItSt.mark {N kO gs n gw cw i : Nat} {vis stk : List Nat} {W : World} (h : ItSt N kO gs n vis gw cw stk W) : ItSt N kO gs n (vis ++ [i]) gw cw stk (W.setCell ⟨gs, i, none⟩ (.bool true)) := by
  have hg : W.grownBy (W.setCell ⟨gs, i, none⟩ (.bool true)) (some gs) := ⟨rfl, rfl, rfl, by simp, fun k _ hk => Below.heap_setCell W ⟨gs, i, none⟩ _ k (by intro e; exact hk (by simp [e]))⟩
  refine ⟨(h.seen.set i (.bool true)).congr fun j _ => ?_, h.lo, h.ne, h.way.kept hg (.inr (by simpa [Value.ownBlock] using h.wgs)), h.wne, h.wgs⟩
  by_cases e : j = i <;> simp [e]
theorem keeps_grown {W W' : World} {N g n c : Nat} {e : TypeId} {s : Nat} {xs : List Value} (ho : W.ownsRow N e s (.slice (some ⟨g, 0, none⟩) n c) n xs) (hg : W.grownBy W' (some g)) : KeepsOthers W W' := by
  obtain ⟨_, _, _, cur, hc⟩ := ownsRow_block ho
  exact KeepsOthers.of_grownBy hg fun j o ej hj => by cases ej; rw [hc] at hj; cases hj; rfl
/-- 'append' of one node to the way. -/
theorem wpListIn_appW {F : Fence} {rm : Nat} {wr : World} {ops : Array Oper} {rest : List Oper} {o : Oper} {a : Act} {Q : Exit → Act → World → Prop} (hgd : o.guard = none) (s x : Operand) (t : TypeId)
    (ho : o.op = .call { callee := .builtin .append, args := #[s, x], argTypes := #[t, t] }) (ht : Tryd.prog.underlying t = some (.slice 3)) {N kO gs n gw cw : Nat} {vis stk : List Nat} (z : Nat)
    (hs : a.eval s = .slice (some ⟨gw, 0, none⟩) stk.length cw) (h : ItSt N kO gs n vis gw cw stk wr) (n0 : Nat) (hn0 : n0 = wr.heap.size) (hx : a.eval x = .slice (some ⟨n0, 0, none⟩) 1 1) (hl : stk.length ≤ 1000000000) (hk : kO < wr.heap.size)
    (k : ∀ gw' cw' w', ItSt N kO gs n vis gw' cw' (z :: stk) w' → Frm N kO wr w' → KeepsOthers wr w' → wpListIn F rm Tryd.prog ops Q rest (a.put o.dst (.slice (some ⟨gw', 0, none⟩) (stk.length + 1) cw')) w') :
    wpListIn F rm Tryd.prog ops Q (o :: rest) a (wr.alloc (.cells #[.int .i64 (z : Int)] 3)) := by
  obtain ⟨i0, hi, hz0, hz1, hz2⟩ := info_parts Tryd.infoIntZ
  obtain ⟨hw1, hw2, hw3, cur, hw4⟩ := ownsRow_block h.way
  have hgs := h.seen.lt
  have hA : Below wr.heap.size wr (wr.alloc (.cells #[.int .i64 (z : Int)] 3)) := (Below.refl _ wr).alloc (Nat.le_refl _) _
  have hall := h.below hA
  refine wpListIn_append_own_at _ hgd s x t ho N _ i0 _ 1 8 ht hi hz0 hz1 hz2 rfl (by decide) _ _ _ hs hall.way ⟨n0, 0, none⟩ 1 1 [.int .i64 (z : Int)] hx rfl ?_ (fun u hu => by simp at hu; subst hu; rfl) (by unfold maxLen; omega) (by omega) (by simp; omega) ?_
  · intro j u hj
    match j, hj with
    | 0, hj => simp at hj; subst hj; subst hn0; simp [Addr.add]
    | j + 1, hj => simp at hj
  · intro v' w' h1 h2 h3 h4
    have hg2 : (wr.alloc (.cells #[.int .i64 (z : Int)] 3)).grownBy w' (some gw) := h2
    have hF : Frm N kO (wr.alloc (.cells #[.int .i64 (z : Int)] 3)) w' := .grown hg2 hw1 h.wne
    have hv : ∃ gw' cw', v' = .slice (some ⟨gw', 0, none⟩) (stk.length + 1) cw' ∧ (gw' = gw ∨ gw' = wr.heap.size + 1) := by
      rcases h1.2 with ⟨_, h0⟩ | ⟨g', cap', cur', hv, _⟩
      · omega
      · refine ⟨g', cap', hv, ?_⟩
        subst hv
        simpa [Value.ownBlock] using h4
    obtain ⟨gw', cw', rfl, hgw⟩ := hv
    refine k gw' cw' w' ⟨hall.seen.of_block (hg2.block gs (by simp; omega) (by intro e; cases e; exact h.wgs rfl)), h.lo, h.ne, ?_, ?_, ?_⟩ ((Frm.of_below hA).trans hF) ((keeps_of_below hA).trans (keeps_grown hall.way hg2))
    · simpa [ncells] using h1
    · have := h.wne; omega
    · have := h.wgs; omega
theorem IntsAt.frm {N kO : Nat} {w w' : World} {A : Option Addr} {l : List Int} (h : IntsAt w N A l) (hf : Frm N kO w w') (hN : N ≤ w.heap.size) : IntsAt w' N A l := fun hz => by
  obtain ⟨b, off, hA, hb, hc⟩ := h hz
  exact ⟨b, off, hA, hb, fun k hk => (World.cell?_of_block (hf.block b (by omega) (.inl hb))).trans (hc k hk)⟩
/-- What a body is handed. -/
structure Told where
  i : Nat
  vis : List Nat
  gs : Nat
  gw : Nat
  cw : Nat
  stk : List Nat
structure MetRd (C : List Nat → Nat → World → Prop) (N : Nat) (G : Gr) (s : Told) (W : World) : Prop where
  st : ∃ kO, C s.vis kO W ∧ ItSt N kO s.gs G.nodes.length (s.vis ++ [s.i]) s.gw s.cw s.stk W
  nd : (s.vis ++ [s.i]).Nodup
  lt : ∀ x ∈ s.vis ++ [s.i], x < G.nodes.length
def MetAf (C : List Nat → Nat → World → Prop) (N : Nat) (G : Gr) (s : Told) (W : World) : Prop := ∃ kO, C (s.vis ++ [s.i]) kO W ∧ ItSt N kO s.gs G.nodes.length (s.vis ++ [s.i]) s.gw s.cw s.stk W
set_option maxRecDepth 100000 in
set_option maxHeartbeats 1000000 in
theorem metIter (G : Gr) (NA RA : Option Addr) (nc m rc root lp B1 B2 N : Nat) (C : List Nat → Nat → World → Prop) (W : World) (hR : RightG G) (hr : root < G.nodes.length) (hC : Cal C N G NA RA nc m rc root B1 B2)
    (k0 : Nat) (h0 : C [] k0 W) (hN : N = W.heap.size)
    (Bk : World → Prop) (Bx : Code → World → Prop) (keep : ∀ A B, KeepsOthers A B → Bk A → Bk B)
    (hY : ∀ (s : Told) (W1 : World), MetRd C N G s W1 → Bk W1 → YieldAt Fence.wide (3 - 1 - 1) Tryd.prog lp #[.int .i64 (s.i : Int)] W1 fun e W' =>
      (e = .returned (.bool true) ∧ MetAf C N G s W' ∧ Bk W') ∨ (e = .returned (.bool false) ∧ ∃ cd, False ∧ Bx cd W'))
    (hk : Bk W) :
    CallsIn Fence.wide (3 - 1) Tryd.prog 69 #[.func (.yield lp) #[] #[], .pointer (some ⟨B1, 0, none⟩), .pointer (some ⟨B2, 0, none⟩)] W fun e W' => (∃ v, e = .returned v) ∧
      (((∃ kO, C (metL G root) kO W') ∧ Bk W') ∨ (∃ cd, False ∧ Bx cd W')) := by
  obtain ⟨c0, c1, c2⟩ := hC.cells _ _ _ h0
  have hn := hR.nodes
  have hmake := run_make_row' (P := Tryd.prog) 68 4 (.bool false) 1 rfl Tryd.infoBoolM rfl .i64 .i64 G.nodes.length (by omega) (by omega) W
  obtain ⟨V, hV⟩ : ∃ V, W.alloc (.cells (madeCells #[.bool false] G.nodes.length) 4) = V := ⟨_, rfl⟩
  rw [hV] at hmake
  have hWV : Below W.heap.size W V := by rw [← hV]; exact (Below.refl _ W).alloc (Nat.le_refl _) _
  have hsV : V.heap.size = W.heap.size + 1 := by rw [← hV]; simp
  have hrow : V.rowIs N 4 G.nodes.length fun _ => .bool false := by rw [hN, ← hV]; exact World.rowIs_made _ _ _ _
  have hCV : C [] k0 V := hC.frm _ _ _ _ h0 (.of_below hWV)
  obtain ⟨d0, d1, d2⟩ := hC.cells _ _ _ hCV
  obtain ⟨X, hX⟩ : ∃ X, V.alloc (.cells #[.int .i64 root] 3) = X := ⟨_, rfl⟩
  have hVX : Below V.heap.size V X := by rw [← hX]; exact (Below.refl _ V).alloc (Nat.le_refl _) _
  have hCX : C [] k0 X := hC.frm _ _ _ _ hCV (.of_below hVX)
  have hkX : Bk X := keep _ _ ((keeps_of_below hWV).trans (keeps_of_below hVX)) hk
  have hk0 := (hC.lt _ _ _ h0).1
  have hI : ItSt N k0 N G.nodes.length [] (N + 1) 1 [root] X := by
    refine ⟨(hrow.of_block (hVX.block N hrow.lt)).congr fun j _ => by simp, Nat.le_refl _, by omega, ?_, by omega, by omega⟩
    have := World.ownsRow_lit (base := N) (size := 1) (e := 3) V #[.int .i64 root] 1 (by omega) (by decide) rfl
    rw [hX, hsV, ← hN] at this
    simpa [ncells] using this
  have hsV' : V.heap.size = N + 1 := by omega
  have HI := Lib.hid hI
  have HCX := Lib.hid hCX
  have HkX := Lib.hid hkX
  have HWay : Hid (Way (kidN G) G.nodes.length (metL G root) 20001 [] [root]) := hR.way hr
  clear hI hCX hkX hVX hrow hWV hV hsV hCV hk h0 hk0
  rw [← hN] at hmake
  clear hN
  refine callsIn_of_wp Tryd.func69 rfl trivial ?_ rfl
  simp only [Tryd.ntmps69, List.size_toArray, List.length_cons, List.length_nil, Nat.reduceAdd, Nat.reduceSub, Array.replicate_succ, Array.replicate_zero, List.push_toArray, List.append_toArray, List.nil_append, List.cons_append]
  gi_wp2
  gi_loopg [5] 20001 (fun gk way wr => gk ≤ 20001 ∧ ∃ (vis stk : List Nat) (kO gw cw : Nat), way = .slice (some ⟨gw, 0, none⟩) stk.length cw ∧ Hid (Way (kidN G) G.nodes.length (metL G root) gk vis stk) ∧ Hid (ItSt N kO N G.nodes.length vis gw cw stk wr) ∧ Hid (C vis kO wr) ∧ Hid (Bk wr))
  case atStart => exact ⟨Nat.le_refl _, [], [root], k0, N + 1, 1, rfl, HWay, HI, HCX, HkX⟩
  case round =>
    obtain ⟨hgk, vis, stk, kO, gw, cw, rfl, hw, hit, hc, hbk⟩ := hrel
    have hCc := Lib.hid hC
    obtain ⟨e0, e1, e2⟩ := hC.cells _ _ _ hc.out
    clear d0 d1 d2 c0 c1 c2 hmake hX hsV' HI HCX HkX HWay
    cases stk with
    | nil =>
      have HT : Hid (vis = metL G root) := hw.out.fin
      clear hC hY
      gi_wp2
      refine bodyPost_end (results_none rfl _ _ _) rfl ?_
      exact ⟨⟨_, rfl⟩, .inl ⟨⟨kO, HT.out ▸ hc.out⟩, hbk.out⟩⟩
    | cons i stk =>
      have hsl : (stk.length : Int) + 1 - 1 = stk.length := by omega
      have htop := hit.out.top
      have hil : i < G.nodes.length := hw.out.slt i List.mem_cons_self
      have hsee := hit.out.seen.cell hil
      have hroom := hw.out.room
      have hcw := (ownsRow_block hit.out.way).2.2.1
      simp only [List.length_cons] at hcw
      have hsl20 : stk.length < 20001 := by unfold room at hroom; simp at hroom; omega
      have hw64 : wrap64 (stk.length : Int) = stk.length := IntWalk.wrap64_in _ (by omega)
      clear hroom hsl
      by_cases hv : i ∈ vis
      · obtain ⟨g, rfl, hw2⟩ := hw.out.pop hv
        have HW2 := Lib.hid hw2
        have HI2 := Lib.hid hit.out.pop
        clear hw2
        gi_wp2
        gi_roundg g
        case rel => exact ⟨by omega, vis, stk, kO, gw, cw, rfl, HW2, HI2, hc, hbk⟩
        case measure => omega
      · obtain ⟨g, rfl, hw2⟩ := hw.out.push hv (hR.lt hil)
        have HW2 := Lib.hid hw2
        have hfz := hit.out.seen.frozen i
        have HM : Hid (ItSt N kO N G.nodes.length (vis ++ [i]) gw cw stk (wr.setCell ⟨N, i, none⟩ (.bool true))) := hit.out.pop.mark
        have HCm : Hid (C vis kO (wr.setCell ⟨N, i, none⟩ (.bool true))) := hC.frm _ _ _ _ hc.out (.setCell _ _ (Nat.le_refl _) hit.out.ne)
        have HBm : Hid (Bk (wr.setCell ⟨N, i, none⟩ (.bool true))) := keep _ _ (KeepsOthers.setCell _ _ _) hbk.out
        have HYd := Lib.hid (hY ⟨i, vis, N, gw, cw, stk⟩ _ ⟨⟨kO, HCm.out, HM.out⟩, hw2.nd, hw2.vlt⟩ HBm.out)
        have HC := Lib.hid hC
        clear hw2 hY hC
        obtain ⟨fn, tmps, assign, body, hy, hR⟩ := HYd.out
        have HRr := Lib.hid hR
        clear hR HYd
        gi_wp2
        refine HRr.out.mono ?_
        rintro e W3 (⟨rfl, haf, hk3⟩ | ⟨rfl, cd, hF, _⟩)
        · obtain ⟨kO3, hc3, hit3⟩ := haf
          simp only at hc3 hit3
          obtain ⟨f0, f1, f2⟩ := HC.out.cells _ _ _ hc3
          obtain ⟨b, off, rfl, hbl, hnds⟩ := HC.out.nodes _ _ _ hc3 (by omega)
          obtain ⟨K, kc, hnd⟩ := hnds i hil
          obtain ⟨kl, hkl⟩ : ∃ l, (nd G.nodes i).kids = l := ⟨_, rfl⟩
          have HKN : Hid (kidN G i = kl.map Int.toNat) := by rw [← hkl]; rfl
          have HKr : Hid (∀ z ∈ kl, 0 ≤ z ∧ z < G.nodes.length) := by rw [← hkl]; exact hR.kids i hil
          have hk5 := hnd.kids
          have hc3' := hnd.c3
          rw [hkl] at hk5 hc3'
          have Hk5 := Lib.hid hk5
          have Hit3 := Lib.hid hit3
          have Hc3 := Lib.hid hc3
          have Hk3 := Lib.hid hk3
          have HN3 := Lib.hid (HC.out.lt _ _ _ hc3)
          have HKL : Hid (kl.length + stk.length ≤ 20001) := by
            have := HW2.out.room
            unfold room at this
            rw [HKN.out] at this
            simp at this
            show _ ≤ _; omega
          have hk64 : wrap64 ((kl.length : Int) - 1) = kl.length - 1 := IntWalk.wrap64_in _ (by have := HKL.out; omega)
          clear hnd hnds hk5 hkl hit3 hc3 hk3 e0 e1 e2 htop hsee hfz HM HCm HBm hbk hc hit HRr hy
          gi_wp2
          rw [hk64]
          clear hk64 hc3' f0 f1 f2 hw64 hbl
          gi_loopw [5, 8] (fun way k w2 => ∃ (j gw' cw' : Nat) (L : List Nat), j ≤ kl.length ∧ k = .int .i64 ((j : Int) - 1) ∧ way = .slice (some ⟨gw', 0, none⟩) L.length cw' ∧ Hid (L = (kl.drop j).map Int.toNat ++ stk) ∧ Hid (ItSt N kO3 N G.nodes.length (vis ++ [i]) gw' cw' L w2) ∧ Hid (C (vis ++ [i]) kO3 w2) ∧ Hid (Bk w2) ∧ Hid (Frm N kO3 W3 w2)) (fun _ k _ => (intOf k + 1).toNat)
          case atStart => exact ⟨kl.length, gw, cw, stk, Nat.le_refl _, rfl, rfl, by show _ = _; simp, Hit3, Hc3, Hk3, Lib.hid ⟨rfl, rfl, rfl, Nat.le_refl _, fun _ _ _ => rfl⟩⟩
          case round =>
            obtain ⟨j, gw', cw', L, hj, rfl, rfl, hL, hi2, hc2, hb2, hf2⟩ := hrel
            cases j with
            | zero =>
              have HLe : Hid (L = kidN G i ++ stk) := by show _ = _; rw [hL.out, HKN.out]; simp
              gi_wp2
              gi_roundg g
              case rel => exact ⟨by omega, vis ++ [i], kidN G i ++ stk, kO3, gw', cw', by rw [HLe.out], HW2, HLe.out ▸ hi2, hc2, hb2⟩
              case measure => omega
            | succ j =>
              have hjl : j < kl.length := by omega
              obtain ⟨bK, oK, rfl, hbK, hcK⟩ := (Hk5.out.frm hf2.out HN3.out.2) (by omega)
              have hcj := hcK j hjl
              have hj64 : ((j + 1 : Nat) : Int) - 1 = (j : Int) := by omega
              obtain ⟨z, hz⟩ : ∃ z : Nat, nth kl j = (z : Int) := ⟨(nth kl j).toNat, by have := (HKr.out _ (nth_mem hjl)).1; omega⟩
              have HLn : Hid (z :: L = (kl.drop j).map Int.toNat ++ stk) := by
                show _ = _
                rw [hL.out, List.drop_eq_getElem_cons hjl, ← nth_eq hjl, hz]; simp
              have hLl : L.length ≤ 1000000000 := by rw [hL.out]; have := HKL.out; simp; omega
              have hkO := (HC.out.lt _ _ _ hc2.out)
              rw [hz] at hcj
              clear hcK hz
              have HFk : Hid (∀ w4, Frm N kO3 wr w4 → C (vis ++ [i]) kO3 w4 ∧ Frm N kO3 W3 w4) := fun w4 h => ⟨HC.out.frm _ _ _ _ hc2.out h, hf2.out.trans h⟩
              have HBk : Hid (∀ w4, KeepsOthers wr w4 → Bk w4) := fun w4 h => keep _ _ h hb2.out
              have hjw : wrap64 ((j : Int) - 1) = j - 1 := IntWalk.wrap64_in _ (by have := HKL.out; omega)
              rw [hj64]
              gi_wp2_with (gi_at_builtin; refine wpListIn_appW rfl _ _ _ rfl rfl z rfl hi2.out _ rfl rfl hLl hkO.1 ?_; intro gw4 cw4 w4 hi4 hf4 hb4)
              go_roundw
              case rel => exact ⟨j, gw4, cw4, z :: L, by omega, by go_num, rfl, HLn, Lib.hid hi4, Lib.hid (HFk.out _ hf4).1, Lib.hid (HBk.out _ hb4), Lib.hid (HFk.out _ hf4).2⟩
              case measure => simp [intOf]; omega
        · exact hF.elim
end Go.Proofs.YtdcbngimgpdjoaaDoor
