/- graph.rounds: each Kid of what is come to, handed to a body: whether it is open. Conditions: the graph is right; the caller's own cells lie apart from the iterator's. -/
import Derived.Test.YtdcbngimgpdjoaaDoorGf
namespace Go.Proofs.YtdcbngimgpdjoaaDoor
open Go.RowKit Go.Shelf Go.Deep
attribute [local go_sem] Oper.semAt_some
set_option maxRecDepth 100000 in
theorem rounds_any (NA : Option Addr) (n nc : Nat) (RA : Option Addr) (m rc : Nat) (root : Int) (w : World) : Calls Tryd.prog 51 #[.agg #[.slice NA n nc, .slice RA m rc], .int .i64 root] w fun e w' =>
    e = .returned (.func (.func 70) #[] #[.pointer (some ⟨w.heap.size, 0, none⟩), .pointer (some ⟨w.heap.size + 1, 0, none⟩)]) ∧ (w.alloc (.cells #[.slice NA n nc, .slice RA m rc] 25)).alloc (.cells #[.int .i64 root] 3) = w' := by
  go_enter Tryd.func51, Tryd.ntmps51
  go_wp2
  go_ret
  exact ⟨rfl, rfl⟩
theorem Tryd.infoOpen : (Tryd.prog.info? 86).map (fun i => (i.zero, i.size, i.bytes)) = some (some (.agg #[.int .i64 0, .int .i64 0]), 2, 16) := by kernel_rfl
def ocells (l : List (Nat × Nat)) : List Value := l.flatMap fun e => [Value.int .i64 (e.1 : Int), Value.int .i64 (e.2 : Int)]
theorem ocells_len (l : List (Nat × Nat)) : (ocells l).length = l.length * 2 := by
  induction l with
  | nil => rfl
  | cons a l ih => simp only [ocells, List.flatMap_cons, List.length_append, List.length_cons, List.length_nil] at ih ⊢; try omega
theorem ocells_snoc (l : List (Nat × Nat)) (e : Nat × Nat) : ocells (l ++ [e]) = ocells l ++ [Value.int .i64 (e.1 : Int), Value.int .i64 (e.2 : Int)] := by simp [ocells]
/-- A node's colour: 2 done, 1 open, 0 not come to. -/
def colour (D : List Nat) (stk : List (Nat × Nat)) (j : Nat) : Nat := if j ∈ D then 2 else if j ∈ stk.map (·.1) then 1 else 0
theorem colour_top (D : List Nat) (i c c' : Nat) (stk : List (Nat × Nat)) (j : Nat) : colour D ((i, c) :: stk) j = colour D ((i, c') :: stk) j := by unfold colour; rw [List.map_cons, List.map_cons]
theorem colour_done (D : List Nat) {i j : Nat} (c : Nat) (stk : List (Nat × Nat)) (e : j ≠ i) : colour D ((i, c) :: stk) j = colour (i :: D) stk j := by
  unfold colour
  have h1 : (j ∈ i :: D) ↔ j ∈ D := by simp [e]
  have h2 : (j ∈ ((i, c) :: stk).map (·.1)) ↔ j ∈ stk.map (·.1) := by rw [List.map_cons, List.mem_cons]; simp only [e, false_or]
  simp only [h1, h2]
theorem colour_open (D : List Nat) {k j : Nat} (stk : List (Nat × Nat)) (e : j ≠ k) : colour D stk j = colour D ((k, 0) :: stk) j := by
  unfold colour
  have h2 : (j ∈ ((k, 0) :: stk).map (·.1)) ↔ j ∈ stk.map (·.1) := by rw [List.map_cons, List.mem_cons]; simp only [e, false_or]
  simp only [h2]
structure RoSt (N gs n : Nat) (D : List Nat) (gw cw : Nat) (stk : List (Nat × Nat)) (W : World) : Prop where
  seen : W.rowIs gs 3 n fun j => .int .i64 (colour D stk j : Nat)
  lo : N ≤ gs
  way : W.ownsRow N 86 2 (.slice (some ⟨gw, 0, none⟩) stk.length cw) stk.length (ocells stk.reverse)
  wgs : gw ≠ gs
theorem RoSt.kept {N gs n gw cw : Nat} {D : List Nat} {stk : List (Nat × Nat)} {W W' : World} (h : RoSt N gs n D gw cw stk W) (hb : ∀ g, N ≤ g → g < W.heap.size → W'.heap[g]? = W.heap[g]?) : RoSt N gs n D gw cw stk W' := by
  obtain ⟨hw1, hw2, hw3, cur, hw4⟩ := ownsRow_block h.way
  exact ⟨h.seen.of_block (hb gs h.lo h.seen.lt), h.lo, ownsRow_same h.way fun g hg hl => hb g (by cases hg; exact hw1) hl, h.wgs⟩
theorem RoSt.below {N gs n gw cw : Nat} {D : List Nat} {stk : List (Nat × Nat)} {W W' : World} (h : RoSt N gs n D gw cw stk W) (hb : Below W.heap.size W W') : RoSt N gs n D gw cw stk W' := h.kept fun g _ hl => hb.block g hl
theorem RoSt.top {N gs n gw cw i c : Nat} {D : List Nat} {stk : List (Nat × Nat)} {W : World} (h : RoSt N gs n D gw cw ((i, c) :: stk) W) :
    W.cell? ⟨gw, stk.length * 2, none⟩ = some (.int .i64 (i : Int)) ∧ W.cell? ⟨gw, stk.length * 2 + 1, none⟩ = some (.int .i64 (c : Int)) ∧ W.frozen? ⟨gw, stk.length * 2 + 1, none⟩ = false := by
  have hl := ocells_len stk.reverse
  rw [List.length_reverse] at hl
  have h1 := h.way.cellAt (stk.length * 2) (by simp only [List.length_cons]; omega)
  have h2 := h.way.cellAt (stk.length * 2 + 1) (by simp only [List.length_cons]; omega)
  rw [List.reverse_cons, ocells_snoc] at h1 h2
  rw [List.getElem?_append_right (by omega), hl] at h1 h2
  exact ⟨by simpa using h1, by simpa using h2, h.way.frozenAt _⟩
theorem RoSt.incr {N gs n gw cw i c : Nat} {D : List Nat} {stk : List (Nat × Nat)} {W : World} (h : RoSt N gs n D gw cw ((i, c) :: stk) W) :
    RoSt N gs n D gw cw ((i, c + 1) :: stk) (W.setCell ⟨gw, stk.length * 2 + 1, none⟩ (.int .i64 ((c : Int) + 1))) ∧ W.grownBy (W.setCell ⟨gw, stk.length * 2 + 1, none⟩ (.int .i64 ((c : Int) + 1))) (some gw) := by
  have hl := ocells_len stk.reverse
  rw [List.length_reverse] at hl
  obtain ⟨h1, h2⟩ := h.way.stored (stk.length * 2 + 1) (.int .i64 ((c : Int) + 1))
  refine ⟨⟨?_, h.lo, ?_, h.wgs⟩, h2⟩
  · exact (h.seen.of_block (Below.heap_setCell W ⟨gw, stk.length * 2 + 1, none⟩ _ gs (Ne.symm h.wgs))).congr fun j _ => by rw [colour_top D i c (c + 1) stk j]
  · rw [List.reverse_cons, ocells_snoc, List.set_append_right _ _ (by omega), hl] at h1
    rw [List.reverse_cons, ocells_snoc]
    simpa [show stk.length * 2 + 1 - stk.length * 2 = 1 by omega] using h1
theorem RoSt.done {N gs n gw cw i c : Nat} {D : List Nat} {stk : List (Nat × Nat)} {W : World} (h : RoSt N gs n D gw cw ((i, c) :: stk) W) : RoSt N gs n (i :: D) gw cw stk (W.setCell ⟨gs, i, none⟩ (.int .i64 2)) := by
  have hg : W.grownBy (W.setCell ⟨gs, i, none⟩ (.int .i64 2)) (some gs) := ⟨rfl, rfl, rfl, by simp, fun k _ hk => Below.heap_setCell W ⟨gs, i, none⟩ _ k (by intro e; exact hk (by simp [e]))⟩
  refine ⟨(h.seen.set i (.int .i64 2)).congr fun j _ => ?_, h.lo, ?_, h.wgs⟩
  · by_cases e : j = i
    · simp [e, colour]
    · rw [if_neg e, colour_done D c stk e]
  · refine ownsRow_pop (last := [Value.int .i64 (i : Int), Value.int .i64 (c : Int)]) (by rw [ocells_len]; simp) ?_
    have h1 := h.way.kept hg (.inr (by simpa [Value.ownBlock] using h.wgs))
    rw [List.reverse_cons, ocells_snoc] at h1
    simpa using h1
/-- A node is opened. -/
theorem RoSt.mark {N gs n gw cw k : Nat} {D : List Nat} {stk : List (Nat × Nat)} {W : World} (h : RoSt N gs n D gw cw stk W) (hk : k ∉ D) :
    (W.setCell ⟨gs, k, none⟩ (.int .i64 1)).rowIs gs 3 n (fun j => .int .i64 (colour D ((k, 0) :: stk) j : Nat)) ∧ (W.setCell ⟨gs, k, none⟩ (.int .i64 1)).ownsRow N 86 2 (.slice (some ⟨gw, 0, none⟩) stk.length cw) stk.length (ocells stk.reverse) := by
  have hg : W.grownBy (W.setCell ⟨gs, k, none⟩ (.int .i64 1)) (some gs) := ⟨rfl, rfl, rfl, by simp, fun g _ hk => Below.heap_setCell W ⟨gs, k, none⟩ _ g (by intro e; exact hk (by simp [e]))⟩
  refine ⟨(h.seen.set k (.int .i64 1)).congr fun j _ => ?_, h.way.kept hg (.inr (by simpa [Value.ownBlock] using h.wgs))⟩
  by_cases e : j = k
  · simp [e, colour, hk]
  · rw [if_neg e, colour_open D stk e]
theorem wpListIn_appR {F : Fence} {rm : Nat} {wr : World} {ops : Array Oper} {rest : List Oper} {o : Oper} {a : Act} {Q : Exit → Act → World → Prop} (hgd : o.guard = none) (s x : Operand) (t : TypeId)
    (ho : o.op = .call { callee := .builtin .append, args := #[s, x], argTypes := #[t, t] }) (ht : Tryd.prog.underlying t = some (.slice 86)) {N k gs n gw cw : Nat} {f : Nat → Value} {stk : List (Nat × Nat)} (z : Nat)
    (hs : a.eval s = .slice (some ⟨gw, 0, none⟩) stk.length cw) (hsee : wr.rowIs gs 3 n f) (hway : wr.ownsRow N 86 2 (.slice (some ⟨gw, 0, none⟩) stk.length cw) stk.length (ocells stk.reverse)) (hne : gw ≠ gs) (hk : k < N)
    (n0 : Nat) (hn0 : n0 = wr.heap.size) (hx : a.eval x = .slice (some ⟨n0, 0, none⟩) 1 1) (hl : stk.length ≤ 1000000000)
    (K : ∀ gw' cw' w', w'.rowIs gs 3 n f → w'.ownsRow N 86 2 (.slice (some ⟨gw', 0, none⟩) (stk.length + 1) cw') (stk.length + 1) (ocells ((z, 0) :: stk).reverse) → gw' ≠ gs → Frm N k wr w' → KeepsOthers wr w' → wpListIn F rm Tryd.prog ops Q rest (a.put o.dst (.slice (some ⟨gw', 0, none⟩) (stk.length + 1) cw')) w') :
    wpListIn F rm Tryd.prog ops Q (o :: rest) a (wr.alloc (.cells #[.int .i64 (z : Int), .int .i64 0] 86)) := by
  obtain ⟨i0, hi, hz0, hz1, hz2⟩ := info_parts Tryd.infoOpen
  obtain ⟨hw1, hw2, hw3, cur, hw4⟩ := ownsRow_block hway
  have hgs := hsee.lt
  have hA : Below wr.heap.size wr (wr.alloc (.cells #[.int .i64 (z : Int), .int .i64 0] 86)) := (Below.refl _ wr).alloc (Nat.le_refl _) _
  have hall := hway.alloc (.cells #[.int .i64 (z : Int), .int .i64 0] 86)
  refine wpListIn_append_own_at _ hgd s x t ho N _ i0 _ 2 16 ht hi hz0 hz1 hz2 rfl (by decide) _ _ _ hs hall ⟨n0, 0, none⟩ 1 1 [.int .i64 (z : Int), .int .i64 0] hx rfl ?_ (fun u hu => by simp at hu; rcases hu with rfl | rfl <;> rfl) (by unfold maxLen; omega) (by omega) (by simp; omega) ?_
  · intro j u hj
    match j, hj with
    | 0, hj => simp at hj; subst hj; subst hn0; simp [Addr.add]
    | 1, hj => simp at hj; subst hj; subst hn0; simp [Addr.add]
    | j + 2, hj => simp at hj
  · intro v' w' h1 h2 h3 h4
    have hg2 : (wr.alloc (.cells #[.int .i64 (z : Int), .int .i64 0] 86)).grownBy w' (some gw) := h2
    have hF : Frm N k (wr.alloc (.cells #[.int .i64 (z : Int), .int .i64 0] 86)) w' := .grown hg2 hw1 (by omega)
    have hv : ∃ gw' cw', v' = .slice (some ⟨gw', 0, none⟩) (stk.length + 1) cw' ∧ (gw' = gw ∨ gw' = wr.heap.size + 1) := by
      rcases h1.2 with ⟨_, h0⟩ | ⟨g', cap', cur', hv, _⟩
      · omega
      · refine ⟨g', cap', hv, ?_⟩
        subst hv
        simpa [Value.ownBlock] using h4
    obtain ⟨gw', cw', rfl, hgw⟩ := hv
    refine K gw' cw' w' ((hsee.alloc _).of_block (hg2.block gs (by simp; omega) (by intro e; cases e; exact hne rfl))) ?_ ?_ ((Frm.of_below hA).trans hF) ((keeps_of_below hA).trans (keeps_grown hall hg2))
    · rw [List.reverse_cons, ocells_snoc]
      simpa using h1
    · omega
/-- What a body is handed. -/
structure RTold where
  flag : Bool
  gs : Nat
  gw : Nat
  cw : Nat
  D : List Nat
  stk : List (Nat × Nat)
structure CalR (C : World → Prop) (N : Nat) (G : Gr) (NA RA : Option Addr) (nc m rc root B1 B2 : Nat) : Prop where
  frm : ∀ W W', C W → Frm N B1 W W' → C W'
  lt : B1 < N ∧ ∀ W, C W → N ≤ W.heap.size
  cells : ∀ W, C W → W.cell? ⟨B1, 0, none⟩ = some (.slice NA G.nodes.length nc) ∧ W.cell? ⟨B1, 1, none⟩ = some (.slice RA m rc) ∧ W.cell? ⟨B2, 0, none⟩ = some (.int .i64 root)
  nodes : ∀ W, C W → NdsAt W N NA G.nodes
def RouRd (C : World → Prop) (N n : Nat) (s : RTold) (W : World) : Prop := C W ∧ RoSt N s.gs n s.D s.gw s.cw s.stk W
theorem wpIn_still {F : Fence} {rm : Nat} {P : Program} {c : Code} {a A : Act} {w w2 : World} {Q : Exit → Act → World → Prop} (h : c.wpIn F rm P (fun e a' w' => e = .normal ∧ w' = w2 ∧ a' = A) a w) (hq : Q .normal A w2) : c.wpIn F rm P Q a w :=
  wpIn_mono h fun e a' w' ⟨h1, h2, h3⟩ => by subst h1; subst h2; subst h3; exact hq
set_option maxRecDepth 100000 in
set_option maxHeartbeats 2000000 in
theorem rouIter (G : Gr) (NA RA : Option Addr) (nc m rc root lp B1 B2 N : Nat) (C : World → Prop) (L : Code → World → Prop) (W : World) (hR : RightG G) (hr : root < G.nodes.length) (hC : CalR C N G NA RA nc m rc root B1 B2) (h0 : C W) (hN : N = W.heap.size)
    (Bk : World → Prop) (Bx : Code → World → Prop) (keep : ∀ A B, KeepsOthers A B → Bk A → Bk B)
    (hY : ∀ (s : RTold) (W1 : World), RouRd C N G.nodes.length s W1 → Bk W1 → YieldAt Fence.wide (3 - 1 - 1) Tryd.prog lp #[.bool s.flag] W1 fun e W' =>
      (e = .returned (.bool true) ∧ (s.flag = false ∧ RouRd C N G.nodes.length s W') ∧ Bk W') ∨ (e = .returned (.bool false) ∧ ∃ cd, (s.flag = true ∧ L cd W') ∧ Bx cd W'))
    (hk : Bk W) :
    CallsIn Fence.wide (3 - 1) Tryd.prog 70 #[.func (.yield lp) #[] #[], .pointer (some ⟨B1, 0, none⟩), .pointer (some ⟨B2, 0, none⟩)] W fun e W' => (∃ v, e = .returned v) ∧
      (((cycL G root = false ∧ C W') ∧ Bk W') ∨ (∃ cd, (cycL G root = true ∧ L cd W') ∧ Bx cd W')) := by
  obtain ⟨c0, c1, c2⟩ := hC.cells _ h0
  have hn := hR.nodes
  have hmake := run_make_row' (P := Tryd.prog) 23 3 (.int .i64 0) 8 rfl Tryd.infoIntZ rfl .i64 .i64 G.nodes.length (by omega) (by omega) W
  obtain ⟨V, hV, hWV, hrow, hsV⟩ := rowM W (.int .i64 0) G.nodes.length 3
  rw [hV] at hmake
  have hCV : C V := hC.frm _ _ h0 (.of_below hWV)
  have d2 := (hC.cells _ hCV).2.2
  have hr0 := hrow.cell hr
  have hf0 := hrow.frozen root
  obtain ⟨V2, hV2⟩ : ∃ V2, V.setCell ⟨W.heap.size, root, none⟩ (.int .i64 1) = V2 := ⟨_, rfl⟩
  have hF2 : Frm N B1 V V2 := by rw [← hV2]; exact .setCell V (a := ⟨W.heap.size, root, none⟩) _ (by show N ≤ W.heap.size; omega) (by show W.heap.size ≠ B1; have := hC.lt.1; omega)
  have hC2 : C V2 := hC.frm _ _ hCV hF2
  have hs2 : V2.heap.size = V.heap.size := by rw [← hV2]; simp
  have hk2 : KeepsOthers V V2 := by rw [← hV2]; exact KeepsOthers.setCell _ _ _
  have hrow2 : V2.rowIs N 3 G.nodes.length fun j => .int .i64 (colour [] [(root, 0)] j : Nat) := by
    rw [← hV2, hN]
    refine (hrow.set root (.int .i64 1)).congr fun j _ => ?_
    by_cases e : j = root <;> simp [colour, e]
  have e2 := (hC.cells _ hC2).2.2
  obtain ⟨X, hX⟩ : ∃ X, V2.alloc (.cells #[.int .i64 root, .int .i64 0] 86) = X := ⟨_, rfl⟩
  have hVX : Below V2.heap.size V2 X := by rw [← hX]; exact (Below.refl _ V2).alloc (Nat.le_refl _) _
  have hCX : C X := hC.frm _ _ hC2 (.of_below hVX)
  have hkX : Bk X := keep _ _ (((keeps_of_below hWV).trans hk2).trans (keeps_of_below hVX)) hk
  have hI : RoSt N N G.nodes.length [] (N + 1) 1 [(root, 0)] X := by
    refine ⟨hrow2.of_block (hVX.block N hrow2.lt), Nat.le_refl _, ?_, by omega⟩
    have := World.ownsRow_lit (base := N) (size := 2) (e := 86) V2 #[.int .i64 root, .int .i64 0] 1 (by omega) (by decide) rfl
    rw [hX, hs2, hsV, ← hN] at this
    simpa [ocells] using this
  have hsV' : V2.heap.size = N + 1 := by omega
  have HI := Lib.hid hI
  have HCX := Lib.hid hCX
  have HkX := Lib.hid hkX
  have HWay : Hid (Rnd (kidN G) G.nodes.length root (cycL G root) 40001 [] [(root, 0)]) := hR.rnd hr
  obtain ⟨T, hT⟩ : ∃ T, cycL G root = T := ⟨_, rfl⟩
  rw [hT] at HWay ⊢
  clear hI hCX hkX hVX hrow hWV hV hsV hCV hk h0 hT hC2 hs2 hk2 hrow2 hF2
  rw [← hN] at hmake hr0 hf0 hV2
  clear hN
  refine callsIn_of_wp Tryd.func70 rfl trivial ?_ rfl
  simp only [Tryd.ntmps70, List.size_toArray, List.length_cons, List.length_nil, Nat.reduceAdd, Nat.reduceSub, Array.replicate_succ, Array.replicate_zero, List.push_toArray, List.append_toArray, List.nil_append, List.cons_append]
  gi_wp2
  gi_loopg [5] 40001 (fun gk way wr => gk ≤ 40001 ∧ ∃ (D : List Nat) (stk : List (Nat × Nat)) (gw cw : Nat), way = .slice (some ⟨gw, 0, none⟩) stk.length cw ∧ Hid (Rnd (kidN G) G.nodes.length root T gk D stk) ∧ Hid (RoSt N N G.nodes.length D gw cw stk wr) ∧ Hid (C wr) ∧ Hid (Bk wr))
  case atStart => exact ⟨Nat.le_refl _, [], [(root, 0)], N + 1, 1, rfl, HWay, HI, HCX, HkX⟩
  case round =>
    obtain ⟨hgk, D, stk, gw, cw, rfl, hw, hit, hc, hbk⟩ := hrel
    obtain ⟨e0, e1, e2⟩ := hC.cells _ hc.out
    clear d2 c0 c1 c2 hmake hX hsV' HI HCX HkX HWay hV2 hr0 hf0
    cases stk with
    | nil =>
      have HT : Hid (T = false) := hw.out.fin.1
      clear hC hY
      gi_wp2
      refine bodyPost_end (results_none rfl _ _ _) rfl ?_
      exact ⟨⟨_, rfl⟩, .inl ⟨⟨HT.out, hc.out⟩, hbk.out⟩⟩
    | cons e stk =>
      obtain ⟨i, c⟩ := e
      obtain ⟨t0, t1, t2⟩ := hit.out.top
      obtain ⟨hil, hcl⟩ := hw.out.slt _ List.mem_cons_self
      simp only at hil hcl
      have hcw := (ownsRow_block hit.out.way).2.2.1
      simp only [List.length_cons] at hcw
      have hsl : stk.length < 40001 := by
        have h1 := hw.out.room
        have h2 : ∀ l : List (Nat × Nat), l.length ≤ openK (kidN G) l := by
          intro l
          induction l with
          | nil => simp [openK]
          | cons a l ih => simp [openK] at ih ⊢; omega
        have h3 := h2 ((i, c) :: stk)
        simp at h3; omega
      have hw64 : wrap64 (stk.length : Int) = stk.length := IntWalk.wrap64_in _ (by omega)
      obtain ⟨b, off, rfl, hbl, hnds⟩ := hC.nodes _ hc.out (by omega)
      obtain ⟨K, kc, hnd⟩ := hnds i hil
      obtain ⟨kl, hkl⟩ : ∃ l, (nd G.nodes i).kids = l := ⟨_, rfl⟩
      have HKN : Hid (kidN G i = kl.map Int.toNat) := by rw [← hkl]; rfl
      have HKr : Hid (∀ z ∈ kl, 0 ≤ z ∧ z < G.nodes.length) := by rw [← hkl]; exact hR.kids i hil
      have hkids := hnd.kids
      have hc3 := hnd.c3
      rw [hkl] at hkids hc3
      rw [HKN.out, List.length_map] at hcl
      have HKd := Lib.hid hkids
      have HC := Lib.hid hC
      have HY := Lib.hid hY
      have hkm : kl.length ≤ 20001 := by
        have h1 := restK_all (kids := kidN G) [i] [] (by simp) (by simpa using hil)
        rw [restK_sum G _ (Nat.le_refl _), List.take_length] at h1
        have := hR.sum
        simp [HKN.out] at h1
        omega
      clear hnds hnd hkids hkl hC hY hbl
      gi_wp2
      apply wpIn_still (w2 := wr.drew)
      · gi_region
        all_goals exact ⟨rfl, rfl, rfl⟩
      · obtain ⟨wd, hwd⟩ : ∃ wd, wr.drew = wd := ⟨_, rfl⟩
        rw [hwd]
        have hBd : Below wr.heap.size wr wd := by rw [← hwd]; exact (Below.refl _ _).drew
        have hitd := hit.out.below hBd
        have hcd := HC.out.frm _ _ hc.out (.of_below hBd)
        have hbd := keep _ _ (keeps_of_below hBd) hbk.out
        have HKd2 : Hid (IntsAt wd N K kl) := HKd.out.below (hBd.mono (HC.out.lt.2 _ hc.out)) (Nat.le_refl _)
        have hsz := HC.out.lt.2 _ hcd
        obtain ⟨t0, t1, t2⟩ := hitd.top
        obtain ⟨e0, e1, e2⟩ := HC.out.cells _ hcd
        have hsee := hitd.seen.cell hil
        have hfz := hitd.seen.frozen i
        have Hit := Lib.hid hitd
        have Hc := Lib.hid hcd
        have Hbk := Lib.hid hbd
        clear hwd hBd hitd hcd hbd hit hc hbk HKd hc3
        by_cases hce : c = kl.length
        · subst hce
          obtain ⟨g, rfl, hw2⟩ := hw.out.pop (by rw [HKN.out]; simp)
          have HW2 := Lib.hid hw2
          have HI2 := Lib.hid Hit.out.done
          have HC2 : Hid (C (wd.setCell ⟨N, i, none⟩ (.int .i64 2))) := HC.out.frm _ _ Hc.out (.setCell wd (a := ⟨N, i, none⟩) _ (Nat.le_refl _) (by show N ≠ B1; have := HC.out.lt.1; omega))
          have HB2 : Hid (Bk (wd.setCell ⟨N, i, none⟩ (.int .i64 2))) := keep _ _ (KeepsOthers.setCell _ _ _) Hbk.out
          have y0 : (wd.setCell ⟨N, i, none⟩ (.int .i64 2)).cell? ⟨gw, stk.length * 2, none⟩ = some (.int .i64 (i : Int)) := (World.cell?_of_block (Below.heap_setCell wd ⟨N, i, none⟩ _ gw Hit.out.wgs)).trans t0
          clear hw hw2
          gi_wp2
          gi_roundg g
          case rel => exact ⟨by omega, i :: D, stk, gw, cw, rfl, HW2, HI2, HC2, HB2⟩
          case measure => omega
        · have hclt : c < kl.length := by omega
          obtain ⟨bK, oK, rfl, hbK, hcK⟩ := HKd2.out (by omega)
          have hcj := hcK c hclt
          obtain ⟨z, hz⟩ : ∃ z : Nat, nth kl c = (z : Int) := ⟨(nth kl c).toNat, by have := (HKr.out _ (nth_mem hclt)).1; omega⟩
          have hzn : z < G.nodes.length := by have := (HKr.out _ (nth_mem hclt)).2; omega
          have HKz : Hid ((kidN G i)[c]? = some z) := by show _ = _; rw [HKN.out, List.getElem?_map, List.getElem?_eq_getElem hclt, ← nth_eq hclt, hz]; simp
          rw [hz] at hcj
          have hcne : ((c : Int) == (kl.length : Int)) = false := beq_eq_false_iff_ne.2 (by omega)
          have hcw1 : wrap64 ((c : Int) + 1) = c + 1 := IntWalk.wrap64_in _ (by omega)
          obtain ⟨hI2, hg2⟩ := Hit.out.incr
          obtain ⟨wi, hwi⟩ : ∃ wi, wd.setCell ⟨gw, stk.length * 2 + 1, none⟩ (.int .i64 ((c : Int) + 1)) = wi := ⟨_, rfl⟩
          rw [hwi] at hI2 hg2
          have hgN := (ownsRow_block Hit.out.way).1
          have HCi : Hid (C wi) := HC.out.frm _ _ Hc.out (.grown hg2 hgN (by have := HC.out.lt.1; omega))
          have HBi : Hid (Bk wi) := keep _ _ (keeps_grown Hit.out.way hg2) Hbk.out
          have hci := hI2.seen.cell hzn
          have HIi := Lib.hid hI2
          have hkn : kidN G i = kidN G i := rfl
          clear hcK hz hI2 hg2 hgN hsee hfz hkn
          by_cases hzD : z ∈ D
          · have hcol : colour D ((i, c + 1) :: stk) z = 2 := by unfold colour; rw [if_pos hzD]
            rw [hcol] at hci
            obtain ⟨g, rfl, hw2⟩ := hw.out.skip HKz.out hzD
            have HW2 := Lib.hid hw2
            obtain ⟨fn, tmps, assign, body, hy, hR⟩ := HY.out ⟨false, N, gw, cw, D, (i, c + 1) :: stk⟩ wi ⟨HCi.out, HIi.out⟩ HBi.out
            have HRr := Lib.hid hR
            have Hgk := Lib.hid hgk
            have Hhil := Lib.hid hil
            have Hsl := Lib.hid hsl
            clear hw hw2 hR hcol hgk hkm hcl hcw hw64 hsl hil hn hce hsz
            gi_wp2
            refine HRr.out.mono ?_
            rintro e W3 (⟨rfl, ⟨_, hc3, hi3⟩, hk3⟩ | ⟨rfl, cd, ⟨hF, _⟩, _⟩)
            · have Hc3 := Lib.hid hc3
              have Hi3 := Lib.hid hi3
              have Hk3 := Lib.hid hk3
              clear hc3 hi3 hk3
              gi_wp2
              gi_roundg g
              case rel => exact ⟨by have := Hgk.out; omega, D, (i, c + 1) :: stk, gw, cw, rfl, HW2, Hi3, Hc3, Hk3⟩
              case measure => omega
            · cases hF
          · by_cases hzs : z = i ∨ z ∈ stk.map (·.1)
            · have hcol : colour D ((i, c + 1) :: stk) z = 1 := by unfold colour; rw [if_neg hzD, if_pos (by rw [List.map_cons, List.mem_cons]; exact hzs)]
              rw [hcol] at hci
              have hT1 := Lib.hid (hw.out.hit HKz.out hzD hzs).1
              obtain ⟨fn, tmps, assign, body, hy, hR⟩ := HY.out ⟨true, N, gw, cw, D, (i, c + 1) :: stk⟩ wi ⟨HCi.out, HIi.out⟩ HBi.out
              have HRr := Lib.hid hR
              clear hw hR hcol hgk hkm hcl hcw hw64 hsl hil hn hce hsz
              gi_wp2
              refine HRr.out.mono ?_
              rintro e W3 (⟨rfl, ⟨hF, _⟩, _⟩ | ⟨rfl, cd, ⟨_, hL⟩, hBx⟩)
              · cases hF
              · gi_wp2
                refine bodyPost_ret (results_none rfl _ _ _) rfl ?_
                exact ⟨⟨_, rfl⟩, .inr ⟨cd, ⟨hT1.out, hL⟩, hBx⟩⟩
            · have hcol : colour D ((i, c + 1) :: stk) z = 0 := by unfold colour; rw [if_neg hzD, if_neg (by rw [List.map_cons, List.mem_cons]; exact hzs)]
              rw [hcol] at hci
              obtain ⟨g, rfl, hw2⟩ := hw.out.push HKz.out hzD hzn hzs
              have HW2 := Lib.hid hw2
              have HzD := Lib.hid hzD
              obtain ⟨fn, tmps, assign, body, hy, hR⟩ := HY.out ⟨false, N, gw, cw, D, (i, c + 1) :: stk⟩ wi ⟨HCi.out, HIi.out⟩ HBi.out
              have HRr := Lib.hid hR
              have Hgk := Lib.hid hgk
              have Hsl := Lib.hid hsl
              have Hzn := Lib.hid hzn
              clear hw hw2 hR hcol hgk hkm hcl hcw hw64 hsl hil hn hce hsz hzs hzD
              gi_wp2
              refine HRr.out.mono ?_
              rintro e W3 (⟨rfl, ⟨_, hc3, hi3⟩, hk3⟩ | ⟨rfl, cd, ⟨hF, _⟩, _⟩)
              · simp only at hi3
                obtain ⟨hm1, hm2⟩ := hi3.mark HzD.out
                have hfz := hi3.seen.frozen z
                have hsee := hi3.seen.cell hzn
                have hwg := hi3.wgs
                obtain ⟨W4, hW4⟩ : ∃ W4, W3.setCell ⟨N, z, none⟩ (.int .i64 1) = W4 := ⟨_, rfl⟩
                rw [hW4] at hm1 hm2
                have hF4 : Frm N B1 W3 W4 := by rw [← hW4]; exact .setCell W3 (a := ⟨N, z, none⟩) _ (Nat.le_refl _) (by show N ≠ B1; have := HC.out.lt.1; omega)
                have HK4 : Hid (KeepsOthers W3 W4) := by rw [← hW4]; exact KeepsOthers.setCell _ _ _
                have HC4 := Lib.hid (HC.out.frm _ _ hc3 hF4)
                have HB4 := Lib.hid (keep _ _ HK4.out hk3)
                have hB1 := HC.out.lt.1
                have hl4 : ((i, c + 1) :: stk).length ≤ 1000000000 := by have := Hsl.out; simp; omega
                have hs4 : W4.heap.size = W3.heap.size := by rw [← hW4]; simp
                clear hc3 hi3 hk3 hF4
                gi_wp2_with (gi_at_builtin; refine wpListIn_appR rfl _ _ _ rfl rfl z rfl hm1 hm2 hwg hB1 _ hs4.symm rfl hl4 ?_; intro gw5 cw5 w5 hr5 ho5 hn5 hf5 hk5)
                gi_roundg g
                case rel => exact ⟨by have := Hgk.out; omega, D, (z, 0) :: (i, c + 1) :: stk, gw5, cw5, by simp, HW2, ⟨hr5, Nat.le_refl _, by simpa using ho5, hn5⟩, Lib.hid (HC.out.frm _ _ HC4.out hf5), Lib.hid (keep _ _ hk5 HB4.out)⟩
                case measure => omega
              · cases hF
end Go.Proofs.YtdcbngimgpdjoaaDoor
