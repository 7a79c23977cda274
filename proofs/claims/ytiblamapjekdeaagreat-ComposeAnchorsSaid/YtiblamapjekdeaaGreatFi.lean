/- The program's begin: a collection begins. No condition but the sizes. -/
import Derived.Test.YtiblamapjekdeaaGreatFf
namespace Go.Proofs.YtiblamapjekdeaaGreat
open Go.RowKit
attribute [local go_sem] Oper.semAt_some
theorem boxV (w : World) (x : Ev) : ∃ V, w.alloc (.cells #[.int .i64 x.kind, .string x.text, .string x.tag, .string x.anchor, .int .i64 x.style, .bool x.flag] 41) = V ∧ Below w.heap.size w V ∧ V.heap[w.heap.size]? = some (.cells #[.int .i64 x.kind, .string x.text, .string x.tag, .string x.anchor, .int .i64 x.style, .bool x.flag] 41 (0, 0)) ∧ V.heap.size = w.heap.size + 1 :=
  ⟨_, rfl, (Below.refl _ w).alloc (Nat.le_refl _) _, heap_alloc_new w _, by simp⟩
abbrev evV (x : Ev) : Value := .agg #[.int .i64 x.kind, .string x.text, .string x.tag, .string x.anchor, .int .i64 x.style, .bool x.flag]
abbrev begN (k : Int) (x : Ev) : Nd := ⟨k, x.tag, ⟨#[]⟩, [], false⟩
/-- What begin tells. -/
def DidG (N bb : Nat) (s : Mk) (e : Nd) (a : ByteArray) (d n : Int) (W : World) (r : Ending) (w' : World) : Prop :=
  (d ≤ (s.way.length : Int) ∧ r = .returned (.int .i64 8) ∧ Below N W w') ∨
  ((s.way.length : Int) < d ∧ n ≤ (s.nodes.length : Int) ∧ r = .returned (.int .i64 9) ∧ Below N W w') ∨
  ((s.way.length : Int) < d ∧ (s.nodes.length : Int) < n ∧ r = .returned (.int .i64 0) ∧ Bd w' N bb { newNode e a s with way := s.way ++ [s.nodes.length] } d n ∧ Below N W w')
theorem newNode_sz {s : Mk} {k : Nat} (h : s.Sz k) (e : Nd) (hk : e.kids = []) (a : ByteArray) : (newNode e a s).Sz (k + 1) := by
  have hp : ∀ (t : Mk) (i : Nat), t.Sz (k + 1) → t.nodes.length ≤ k + 1 → t.roots.length ≤ k → (∀ u, (nd t.nodes u).kids.length ≤ k) → (place i t).Sz (k + 1) := fun t i ht _ hr hkk => by
    unfold place
    split
    · exact ⟨ht.nodes, by simp; omega, ht.way, ht.names, ht.kids⟩
    · rename_i u _
      refine ⟨by simpa using ht.nodes, ht.roots, ht.way, ht.names, fun v => ?_⟩
      show (nd (t.nodes.modify u (addKid i)) v).kids.length ≤ k + 1
      by_cases hu : u < t.nodes.length
      · rw [nd_modify _ _ _ _ hu]
        split
        · show ((nd t.nodes u).kids ++ [(i : Int)]).length ≤ k + 1
          rw [List.length_append]; have := hkk u; simp; omega
        · exact Nat.le_succ_of_le (hkk v)
      · rw [List.modify_eq_self (by omega)]; exact Nat.le_succ_of_le (hkk v)
  have hkk : ∀ u, (nd (s.nodes ++ [e]) u).kids.length ≤ k := fun u => by
    by_cases hu : u < s.nodes.length
    · have : nd (s.nodes ++ [e]) u = nd s.nodes u := by simp [nd, List.getElem?_append_left hu]
      rw [this]; exact h.kids u
    · simp only [nd, List.getD_eq_getElem?_getD]
      rw [List.getElem?_append_right (by omega)]
      by_cases h0 : u - s.nodes.length = 0
      · rw [h0]; simp [hk]
      · rw [List.getElem?_eq_none (by simp; omega)]; exact Nat.zero_le _
  have h1 := hp { s with nodes := s.nodes ++ [e] } s.nodes.length (h.more e hk) (by simp; exact h.nodes) h.roots hkk
  unfold newNode
  simp only
  split
  · exact h1
  · refine ⟨h1.nodes, h1.roots, h1.way, ?_, h1.kids⟩
    simp only [List.length_append, place_names, List.length_singleton]
    have := h.names; omega
/-- What node tells where a collection begins: with the row's append to come. -/
def DidO (N bb : Nat) (s : Mk) (e : Nd) (a : ByteArray) (d n : Int) (W : World) (r : Ending) (w' : World) : Prop :=
  (n ≤ (s.nodes.length : Int) ∧ r = .returned (.tuple #[.int .i64 0, .int .i64 9]) ∧ Below N W w') ∨
  ∃ v A c w4, (s.nodes.length : Int) < n ∧ r = .returned (.tuple #[.int .i64 (s.nodes.length : Int), .int .i64 0]) ∧ w'.cell? ⟨bb, 3, none⟩ = some v ∧
    (w'.alloc (.cells #[.int .i64 (s.nodes.length : Int)] 3)).cell? ⟨bb, 3, none⟩ = some v ∧
    (Builtin.append_ #[26, 26] 26 #[v, .slice (some ⟨w'.heap.size, 0, none⟩) 1 1]).run Tryz.prog (w'.alloc (.cells #[.int .i64 (s.nodes.length : Int)] 3)) = .ok (.slice A (s.way.length + 1) c) w4 ∧
    w4.cell? ⟨bb, 3, none⟩ = some v ∧ w4.frozen? ⟨bb, 3, none⟩ = false ∧ Bd (w4.setCell ⟨bb, 3, none⟩ (.slice A (s.way.length + 1) c)) N bb { newNode e a s with way := s.way ++ [s.nodes.length] } d n ∧ Below N W (w4.setCell ⟨bb, 3, none⟩ (.slice A (s.way.length + 1) c))
theorem DidN.more {N bb : Nat} {s : Mk} {e : Nd} {a : ByteArray} {d n : Int} {W : World} {r : Ending} {w' : World} (h : DidN N bb s e a d n W r w') (hs : s.Sz 1800000) (hk : e.kids = []) : DidO N bb s e a d n W r w' := by
  rcases h with h | ⟨h1, h2, ⟨R, m, h3⟩, h4⟩
  · exact .inl h
  · obtain ⟨A, c, w4, hrun, k3, f3, hbd, hbel⟩ := h3.open ((newNode_sz hs e hk a).mono (by omega)) s.nodes.length
    rw [newNode_way] at hrun hbd hbel
    obtain ⟨_, _, _, c3, _, _, _, hbb⟩ := h3.cells
    exact .inr ⟨_, A, c, w4, h1, h2, c3, (((Below.refl _ _).alloc (Nat.le_refl _) _).cell (p := ⟨bb, 3, none⟩) hbb).trans c3, hrun, k3, f3, hbd, h4.trans hbel⟩
set_option maxRecDepth 100000 in
set_option maxHeartbeats 2000000 in
theorem begin_anyC (x : Ev) (kd : Int) (N bb : Nat) (s : Mk) (d n : Int) (W : World) (h : Bd W N bb s d n) (hs : s.Sz 1700000) (ok : s.Ok) (ha : x.anchor.size ≤ maxLen) :
    Calls Tryz.prog 34 #[.pointer (some ⟨bb, 0, none⟩), evV x, .int .i64 kd] W (DidG N bb s (begN kd x) x.anchor d n W) := by
  obtain ⟨V, hV, hbV, hrV, hsV⟩ := boxV W x
  have hN : N ≤ W.heap.size := by obtain ⟨R, m, h⟩ := h; exact h.lt
  have hV1 := h.below hbV
  obtain ⟨R, m, h1⟩ := hV1
  obtain ⟨WA, wc, hwv, _⟩ := h1.made.wayForm
  obtain ⟨_, _, _, c3, c4, _, _, _⟩ := h1.cells
  obtain ⟨q, hq⟩ : ∃ q, s.way.length = q := ⟨_, rfl⟩
  rw [hwv, hq] at c3
  have HW : Hid (∀ w', Below N V w' → Below N W w') := fun w' hw => (hbV.mono hN).trans hw
  have HV : Hid (∀ w', Below V.heap.size V w' → Bd w' N bb s d n ∧ Below N V w') := fun w' hw => ⟨⟨R, m, h1.below hw⟩, hw.mono h1.lt⟩
  have b2 := Lib.cell_of_heap hrV 2
  have b3 := Lib.cell_of_heap hrV 3
  have HNo : Hid (∀ w', Bd w' N bb s d n → Calls Tryz.prog 35 #[.pointer (some ⟨bb, 0, none⟩), .agg #[.int .i64 kd, .string x.tag, .string ⟨#[]⟩, .slice none 0 0, .bool false], .string x.anchor] w' (DidO N bb s (begN kd x) x.anchor d n w')) :=
    fun w' hw => (node_any (begN kd x) rfl x.anchor N bb s d n w' hw (hs.mono (by omega)) ok ha).mono fun _ _ h => h.more (hs.mono (by omega)) rfl
  have HS := Lib.hid (And.intro hs ok)
  have Hq := Lib.hid hq
  by_cases hd : d ≤ (q : Int)
  · have Hd := Lib.hid hd
    have hdd := decide_eq_true hd
    clear h h1 hs ok ha hwv hbV hrV hsV hq
    go_enter Tryz.func34, Tryz.ntmps34
    go_wp2_with fail
    go_quiet (fail)
    go_wp2_with fail
    go_ret
    exact .inl ⟨by rw [Hq.out]; exact Hd.out, rfl, HW.out _ (HV.out _ (below_drewN (Below.refl _ _) _)).2⟩
  · have Hd : Hid ((s.way.length : Int) < d) := by show (s.way.length : Int) < d; omega
    clear h h1 hs ok ha hwv hrV hsV hbV hq
    go_enter Tryz.func34, Tryz.ntmps34
    go_wp2_with fail
    go_quiet (fail)
    generalize hX : V.drewN _ = X
    have hVX : Below V.heap.size V X := by rw [← hX]; exact below_drewN (Below.refl _ _) _
    have HX := Lib.hid (HV.out X hVX)
    have e2 := (hVX.cell (p := ⟨W.heap.size, 2, none⟩) (by rw [← hV]; simp)).trans b2
    have e3 := (hVX.cell (p := ⟨W.heap.size, 3, none⟩) (by rw [← hV]; simp)).trans b3
    clear hVX hX c3 c4 b2 b3 hV HV
    go_wp2_with (first
      | (go_at_call 35; refine (HNo.out X HX.out.1).mono ?_; rintro r w3 (⟨hn3, rfl, hb3⟩ | ⟨v3, A3, c3, w4, hn3, rfl, k3, k3a, hrun, k4, f4, hbd4, hb4⟩))
      | (at_builtin; refine wpList_runA rfl _ _ 26 rfl _ _ _ rfl rfl hrun ?_))
    · go_ret
      exact .inr (.inl ⟨Hd.out, hn3, rfl, HW.out _ (HX.out.2.trans hb3)⟩)
    · go_ret
      exact .inr (.inr ⟨Hd.out, hn3, rfl, hbd4, HW.out _ (HX.out.2.trans hb4)⟩)
end Go.Proofs.YtiblamapjekdeaaGreat
/- The program's event: an event is taken. No condition but the sizes. -/
namespace Go.Proofs.YtiblamapjekdeaaGreat
open Go.RowKit
attribute [local go_sem] Oper.semAt_some
/-- What event tells. -/
def DidE (N bb : Nat) (d n : Int) (W : World) (m : Except Int Mk) (r : Ending) (w' : World) : Prop :=
  match m with
  | .error c => r = .returned (.int .i64 c) ∧ Below N W w'
  | .ok t => r = .returned (.int .i64 0) ∧ Bd w' N bb t d n ∧ Below N W w'
theorem isSome_none {α : Type} {r : Option α} (h : r.isSome = false) : r = none := by cases r <;> simp_all
set_option maxRecDepth 100000 in
set_option maxHeartbeats 1000000 in
theorem event_1 (x : Ev) (N bb : Nat) (s : Mk) (d n : Int) (W : World) (h : Bd W N bb s d n) (ha : x.anchor.size ≤ maxLen) (k1 : x.kind = 1) :
    Calls Tryz.prog 19 #[.pointer (some ⟨bb, 0, none⟩), evV x] W (DidE N bb d n W (mkStep d.toNat n.toNat s x)) := by
  obtain ⟨V, hV, hbV, hrV, hsV⟩ := boxV W x
  have hN : N ≤ W.heap.size := by obtain ⟨R, m, h⟩ := h; exact h.lt
  have hV1 := h.below hbV
  have HW : Hid (∀ w', Below N V w' → Below N W w') := fun w' hw => (hbV.mono hN).trans hw
  have b0 := Lib.cell_of_heap hrV 0
  have b1 := Lib.cell_of_heap hrV 1
  have b2 := Lib.cell_of_heap hrV 2
  have b3 := Lib.cell_of_heap hrV 3
  have b4 := Lib.cell_of_heap hrV 4
  have b5 := Lib.cell_of_heap hrV 5
  have hVl : W.heap.size < V.heap.size := by omega
  obtain ⟨kd, tx, tg, an, st, fl⟩ := x
  simp only at *
  clear h hbV hrV hsV
  subst k1
  obtain ⟨R, m, h1⟩ := hV1
  obtain ⟨R', h2, hbel⟩ := h1.named ⟨rfl, rfl, rfl, Nat.le_refl _, fun _ _ _ => rfl⟩ (.map none) (l := []) (.inl ⟨rfl, rfl⟩)
  obtain ⟨_, _, c2, _, _, _, hfz, _⟩ := h1.cells
  have f2 := hfz 2
  have HD := Lib.hid (And.intro h2 hbel)
  clear h1 h2 hbel hfz hN ha
  go_enter Tryz.func19, Tryz.ntmps19
  go_wp2_with fail
  go_ret
  exact ⟨rfl, ⟨_, _, HD.out.1⟩, HW.out _ HD.out.2⟩
set_option maxRecDepth 100000 in
set_option maxHeartbeats 1000000 in
theorem event_3 (x : Ev) (N bb : Nat) (s : Mk) (d n : Int) (W : World) (h : Bd W N bb s d n) (hs : s.Sz 1700000) (ok : s.Ok) (ha : x.anchor.size ≤ maxLen) (k3 : x.kind = 3) :
    Calls Tryz.prog 19 #[.pointer (some ⟨bb, 0, none⟩), evV x] W (DidE N bb d n W (mkStep d.toNat n.toNat s x)) := by
  obtain ⟨V, hV, hbV, hrV, hsV⟩ := boxV W x
  have hN : N ≤ W.heap.size := by obtain ⟨R, m, h⟩ := h; exact h.lt
  have hV1 := h.below hbV
  have HW : Hid (∀ w', Below N V w' → Below N W w') := fun w' hw => (hbV.mono hN).trans hw
  have b0 := Lib.cell_of_heap hrV 0
  have b1 := Lib.cell_of_heap hrV 1
  have b2 := Lib.cell_of_heap hrV 2
  have b3 := Lib.cell_of_heap hrV 3
  have b4 := Lib.cell_of_heap hrV 4
  have b5 := Lib.cell_of_heap hrV 5
  have hVl : W.heap.size < V.heap.size := by omega
  obtain ⟨kd, tx, tg, an, st, fl⟩ := x
  simp only at *
  clear h hbV hrV hsV
  subst k3
  have HB : Hid (Calls Tryz.prog 34 #[.pointer (some ⟨bb, 0, none⟩), .agg #[.int .i64 3, .string tx, .string tg, .string an, .int .i64 st, .bool fl], .int .i64 2] V (DidG N bb s (begN 2 ⟨3, tx, tg, an, st, fl⟩) an d n V)) := begin_anyC ⟨3, tx, tg, an, st, fl⟩ 2 N bb s d n V hV1 hs ok ha
  clear hV1 hs ok hN ha
  go_enter Tryz.func19, Tryz.ntmps19
  go_wp2_with (first
    | (go_at_call 34; refine HB.out.mono ?_; rintro r w3 (⟨hd3, rfl, hb3⟩ | ⟨hd3, hn3, rfl, hb3⟩ | ⟨hd3, hn3, rfl, hbd3, hb3⟩)))
  all_goals go_ret
  · have e : mkStep d.toNat n.toNat s ⟨3, tx, tg, an, st, fl⟩ = .error 8 := by unfold mkStep; simp only []; rw [if_neg (by decide), if_pos (by decide), if_pos (by omega)]
    rw [e]; exact ⟨rfl, HW.out _ hb3⟩
  · have e : mkStep d.toNat n.toNat s ⟨3, tx, tg, an, st, fl⟩ = .error 9 := by unfold mkStep; simp only []; rw [if_neg (by decide), if_pos (by decide), if_neg (by omega), if_pos (by omega)]
    rw [e]; exact ⟨rfl, HW.out _ hb3⟩
  · have e : mkStep d.toNat n.toNat s ⟨3, tx, tg, an, st, fl⟩ = .ok { newNode (nodeK ⟨3, tx, tg, an, st, fl⟩) an s with way := s.way ++ [s.nodes.length] } := by unfold mkStep; simp only []; rw [if_neg (by decide), if_pos (by decide), if_neg (by omega), if_neg (by omega)]
    rw [e]; exact ⟨rfl, hbd3, HW.out _ hb3⟩
set_option maxRecDepth 100000 in
set_option maxHeartbeats 1000000 in
theorem event_5 (x : Ev) (N bb : Nat) (s : Mk) (d n : Int) (W : World) (h : Bd W N bb s d n) (hs : s.Sz 1700000) (ok : s.Ok) (ha : x.anchor.size ≤ maxLen) (k5 : x.kind = 5) :
    Calls Tryz.prog 19 #[.pointer (some ⟨bb, 0, none⟩), evV x] W (DidE N bb d n W (mkStep d.toNat n.toNat s x)) := by
  obtain ⟨V, hV, hbV, hrV, hsV⟩ := boxV W x
  have hN : N ≤ W.heap.size := by obtain ⟨R, m, h⟩ := h; exact h.lt
  have hV1 := h.below hbV
  have HW : Hid (∀ w', Below N V w' → Below N W w') := fun w' hw => (hbV.mono hN).trans hw
  have b0 := Lib.cell_of_heap hrV 0
  have b1 := Lib.cell_of_heap hrV 1
  have b2 := Lib.cell_of_heap hrV 2
  have b3 := Lib.cell_of_heap hrV 3
  have b4 := Lib.cell_of_heap hrV 4
  have b5 := Lib.cell_of_heap hrV 5
  have hVl : W.heap.size < V.heap.size := by omega
  obtain ⟨kd, tx, tg, an, st, fl⟩ := x
  simp only at *
  clear h hbV hrV hsV
  subst k5
  have HB : Hid (Calls Tryz.prog 34 #[.pointer (some ⟨bb, 0, none⟩), .agg #[.int .i64 5, .string tx, .string tg, .string an, .int .i64 st, .bool fl], .int .i64 3] V (DidG N bb s (begN 3 ⟨5, tx, tg, an, st, fl⟩) an d n V)) := begin_anyC ⟨5, tx, tg, an, st, fl⟩ 3 N bb s d n V hV1 hs ok ha
  clear hV1 hs ok hN ha
  go_enter Tryz.func19, Tryz.ntmps19
  go_wp2_with (first
    | (go_at_call 34; refine HB.out.mono ?_; rintro r w3 (⟨hd3, rfl, hb3⟩ | ⟨hd3, hn3, rfl, hb3⟩ | ⟨hd3, hn3, rfl, hbd3, hb3⟩)))
  all_goals go_ret
  · have e : mkStep d.toNat n.toNat s ⟨5, tx, tg, an, st, fl⟩ = .error 8 := by unfold mkStep; simp only []; rw [if_neg (by decide), if_pos (by decide), if_pos (by omega)]
    rw [e]; exact ⟨rfl, HW.out _ hb3⟩
  · have e : mkStep d.toNat n.toNat s ⟨5, tx, tg, an, st, fl⟩ = .error 9 := by unfold mkStep; simp only []; rw [if_neg (by decide), if_pos (by decide), if_neg (by omega), if_pos (by omega)]
    rw [e]; exact ⟨rfl, HW.out _ hb3⟩
  · have e : mkStep d.toNat n.toNat s ⟨5, tx, tg, an, st, fl⟩ = .ok { newNode (nodeK ⟨5, tx, tg, an, st, fl⟩) an s with way := s.way ++ [s.nodes.length] } := by unfold mkStep; simp only []; rw [if_neg (by decide), if_pos (by decide), if_neg (by omega), if_neg (by omega)]
    rw [e]; exact ⟨rfl, hbd3, HW.out _ hb3⟩
set_option maxRecDepth 100000 in
set_option maxHeartbeats 1000000 in
theorem event_7 (x : Ev) (N bb : Nat) (s : Mk) (d n : Int) (W : World) (h : Bd W N bb s d n) (hs : s.Sz 1700000) (ok : s.Ok) (ha : x.anchor.size ≤ maxLen) (k7 : x.kind = 7) :
    Calls Tryz.prog 19 #[.pointer (some ⟨bb, 0, none⟩), evV x] W (DidE N bb d n W (mkStep d.toNat n.toNat s x)) := by
  obtain ⟨V, hV, hbV, hrV, hsV⟩ := boxV W x
  have hN : N ≤ W.heap.size := by obtain ⟨R, m, h⟩ := h; exact h.lt
  have hV1 := h.below hbV
  have HW : Hid (∀ w', Below N V w' → Below N W w') := fun w' hw => (hbV.mono hN).trans hw
  have b0 := Lib.cell_of_heap hrV 0
  have b1 := Lib.cell_of_heap hrV 1
  have b2 := Lib.cell_of_heap hrV 2
  have b3 := Lib.cell_of_heap hrV 3
  have b4 := Lib.cell_of_heap hrV 4
  have b5 := Lib.cell_of_heap hrV 5
  have hVl : W.heap.size < V.heap.size := by omega
  obtain ⟨kd, tx, tg, an, st, fl⟩ := x
  simp only at *
  clear h hbV hrV hsV
  subst k7
  obtain ⟨pl, hpl⟩ : ∃ pl, (st == 1) = pl := ⟨_, rfl⟩
  have HNo : Hid (Calls Tryz.prog 35 #[.pointer (some ⟨bb, 0, none⟩), .agg #[.int .i64 1, .string tg, .string tx, .slice none 0 0, .bool pl], .string an] V (DidN N bb s ⟨1, tg, tx, [], pl⟩ an d n V)) :=
    node_any ⟨1, tg, tx, [], pl⟩ rfl an N bb s d n V hV1 (hs.mono (by omega)) ok ha
  have HK : Hid (nodeK ⟨7, tx, tg, an, st, fl⟩ = ⟨1, tg, tx, [], pl⟩) := by
    show (⟨_, _, _, _, _⟩ : Nd) = _
    simp [hpl]
  clear hV1 hs ok hN ha
  go_enter Tryz.func19, Tryz.ntmps19
  go_wp2_with (first
    | (go_at_call 35; refine HNo.out.mono ?_; rintro r w3 (⟨hn3, rfl, hb3⟩ | ⟨hn3, rfl, hbd3, hb3⟩)))
  all_goals go_ret
  · have e : mkStep d.toNat n.toNat s ⟨7, tx, tg, an, st, fl⟩ = .error 9 := by unfold mkStep; simp only []; rw [if_neg (by decide), if_neg (by decide), if_neg (by decide), if_pos (by decide), if_pos (by omega)]
    rw [e]; exact ⟨rfl, HW.out _ hb3⟩
  · have e : mkStep d.toNat n.toNat s ⟨7, tx, tg, an, st, fl⟩ = .ok (newNode ⟨1, tg, tx, [], pl⟩ an s) := by unfold mkStep; simp only []; rw [if_neg (by decide), if_neg (by decide), if_neg (by decide), if_pos (by decide), if_neg (by omega), HK.out]
    rw [e]; exact ⟨rfl, hbd3, HW.out _ hb3⟩
set_option maxRecDepth 100000 in
set_option maxHeartbeats 1000000 in
theorem event_0 (x : Ev) (N bb : Nat) (s : Mk) (d n : Int) (W : World) (h : Bd W N bb s d n) (ha : x.anchor.size ≤ maxLen) (k1 : ¬ x.kind = 1) (k3 : ¬ x.kind = 3) (k5 : ¬ x.kind = 5) (k7 : ¬ x.kind = 7) (k8 : ¬ x.kind = 8) (k46 : ¬ (x.kind = 4 ∨ x.kind = 6)) :
    Calls Tryz.prog 19 #[.pointer (some ⟨bb, 0, none⟩), evV x] W (DidE N bb d n W (mkStep d.toNat n.toNat s x)) := by
  obtain ⟨V, hV, hbV, hrV, hsV⟩ := boxV W x
  have hN : N ≤ W.heap.size := by obtain ⟨R, m, h⟩ := h; exact h.lt
  have hV1 := h.below hbV
  have HW : Hid (∀ w', Below N V w' → Below N W w') := fun w' hw => (hbV.mono hN).trans hw
  have b0 := Lib.cell_of_heap hrV 0
  have b1 := Lib.cell_of_heap hrV 1
  have b2 := Lib.cell_of_heap hrV 2
  have b3 := Lib.cell_of_heap hrV 3
  have b4 := Lib.cell_of_heap hrV 4
  have b5 := Lib.cell_of_heap hrV 5
  have hVl : W.heap.size < V.heap.size := by omega
  obtain ⟨kd, tx, tg, an, st, fl⟩ := x
  simp only at *
  clear h hbV hrV hsV
  have e : mkStep d.toNat n.toNat s ⟨kd, tx, tg, an, st, fl⟩ = .ok s := by
    unfold mkStep; simp only []; rw [if_neg k1, if_neg (by omega), if_neg k46, if_neg k7, if_neg k8]
  have HE := Lib.hid (And.intro e hV1)
  have k4 : ¬ kd = 4 := fun e => k46 (.inl e)
  have k6 : ¬ kd = 6 := fun e => k46 (.inr e)
  have hB : Below N V V := Below.refl _ _
  clear e hV1 hN ha k46
  go_enter Tryz.func19, Tryz.ntmps19
  go_wp2_with fail
  go_ret
  rw [HE.out.1]
  exact ⟨rfl, HE.out.2, HW.out _ hB⟩
end Go.Proofs.YtiblamapjekdeaaGreat
/- The program's event: aliases. No condition but the sizes. -/
namespace Go.Proofs.YtiblamapjekdeaaGreat
open Go.RowKit
attribute [local go_sem] Oper.semAt_some
set_option maxRecDepth 100000 in
set_option maxHeartbeats 1000000 in
theorem event_8 (x : Ev) (N bb : Nat) (s : Mk) (d n : Int) (W : World) (h : Bd W N bb s d n) (hs : s.Sz 1700000) (ok : s.Ok) (ha : x.anchor.size ≤ maxLen) (k8 : x.kind = 8) :
    Calls Tryz.prog 19 #[.pointer (some ⟨bb, 0, none⟩), evV x] W (DidE N bb d n W (mkStep d.toNat n.toNat s x)) := by
  obtain ⟨V, hV, hbV, hrV, hsV⟩ := boxV W x
  have hN : N ≤ W.heap.size := by obtain ⟨R, m, h⟩ := h; exact h.lt
  have hV1 := h.below hbV
  have HW : Hid (∀ w', Below N V w' → Below N W w') := fun w' hw => (hbV.mono hN).trans hw
  have b0 := Lib.cell_of_heap hrV 0
  have b1 := Lib.cell_of_heap hrV 1
  have b2 := Lib.cell_of_heap hrV 2
  have b3 := Lib.cell_of_heap hrV 3
  have b4 := Lib.cell_of_heap hrV 4
  have b5 := Lib.cell_of_heap hrV 5
  have hVl : W.heap.size < V.heap.size := by omega
  obtain ⟨kd, tx, tg, an, st, fl⟩ := x
  simp only at *
  clear h hbV hrV hsV
  subst k8
  obtain ⟨R, m, h1⟩ := hV1
  obtain ⟨_, _, c2, _, _, _, _, hbb⟩ := h1.cells
  have HGe : Hid (∀ X, Below V.heap.size V X → Calls Tryz.prog 36 #[.pointer (some ⟨bb, 2, none⟩), .string an] X fun e w' => e = .returned (.tuple #[.int .i64 (getI s.names an : Nat), .bool (look s.names an).isSome]) ∧ w' = X) :=
    fun X hX => tget_any an bb 2 N m s.names X ((hX.cell (p := ⟨bb, 2, none⟩) hbb).trans c2) (h1.nm.below hX) ha |>.mono fun _ _ h => ⟨h.1, h.2.symm⟩
  have HPl : Hid (∀ (X : World) (i : Nat), Below V.heap.size V X → Calls Tryz.prog 37 #[.pointer (some ⟨bb, 0, none⟩), .int .i64 (i : Int)] X (DidR N bb (place i s) d n X (.tuple #[]))) :=
    fun X i hX => place_any i N bb s d n X ⟨R, m, h1.below hX⟩ (hs.mono (by omega)) ok
  have HN : Hid (N ≤ V.heap.size) := h1.lt
  have e0 : mkStep d.toNat n.toNat s ⟨8, tx, tg, an, st, fl⟩ = match look s.names an with | none => .error 10 | some i => .ok (place i s) := by
    unfold mkStep; simp only []; rw [if_neg (by decide), if_neg (by decide), if_neg (by decide), if_neg (by decide), if_pos trivial]; rfl
  have E0 := Lib.hid e0
  clear h1 hs ok hN ha e0 c2 hbb
  cases hlk : look s.names an with
  | none =>
    have hgi : getI s.names an = 0 := by rw [getI, hlk]; rfl
    rw [hlk, hgi] at HGe
    rw [hlk] at E0
    have HGe2 : Hid (∀ q, Calls Tryz.prog 36 #[.pointer (some ⟨bb, 2, none⟩), .string an] (V.drewN q) fun e w' => e = .returned (.tuple #[.int .i64 0, .bool false]) ∧ w' = V.drewN q) := fun q => HGe.out _ (below_drewN (Below.refl _ _) _)
    clear hlk hgi HGe HPl
    go_enter Tryz.func19, Tryz.ntmps19
    go_wp2_with fail
    go_quiet ((go_at_call 36; exact Calls.quiet_of_same (HGe2.out _)))
    go_wp2_with fail
    go_ret
    rw [E0.out]
    exact ⟨rfl, HW.out _ (below_drewN (Below.refl _ _) _)⟩
  | some i =>
    have hgi : getI s.names an = i := by rw [getI, hlk]; rfl
    rw [hlk, hgi] at HGe
    rw [hlk] at E0
    have HGe2 : Hid (∀ q, Calls Tryz.prog 36 #[.pointer (some ⟨bb, 2, none⟩), .string an] (V.drewN q) fun e w' => e = .returned (.tuple #[.int .i64 (i : Int), .bool true]) ∧ w' = V.drewN q) := fun q => HGe.out _ (below_drewN (Below.refl _ _) _)
    have HPl2 : Hid (∀ q, Calls Tryz.prog 37 #[.pointer (some ⟨bb, 0, none⟩), .int .i64 (i : Int)] (V.drewN q) (DidR N bb (place i s) d n (V.drewN q) (.tuple #[]))) := fun q => HPl.out _ i (below_drewN (Below.refl _ _) _)
    clear hlk hgi HGe HPl
    go_enter Tryz.func19, Tryz.ntmps19
    go_wp2_with fail
    go_quiet ((go_at_call 36; exact Calls.quiet_of_same (HGe2.out _)))
    go_wp2_with (first
      | (go_at_call 37; refine (HPl2.out nq).mono ?_; rintro r w3 ⟨rfl, hb3, hbel3⟩))
    go_ret
    rw [E0.out]
    exact ⟨rfl, hb3, HW.out _ ((below_drewN (Below.refl _ _) _).trans hbel3)⟩
set_option maxRecDepth 100000 in
set_option maxHeartbeats 1000000 in
theorem event_46 (x : Ev) (N bb : Nat) (s : Mk) (d n : Int) (W : World) (h : Bd W N bb s d n) (hs : s.Sz 1700000) (ha : x.anchor.size ≤ maxLen) (k46 : x.kind = 4 ∨ x.kind = 6) (hw : s.way ≠ []) :
    Calls Tryz.prog 19 #[.pointer (some ⟨bb, 0, none⟩), evV x] W (DidE N bb d n W (mkStep d.toNat n.toNat s x)) := by
  obtain ⟨V, hV, hbV, hrV, hsV⟩ := boxV W x
  have hN : N ≤ W.heap.size := by obtain ⟨R, m, h⟩ := h; exact h.lt
  have hV1 := h.below hbV
  have HW : Hid (∀ w', Below N V w' → Below N W w') := fun w' hw => (hbV.mono hN).trans hw
  have b0 := Lib.cell_of_heap hrV 0
  have b1 := Lib.cell_of_heap hrV 1
  have b2 := Lib.cell_of_heap hrV 2
  have b3 := Lib.cell_of_heap hrV 3
  have b4 := Lib.cell_of_heap hrV 4
  have b5 := Lib.cell_of_heap hrV 5
  have hVl : W.heap.size < V.heap.size := by omega
  obtain ⟨kd, tx, tg, an, st, fl⟩ := x
  simp only at *
  clear h hbV hrV hsV
  obtain ⟨R, m, h1⟩ := hV1
  obtain ⟨_, _, _, c3, _, _, hfz, hbb⟩ := h1.cells
  have hsw := hs.way
  obtain ⟨wg, wc, hv2, hl, hwc, hbd, hbel⟩ := h1.shut hw
  have f3 := hfz 3
  obtain ⟨q, hq⟩ : ∃ q, s.way.length = q := ⟨_, rfl⟩
  rw [hq] at hv2 hl hwc hbd hbel hsw
  rw [hv2] at c3
  obtain ⟨X, hX⟩ : ∃ X, V.drew.setCell ⟨bb, 3, none⟩ (.slice (some ⟨wg, 0, none⟩) (q - 1) wc) = X := ⟨_, rfl⟩
  have hXb : Below (V.setCell ⟨bb, 3, none⟩ (.slice (some ⟨wg, 0, none⟩) (q - 1) wc)).heap.size (V.setCell ⟨bb, 3, none⟩ (.slice (some ⟨wg, 0, none⟩) (q - 1) wc)) X := by rw [← hX]; exact (Below.refl _ _).drew
  have HX := Lib.hid (And.intro (hbd.below hXb) (hbel.trans (hXb.mono (by simp; exact h1.lt))))
  have e1 : (1 : Int) ≤ (q : Int) := by omega
  have e2 : (0 : Int) ≤ (q : Int) - 1 := by omega
  have e3 : (q : Int) - 1 < (q : Int) := by omega
  have e4 : ((q : Int) - 1).toNat = q - 1 := by omega
  have e5 : (q : Int) - 1 ≤ (wc : Int) := by omega
  have e6 : IntKind.i64.wrap ((q : Int) - 1) = (q : Int) - 1 := IntWalk.i64_in _ (by omega)
  have e : mkStep d.toNat n.toNat s ⟨kd, tx, tg, an, st, fl⟩ = .ok { s with way := s.way.dropLast } := by
    unfold mkStep; simp only []; rw [if_neg (by omega), if_neg (by omega), if_pos k46]
  have E := Lib.hid e
  clear h1 hs hw hN ha hbd hbel hXb hfz hv2 hq hbb e
  go_enter Tryz.func19, Tryz.ntmps19
  rcases k46 with rfl | rfl
  all_goals
    go_wp2_with fail
    apply wp_stillF (w2 := X)
    · go_region_law fail
      all_goals exact ⟨rfl, rfl⟩
    go_wp2_with fail
    go_ret
    rw [E.out]
    exact ⟨rfl, HX.out.1, HW.out _ HX.out.2⟩
end Go.Proofs.YtiblamapjekdeaaGreat
