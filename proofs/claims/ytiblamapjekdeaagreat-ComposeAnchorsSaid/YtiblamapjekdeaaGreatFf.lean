/- The program's node: a new node. No condition but the sizes. -/
import Derived.Test.YtiblamapjekdeaaGreatFe
import Derived.Lib.Strings
namespace Go.Proofs.YtiblamapjekdeaaGreat
open Go.RowKit
attribute [local go_sem] Oper.semAt_some
abbrev stillPostF (A : Act) (w2 : World) : Exit → Act → World → Prop
  | .normal, a, w => a = A ∧ w = w2
  | _, _, _ => False
theorem wp_stillF {P : Program} {c : Code} {a A : Act} {w w2 : World} {Q : Exit → Act → World → Prop} (h : c.wp P (stillPostF A w2) a w) (hq : Q .normal A w2) : c.wp P Q a w :=
  wp_mono h fun e a' w' h => by
    cases e <;> first | (obtain ⟨rfl, rfl⟩ := h; exact hq) | exact h.elim
theorem step_appF {T : TypeId} {W w' : World} {ops : Array Oper} {o : Oper} {a : Act} {K : Act → World → Prop} {Q : Exit → Act → World → Prop} {E : Prop} {v' : Value} (hgd : o.guard = none) (s x : Operand)
    (ho : o.op = .call { callee := .builtin .append, args := #[s, x], argTypes := #[T, T] }) (v vx : Value) (hs : a.eval s = v) (hx : a.eval x = vx)
    (hr : (Builtin.append_ #[T, T] o.type #[v, vx]).run Tryz.prog W = .ok v' w') (k : K (a.put o.dst v') w') :
    if Region.wanted o (yielded ops a.tmps) = true then Oper.wp Tryz.prog o a W K Q else E := by
  have hw : Region.wanted o (yielded ops a.tmps) = true := by simp [Region.wanted, hgd]
  rw [if_pos hw]
  unfold Oper.wp execOp
  simp only [ho, resolve, invoke, builtin, Sem.run_bind, Sem.run_pure, Result.andThen_ok, List.map_toArray, List.map_cons, List.map_nil, hs, hx, hr]
  exact k
/-- What node tells. -/
def DidN (N bb : Nat) (s : Mk) (e : Nd) (a : ByteArray) (d n : Int) (W : World) (r : Ending) (w' : World) : Prop :=
  (n ≤ (s.nodes.length : Int) ∧ r = .returned (.tuple #[.int .i64 0, .int .i64 9]) ∧ Below N W w') ∨
  ((s.nodes.length : Int) < n ∧ r = .returned (.tuple #[.int .i64 (s.nodes.length : Int), .int .i64 0]) ∧ Bd w' N bb (newNode e a s) d n ∧ Below N W w')
theorem Mk.Sz.more {s : Mk} {k : Nat} (h : s.Sz k) (e : Nd) (hk : e.kids = []) : ({ s with nodes := s.nodes ++ [e] } : Mk).Sz (k + 1) := by
  refine ⟨by simp; exact h.nodes, Nat.le_succ_of_le h.roots, Nat.le_succ_of_le h.way, Nat.le_succ_of_le h.names, fun u => ?_⟩
  show (nd (s.nodes ++ [e]) u).kids.length ≤ k + 1
  by_cases hu : u < s.nodes.length
  · have : nd (s.nodes ++ [e]) u = nd s.nodes u := by simp [nd, List.getElem?_append_left hu]
    rw [this]; exact Nat.le_succ_of_le (h.kids u)
  · simp only [nd, List.getD_eq_getElem?_getD]
    rw [List.getElem?_append_right (by omega)]
    by_cases h0 : u - s.nodes.length = 0
    · rw [h0]; simp [hk]
    · rw [List.getElem?_eq_none (by simp; omega)]; exact Nat.zero_le _
theorem Mk.Ok.more {s : Mk} (h : s.Ok) (e : Nd) : ({ s with nodes := s.nodes ++ [e] } : Mk).Ok :=
  ⟨fun u hu => by have := h.way u hu; show u < (s.nodes ++ [e]).length; simp; omega, fun p hp => by have := h.names p hp; show p.2 < (s.nodes ++ [e]).length; simp; omega⟩
theorem boxN (w : World) (e : Nd) : ∃ V, w.alloc (.cells #[.int .i64 e.kind, .string e.tag, .string e.text, .slice none 0 0, .bool e.plain] 46) = V ∧ Below w.heap.size w V ∧ V.heap[w.heap.size]? = some (.cells #[.int .i64 e.kind, .string e.tag, .string e.text, .slice none 0 0, .bool e.plain] 46 (0, 0)) ∧ V.heap.size = w.heap.size + 1 :=
  ⟨_, rfl, (Below.refl _ w).alloc (Nat.le_refl _) _, heap_alloc_new w _, by simp⟩
theorem empty_strF (s : ByteArray) : s.toList.isEmpty = decide (s.size = 0) := by
  rw [Lib.toList_data, Bool.eq_iff_iff, List.isEmpty_iff, ← List.length_eq_zero_iff]
  simp only [decide_eq_true_eq]; rfl
set_option maxRecDepth 100000 in
set_option maxHeartbeats 2000000 in
theorem node_any (e : Nd) (hk : e.kids = []) (a : ByteArray) (N bb : Nat) (s : Mk) (d n : Int) (W : World) (h : Bd W N bb s d n) (hs : s.Sz 1800000) (ok : s.Ok) (ha : a.size ≤ maxLen) :
    Calls Tryz.prog 35 #[.pointer (some ⟨bb, 0, none⟩), .agg #[.int .i64 e.kind, .string e.tag, .string e.text, .slice none 0 0, .bool e.plain], .string a] W (DidN N bb s e a d n W) := by
  have hl : s.nodes.length ≤ 1800000 := hs.nodes
  obtain ⟨R, m, h⟩ := h
  obtain ⟨V, hV, hbV, hrV, hsV⟩ := boxN W e
  have h1 := h.below hbV
  obtain ⟨NA, nc, hnv, _⟩ := h.made.nodesForm
  obtain ⟨c0, _, _, _, _, c5, hfz, hbb⟩ := h1.cells
  obtain ⟨p, hp⟩ : ∃ p, s.nodes.length = p := ⟨_, rfl⟩
  rw [hnv, hp] at c0
  have HW : Hid (∀ w', Below N V w' → Below N W w') := fun w' hw => (hbV.mono h.lt).trans hw
  have HS := Lib.hid (And.intro h1 (And.intro hs (And.intro ok (And.intro hk (And.intro ha hnv)))))
  by_cases hn : n ≤ (p : Int)
  · have hB : Below N V V := Below.refl _ _
    have hd : n ≤ (s.nodes.length : Int) := by rw [hp]; exact hn
    clear h h1 hs ok hk ha hnv hbV hrV hsV hl hfz hbb
    go_enter Tryz.func35, Tryz.ntmps35
    go_wp2_with fail
    go_ret2
    exact .inl ⟨hd, rfl, HW.out _ hB⟩
  · have b0 := Lib.cell_of_heap hrV 0
    have b1 := Lib.cell_of_heap hrV 1
    have b2 := Lib.cell_of_heap hrV 2
    have b3 := Lib.cell_of_heap hrV 3
    have b4 := Lib.cell_of_heap hrV 4
    have hd : (s.nodes.length : Int) < n := by rw [hp]; omega
    have Hd := Lib.hid hd
    have hxa : Below V.heap.size V (V.alloc (.cells #[.int .i64 e.kind, .string e.tag, .string e.text, .slice none 0 0, .bool e.plain] 46)) := (Below.refl _ V).alloc (Nat.le_refl _) _
    have hx : Below V.heap.size V (V.alloc (.cells #[.int .i64 e.kind, .string e.tag, .string e.text, .slice none 0 0, .bool e.plain] 46)).drew := hxa.drew
    obtain ⟨A, c, w2, hrun, k0, f0, hbd, hbel⟩ := h1.node (hs.mono (by omega)) hx hk (n0 := V.heap.size) (fr := (0, 0)) (heap_alloc_new V _)
    rw [hnv, hp] at hrun k0
    rw [hp] at hbd hbel
    have c0x := (hxa.cell (p := ⟨bb, 0, none⟩) hbb).trans c0
    obtain ⟨X, hX⟩ : ∃ X, w2.setCell ⟨bb, 0, none⟩ (.slice A (p + 1) c) = X := ⟨_, rfl⟩
    rw [hX] at hbd hbel
    have HB := Lib.hid (And.intro hbd hbel)
    have HP : Hid (Calls Tryz.prog 37 #[.pointer (some ⟨bb, 0, none⟩), .int .i64 (p : Int)] X (DidR N bb (place p { s with nodes := s.nodes ++ [e] }) d n X (.tuple #[]))) :=
      place_any p N bb _ d n X hbd ((hs.more e hk).mono (by omega)) (ok.more e)
    clear h h1 hs ok hk ha hnv hbV hrV hsV hfz hbb hbd hbel hx hxa hd
    go_enter Tryz.func35, Tryz.ntmps35
    go_wp2_with fail
    apply wp_stillF (w2 := X)
    · go_region_law (first | (refine step_appF rfl _ _ rfl (.slice NA p nc) _ rfl rfl hrun ?_))
      all_goals exact ⟨rfl, rfl⟩
    clear hrun k0 f0 c0x hX c0 c5 b0 b1 b2 b3 b4
    go_wp2_with (first
      | (go_at_call 37; refine HP.out.mono ?_; rintro r w3 ⟨rfl, hb3, hbel3⟩; have H3 := Lib.hid (And.intro hb3 (HB.out.2.trans hbel3)); clear hb3 hbel3)
      | (go_at_call 61; refine (tput_any a p N bb _ d n w3 H3.out.1 HS.out.2.2.2.2.1 (by omega) (by rw [place_names]; exact Nat.le_trans HS.out.2.1.names (by omega))).mono ?_; rintro r w4 ⟨rfl, hb4, hbel4⟩; have H4 := Lib.hid (And.intro hb4 (H3.out.2.trans hbel4)); clear hb4 hbel4))
    · rename_i hz
      have hz' : ¬ a.size = 0 := by rw [empty_strF] at hz; simpa using hz
      have hN : newNode e a s = { place p { s with nodes := s.nodes ++ [e] } with names := (place p { s with nodes := s.nodes ++ [e] }).names ++ [(a, p)] } := by
        subst hp; simp only [newNode, if_neg hz']
      clear hz
      go_ret2
      exact .inr ⟨Hd.out, by subst hp; rfl, by rw [hN]; exact H4.out.1, HW.out _ H4.out.2⟩
    · rename_i hz
      have hz' : a.size = 0 := by rw [empty_strF] at hz; simpa using hz
      have hN : newNode e a s = place p { s with nodes := s.nodes ++ [e] } := by
        subst hp; simp only [newNode, if_pos hz']
      clear hz
      go_ret2
      exact .inr ⟨Hd.out, by subst hp; rfl, by rw [hN]; exact H3.out.1, HW.out _ H3.out.2⟩
end Go.Proofs.YtiblamapjekdeaaGreat
