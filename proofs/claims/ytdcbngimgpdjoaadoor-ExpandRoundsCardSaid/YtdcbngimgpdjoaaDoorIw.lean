/- Rows that are copied, turned round and put behind others: what iso's walks ask. No condition but lengths. -/
import Derived.Test.YtdcbngimgpdjoaaDoorRh
import Derived.Lib.OwnBridge
import Derived.Laws.AppendOwnNone
namespace Go.Proofs.YtdcbngimgpdjoaaDoor
open Go.RowKit Go.Shelf Go.Deep
theorem wpListIn_append_own_none {F : Fence} {nF : Nat} {P : Program} {w : World} {ops : Array Oper} {rest : List Oper} {o : Oper} {a : Act} {Q : Exit → Act → World → Prop} (hgd : o.guard = none) (s x : Operand) (t : TypeId)
    (ho : o.op = .call { callee := .builtin .append, args := #[s, x], argTypes := #[t, t] })
    (base : Nat) (e : TypeId) (i : TypeInfo) (size : Nat) (ht : P.underlying t = some (.slice e)) (hi : P.info? e = some i)
    (v : Value) (n : Nat) (xs : List Value) (hs : a.eval s = v) (hown : w.ownsRow base e size v n xs) (hx : a.eval x = .slice none 0 0)
    (h : wpListIn F nF P ops Q rest (a.put o.dst v) w) : wpListIn F nF P ops Q (o :: rest) a w := by
  refine wpListIn_plain hgd fun K hK => ?_
  have hrun := run_append_owned_none (P := P) (w := w) base t o.type e i size ht hi v n xs hown
  unfold Oper.wpIn
  refine ⟨by simp [Oper.about, ho, resolve, Target.leads, Sem.run_pure], ?_⟩
  rw [Oper.semAt_plain F _ _ (by rw [ho]; intro c hc'; cases hc')]
  simp [execOp, ho, resolve, invoke, builtin, hs, hx, hrun, Result.andThen]
  exact hK _ _ h
/-- 'append' of a row of the call's own to another. -/
theorem wpListIn_appL {F : Fence} {rm : Nat} {W : World} {ops : Array Oper} {rest : List Oper} {o : Oper} {a : Act} {Q : Exit → Act → World → Prop} (hgd : o.guard = none) (s x : Operand) (t : TypeId)
    (ho : o.op = .call { callee := .builtin .append, args := #[s, x], argTypes := #[t, t] }) (ht : Tryd.prog.underlying t = some (.slice 3)) {N M : Nat} (v vx : Value) (l ys : List Nat)
    (hs : a.eval s = v) (h : W.ownsRow N 3 1 v l.length (ncells l)) (hx : a.eval x = vx) (hy : W.ownsRow M 3 1 vx ys.length (ncells ys)) (hl : l.length + ys.length ≤ 1000000000) (hB : N ≤ W.heap.size)
    (k : ∀ v' w', w'.ownsRow N 3 1 v' (l ++ ys).length (ncells (l ++ ys)) → W.grownBy w' v.ownBlock → (v'.ownBlock = v.ownBlock ∨ v'.ownBlock = some W.heap.size) → wpListIn F rm Tryd.prog ops Q rest (a.put o.dst v') w') :
    wpListIn F rm Tryd.prog ops Q (o :: rest) a W := by
  obtain ⟨i0, hi, hz0, hz1, hz2⟩ := info_parts Tryd.infoIntZ
  rcases hy.2 with ⟨rfl, h0⟩ | ⟨g, cap, cur, rfl, hb, hg, hn, hm, hsz, ht2⟩
  · have hy0 : ys = [] := List.eq_nil_of_length_eq_zero h0
    subst hy0
    refine wpListIn_append_own_none hgd s x t ho N 3 i0 1 ht hi v l.length (ncells l) hs h hx ?_
    exact k v W (by simpa using h) (grown_refl _ _) (.inl rfl)
  · refine wpListIn_append_own_at _ hgd s x t ho N _ i0 _ 1 8 ht hi hz0 hz1 hz2 rfl (by decide) v l.length (ncells l) hs h ⟨g, 0, none⟩ ys.length cap (ncells ys) hx (by simp [ncells]) ?_ (fun u hu => by simp [ncells] at hu; obtain ⟨_, _, rfl⟩ := hu; rfl) (by unfold maxLen; omega) (by omega) hB ?_
    · intro j u hj
      have := hy.cells (g := g) rfl j u hj
      simpa [Addr.add] using this
    · intro v' w' h1 h2 _ h4
      exact k v' w' (by simpa [ncells] using h1) h2 h4
theorem nat_cells (l : List Nat) : (l.map Int.ofNat).map (Value.int .i64) = ncells l := by simp [ncells]
/-- slices.Clone of a row. -/
theorem Clone_any (A : Option Addr) (c : Nat) (l : List Nat) (w : World) (hl : l.length ≤ 1000000000) (hI : IntsAt w w.heap.size A (l.map Int.ofNat)) :
    Calls Tryd.prog 72 #[.slice A l.length c] w fun e w' => ∃ v', e = .returned v' ∧ w'.ownsRow w.heap.size 3 1 v' l.length (ncells l) ∧ Below w.heap.size w w' := by
  by_cases h0 : l = []
  · subst h0
    cases A with
    | none => refine (slices_Clone_int_nil 0 c w).mono ?_; rintro e w' ⟨rfl, rfl⟩; exact ⟨_, rfl, ⟨rfl, .inl ⟨rfl, rfl⟩⟩, Below.refl _ _⟩
    | some a => refine (slices_Clone_int_zero a c w).mono ?_; rintro e w' ⟨v', rfl, h1, _, h2⟩; exact ⟨_, rfl, h1, h2⟩
  · obtain ⟨b, off, rfl, _, hc⟩ := hI (by rw [List.length_map]; exact List.length_pos_iff.2 h0)
    refine (slices_Clone_int b off l.length c (l.map Int.ofNat) w (by simp) (by omega) hc).mono ?_
    rintro e w' ⟨v', rfl, h1, _, h2⟩
    refine ⟨_, rfl, ?_, h2⟩
    rw [List.take_of_length_le (by simp), nat_cells] at h1
    exact h1
/-- slices.Reverse of a row of the call's own. -/
theorem Reverse_any (N : Nat) (v : Value) (l : List Nat) (w : World) (hl : l.length ≤ 1000000000) (h : w.ownsRow N 3 1 v l.length (ncells l)) :
    Calls Tryd.prog 73 #[v] w fun e w' => e = .returned (.tuple #[]) ∧ w'.ownsRow N 3 1 v l.reverse.length (ncells l.reverse) ∧ w.grownBy w' v.ownBlock := by
  by_cases hv : v = .slice none 0 0
  · subst hv
    have h0 : l = [] := by
      rcases h.2 with ⟨_, h0⟩ | ⟨g, cap, cur, e, _⟩
      · exact List.eq_nil_of_length_eq_zero h0
      · cases e
    subst h0
    refine (slices_Reverse_int_empty none 0 w).mono ?_
    rintro e w' ⟨rfl, rfl⟩
    exact ⟨rfl, h, grown_refl _ _⟩
  · have h' : w.ownsRow N 3 1 v l.length ((l.map Int.ofNat).map (Value.int .i64)) := by rw [nat_cells]; exact h
    obtain ⟨g, cap, rfl, _, _, _, _, hz, hH⟩ := Lib.holds_of_ownsRow h' hv
    have hr := slices_Reverse_int g 0 cap (l.map Int.ofNat) w hH (by simp; omega)
    rw [hz] at hr
    refine hr.mono ?_
    rintro e w' ⟨rfl, n, rfl⟩
    refine ⟨rfl, ?_, ?_⟩
    · have := Lib.ownsRow_putRow (q := n) (k := l.length) (ys := (l.map Int.ofNat).reverse) h' (by simp) (Nat.le_refl _)
      rw [List.take_of_length_le (by simp), ← List.map_reverse, nat_cells] at this
      simpa [List.map_reverse] using this
    · exact ⟨rfl, rfl, rfl, by simp [Sort.putRow, Sort.mapBlock, Sort.ahead], fun k _ hk => by
        have : g ≠ k := fun e => hk (by rw [e]; rfl)
        simp [Sort.putRow, Sort.mapBlock, Sort.ahead, Array.getElem?_modify, this]⟩
end Go.Proofs.YtdcbngimgpdjoaaDoor
