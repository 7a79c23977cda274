/- Rows of ints that a call owns: what they look like, and 'append' of one int. No condition but the sizes. -/
import Derived.Test.YtiblamapjekdeaaGreatOpen
import Derived.Deep.AppendLies
namespace Go.Proofs.YtiblamapjekdeaaGreat
open Go.RowKit
theorem Tryz.infoIntZ : (Tryz.prog.info? 3).map (fun i => (i.zero, i.size, i.bytes)) = some (some (.int .i64 0), 1, 8) := by kernel_rfl
def zcells (l : List Int) : List Value := l.map (Value.int .i64)
/-- A row of ints that the call owns; nil where it is empty. -/
structure ZOwn (w : World) (B : Nat) (v : Value) (l : List Int) : Prop where
  own : w.ownsRow B 3 1 v l.length (zcells l)
  nil : l = [] → v = .slice none 0 0
theorem ZOwn.empty (w : World) (B : Nat) : ZOwn w B (.slice none 0 0) [] := ⟨⟨rfl, .inl ⟨rfl, rfl⟩⟩, fun _ => rfl⟩
theorem ZOwn.form {w : World} {B : Nat} {v : Value} {l : List Int} (h : ZOwn w B v l) : ∃ A c, v = .slice A l.length c ∧ l.length ≤ c ∧ IntsAt w w.heap.size A l ∧ (A = none → c = 0) := by
  have h' := h.own
  rcases h.own.2 with ⟨rfl, h0⟩ | ⟨g, cap, cur, rfl, _, hg, hc, _⟩
  · rw [h0]
    exact ⟨none, 0, rfl, by simp, fun hz => by omega, fun _ => rfl⟩
  · refine ⟨_, cap, rfl, hc, fun _ => ⟨g, 0, rfl, (Array.getElem?_eq_some_iff.1 hg).1, fun k hk => ?_⟩, fun e => by cases e⟩
    have := h'.cells (g := g) rfl k (.int .i64 (nth l k)) (by simp [zcells, nth, hk])
    simpa [Addr.add_lit] using this
theorem ZOwn.alloc {w : World} {B : Nat} {v : Value} {l : List Int} (h : ZOwn w B v l) (o : Obj) : ZOwn (w.alloc o) B v l := ⟨h.own.alloc o, h.nil⟩
theorem ZOwn.drew {w : World} {B : Nat} {v : Value} {l : List Int} (h : ZOwn w B v l) : ZOwn w.drew B v l := ⟨h.own.drew, h.nil⟩
theorem ZOwn.kept {w w' : World} {B : Nat} {v : Value} {l : List Int} (h : ZOwn w B v l) (hb : Below w.heap.size w w') : ZOwn w' B v l := by
  refine ⟨?_, h.nil⟩
  rcases h.own.2 with ⟨rfl, h0⟩ | ⟨g, cap, cur, rfl, hB, hg, hc, r⟩
  · exact ⟨h.own.1, .inl ⟨rfl, h0⟩⟩
  · exact ⟨h.own.1, .inr ⟨g, cap, cur, rfl, hB, (hb.block g (Array.getElem?_eq_some_iff.1 hg).1).trans hg, hc, r⟩⟩
/-- 'append' of one int to a row that the call owns. -/
theorem wpList_appZ {wr : World} {ops : Array Oper} {rest : List Oper} {o : Oper} {a : Act} {Q : Exit → Act → World → Prop} (hgd : o.guard = none) (s x : Operand) (t : TypeId)
    (ho : o.op = .call { callee := .builtin .append, args := #[s, x], argTypes := #[t, t] }) (ht : Tryz.prog.underlying t = some (.slice 3)) (B : Nat)
    (v : Value) (l : List Int) (z : Int) (hs : a.eval s = v) (h : ZOwn wr B v l) (n0 : Nat) (hn0 : n0 = wr.heap.size) (hx : a.eval x = .slice (some ⟨n0, 0, none⟩) 1 1) (hl : l.length ≤ 1000000000) (hB : B ≤ wr.heap.size)
    (k : ∀ v' w', ZOwn w' B v' (l ++ [z]) → Below B wr w' → wpList Tryz.prog ops Q rest (a.put o.dst v') w') : wpList Tryz.prog ops Q (o :: rest) a (wr.alloc (.cells #[.int .i64 z] 3)) := by
  obtain ⟨i0, hi, hz0, hz1, hz2⟩ := info_parts Tryz.infoIntZ
  refine wpList_append_own _ hgd s x t ho B _ i0 _ 1 8 ht hi hz0 hz1 hz2 rfl (by decide) v _ _ hs (h.own.alloc _) ⟨n0, 0, none⟩ 1 1 [.int .i64 z] hx rfl ?_ (fun u hu => by simp at hu; subst hu; rfl) (by unfold maxLen; omega) (by omega) (by simp; omega) ?_
  · intro j u hj
    match j, hj with
    | 0, hj => simp at hj; subst hj; subst hn0; simp [Addr.add]
    | j + 1, hj => simp at hj
  · intro v' w' h1 h2 _
    refine k v' w' ⟨by simpa [zcells] using h1, fun e => by simp at e⟩ ?_
    exact Below.grown ((Below.refl B wr).alloc hB _) h2 (by simp; omega) fun _ hj => (h.own.lt _ hj).1
end Go.Proofs.YtiblamapjekdeaaGreat
