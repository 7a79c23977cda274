/- An argument that is a graph, opened: its nodes and roots, and how great they are beside the datum's bulk. No condition. (Under way.) -/
import Derived.Test.YtdcbngimgpdjoaaDoorGn
import Derived.Test.YtdcbngimgpdjoaaDoorOpen
import Derived.Deep.Slices
import Derived.Deep.Fields
import Derived.ChangeSame
namespace Go.Proofs.YtdcbngimgpdjoaaDoor
open Go.ChangeShapes Go.WideShapes Go.ChangeAt Go.RowKit Go.Deep
section
variable {H : Type} {enc : TypeId × Value → H} {P : Program} {W : World} {base : Nat}
theorem open_intsF {t e : TypeId} {fuel : Nat} {cs : List Value} {x : DataW H × List MemPlace} (ht : P.underlying t = some (.slice e)) (he : P.underlying e = some (.int .i64)) (hc : P.cellsOf e = 1)
    (hf : DataW.trod enc P W base (fun _ => true) true fuel t cs = some x) :
    ∃ A c zs, cs = [.slice A (List.length zs) c] ∧ zs.length ≤ c ∧ c ≤ maxLen ∧ IntsAt W W.heap.size A zs ∧ (∀ z ∈ zs, (Lit.int .i64 z).wf = true) ∧ (A = none → c = 0) ∧ (zs = [] ∨ ∃ spare, x.1 = .slice (lits .i64 zs) (lits .i64 spare)) := by
  rcases open_ints ht he hc hf with ⟨hcs, hx⟩ | ⟨a, len, cap, zs, hcs, _, hl, hm, hz, hx, hcell, hwz⟩
  · subst hcs
    exact ⟨none, 0, [], rfl, by simp, by simp [maxLen], IntsAt.nil, by simp, fun _ => rfl, .inl rfl⟩
  · subst hcs
    simp only [if_true] at hz
    have hlen : (zs.take len).length = len := by rw [List.length_take]; omega
    refine ⟨some a, cap, zs.take len, by rw [hlen], by omega, hm, ?_, fun z hz' => hwz z (List.mem_of_mem_take hz'), fun e => (by cases e), .inr ⟨zs.drop len, by rw [hx]⟩⟩
    intro h0
    rw [hlen] at h0
    obtain ⟨b, off, rfl, hc'⟩ := ints_at hcell (by omega)
    have hb : b < W.heap.size := World.block_lt_of_cell? W _ (by simpa using hc' 0 (by omega))
    refine ⟨b, off, rfl, hb, fun k hk => ?_⟩
    rw [hlen] at hk
    rw [hc' k (by omega)]
    simp [nth, List.getD_eq_getElem?_getD, hk]
/-- What a node's datum tells of it. -/
def nodeD (e : Nd) (d : DataW H) : Prop := ∃ k, d = .agg [.lit (.int .i64 e.kind), .lit (.string e.tag.data.toList), .lit (.string e.text.data.toList), k, .lit (.bool e.plain)] ∧ (e.kids = [] ∨ ∃ spare, k = .slice (lits .i64 e.kids) (lits .i64 spare))
theorem open_node {e : TypeId} {f0 f1 f2 f3 f4 : Field} {ti : TypeId} {fuel : Nat} {a : Addr} {cs' : List Value} {x : DataW H × List MemPlace} (he : P.underlying e = some (.struct #[f0, f1, f2, f3, f4]))
    (h0 : P.underlying f0.type = some (.int .i64)) (h1 : P.underlying f1.type = some .string) (h2 : P.underlying f2.type = some .string) (h3 : P.underlying f3.type = some (.slice ti)) (h3e : P.underlying ti = some (.int .i64)) (h3c : P.cellsOf ti = 1) (h4 : P.underlying f4.type = some .bool)
    (hone : oneCellFields P #[f0, f1, f2, f3, f4] = true)
    (hc : W.cells? base a 5 = some cs') (ht' : DataW.trod enc P W base (fun _ => true) true fuel e cs' = some x) :
    ∃ (n : Nd) (K : Option Addr) (c : Nat), n.ok ∧ nodeD n x.1 ∧ IntsAt W W.heap.size K n.kids ∧ n.kids.length ≤ c ∧ (K = none → c = 0) ∧ (∀ j (hj : j < 5), W.cell? (a.add j) = some ((n.row K c)[j]'(by simpa [Nd.row] using hj))) := by
  obtain ⟨ys, n', hn', hy, hlen, hyl, hf'⟩ := DataW.trod_struct he ht'
  obtain ⟨_, hcl, hat⟩ := World.cells?_some hc
  obtain ⟨o0, k0⟩ := hone_of hone 0 f0 rfl
  obtain ⟨o1, k1⟩ := hone_of hone 1 f1 rfl
  obtain ⟨o2, k2⟩ := hone_of hone 2 f2 rfl
  obtain ⟨o3, k3⟩ := hone_of hone 3 f3 rfl
  obtain ⟨o4, k4⟩ := hone_of hone 4 f4 rfl
  match cs', hcl with
  | [v0, v1, v2, v3, v4], _ =>
  match ys, hyl with
  | [y0, y1, y2, y3, y4], _ =>
    have g0 := hf' 0 f0 rfl
    have g1 := hf' 1 f1 rfl
    have g2 := hf' 2 f2 rfl
    have g3 := hf' 3 f3 rfl
    have g4 := hf' 4 f4 rfl
    simp only [o0, k0, o1, k1, o2, k2, o3, k3, o4, k4, List.drop, List.take, List.getElem?_cons_zero, List.getElem?_cons_succ] at g0 g1 g2 g3 g4
    obtain ⟨n0, e0, x0, w0⟩ := DataW.trod_int h0 g0
    obtain ⟨s1, e1, x1, w1⟩ := DataW.trod_string h1 g1
    obtain ⟨s2, e2, x2, w2⟩ := DataW.trod_string h2 g2
    obtain ⟨A, c, zs, e3, hz, hcm, hI, hw, hA, hx3⟩ := open_intsF h3 h3e h3c g3
    obtain ⟨b4, e4, x4⟩ := DataW.trod_bool h4 g4
    simp only [List.cons.injEq, and_true] at e0 e1 e2 e3 e4
    subst e0 e1 e2 e3 e4
    refine ⟨⟨n0, s1, s2, zs, b4⟩, A, c, ⟨w0, w1, w2, Nat.le_trans hz hcm, hw⟩, ⟨y3.1, by rw [hy, x0, x1, x2, x4]; rfl, hx3⟩, hI, hz, hA, fun j hj => ?_⟩
    rw [hat j hj]
    match j, hj with
    | 0, _ => rfl
    | 1, _ => rfl
    | 2, _ => rfl
    | 3, _ => rfl
    | 4, _ => rfl
theorem open_nodes {t e : TypeId} {f0 f1 f2 f3 f4 : Field} {ti : TypeId} {fuel : Nat} {cs : List Value} {x : DataW H × List MemPlace} (ht : P.underlying t = some (.slice e)) (he : P.underlying e = some (.struct #[f0, f1, f2, f3, f4]))
    (h0 : P.underlying f0.type = some (.int .i64)) (h1 : P.underlying f1.type = some .string) (h2 : P.underlying f2.type = some .string) (h3 : P.underlying f3.type = some (.slice ti)) (h3e : P.underlying ti = some (.int .i64)) (h3c : P.cellsOf ti = 1) (h4 : P.underlying f4.type = some .bool)
    (hone : oneCellFields P #[f0, f1, f2, f3, f4] = true) (hC : P.cellsOf e = 5) (hf : DataW.trod enc P W base (fun _ => true) true fuel t cs = some x) :
    ∃ A c L, cs = [.slice A (List.length L) c] ∧ c ≤ maxLen ∧ List.length L ≤ c ∧ NdsAt W W.heap.size A L ∧ (∀ n ∈ L, Nd.ok n) ∧ (L = [] ∨ ∃ ds spare, x.1 = .slice ds spare ∧ List.length ds = List.length L ∧ ∀ n ∈ L, ∃ d ∈ ds, nodeD (H := H) n d) := by
  rcases open_slice ht hf with ⟨hcs, hx⟩ | ⟨a, len, cap, m, n, D, Pl, hcs, _, hl, hm, hmm, hx, hi⟩
  · exact ⟨none, 0, [], hcs, by simp [maxLen], by simp, NdsAt.nil, by simp, .inl rfl⟩
  · have hstep : ∀ i, i < m → ∃ (n : Nd) (K : Option Addr) (c : Nat), n.ok ∧ nodeD n (D i) ∧ IntsAt W W.heap.size K n.kids ∧ n.kids.length ≤ c ∧ (K = none → c = 0) ∧ (∀ j (hj : j < 5), W.cell? ((a.add (i * 5)).add j) = some ((n.row K c)[j]'(by simpa [Nd.row] using hj))) := by
      intro i him
      obtain ⟨cs', hc, ht'⟩ := hi i him
      rw [hC] at hc
      exact open_node he h0 h1 h2 h3 h3e h3c h4 hone hc ht'
    have hm1 : len ≤ m := by rw [hmm]; simpa using hl
    have hex : ∃ f : Nat → Nd, ∀ i, i < m → ∃ (K : Option Addr) (c : Nat), (f i).ok ∧ nodeD (f i) (D i) ∧ IntsAt W W.heap.size K (f i).kids ∧ (f i).kids.length ≤ c ∧ (K = none → c = 0) ∧ (∀ j (hj : j < 5), W.cell? ((a.add (i * 5)).add j) = some (((f i).row K c)[j]'(by simpa [Nd.row] using hj))) := by
      have h : ∀ i, ∃ x : Nd, i < m → ∃ (K : Option Addr) (c : Nat), x.ok ∧ nodeD x (D i) ∧ IntsAt W W.heap.size K x.kids ∧ x.kids.length ≤ c ∧ (K = none → c = 0) ∧ (∀ j (hj : j < 5), W.cell? ((a.add (i * 5)).add j) = some ((x.row K c)[j]'(by simpa [Nd.row] using hj))) := fun i => by
        by_cases hi' : i < m
        · obtain ⟨x, hx⟩ := hstep i hi'; exact ⟨x, fun _ => hx⟩
        · exact ⟨default, fun h => (hi' h).elim⟩
      exact ⟨fun i => Classical.choose (h i), fun i => Classical.choose_spec (h i)⟩
    obtain ⟨f, hf2⟩ := hex
    refine ⟨some a, cap, (List.range len).map f, by simp [hcs], hm, by simpa using hl, ?_, ?_, ?_⟩
    · intro hz
      have hz' : 0 < len := by simpa using hz
      obtain ⟨b, off, sh⟩ := a
      obtain ⟨K0, c0, _, _, _, _, _, hg0⟩ := hf2 0 (by omega)
      have hc0 := hg0 0 (by omega)
      cases sh with
      | some x => simp only [Addr.add, World.cell?] at hc0; split at hc0 <;> simp_all
      | none =>
        have hb : b < W.heap.size := World.block_lt_of_cell? W _ (by simpa using hc0)
        refine ⟨b, off, rfl, hb, fun k hk => ?_⟩
        have hk' : k < len := by simpa using hk
        have hnd : nd ((List.range len).map f) k = f k := by simp [nd, hk']
        rw [hnd]
        obtain ⟨K, c, _, _, hI, hkc, hA, hg⟩ := hf2 k (by omega)
        have ea : ∀ j, ((⟨b, off, none⟩ : Addr).add (k * 5)).add j = ⟨b, off + k * 5 + j, none⟩ := fun j => by
          rw [Go.Deep.add_add]
          simp only [Addr.add]; split <;> simp_all
        simp only [ea] at hg
        exact ⟨K, c, hg 0 (by omega), hg 1 (by omega), hg 2 (by omega), hg 3 (by omega), hg 4 (by omega), hI, hkc, hA⟩
    · intro n hn
      obtain ⟨i, hi', rfl⟩ := List.mem_map.1 hn
      obtain ⟨_, _, h, _⟩ := hf2 i (by have := List.mem_range.1 hi'; omega)
      exact h
    · refine .inr ⟨_, _, by rw [hx], by simp, fun n hn => ?_⟩
      obtain ⟨i, hi', rfl⟩ := List.mem_map.1 hn
      obtain ⟨_, _, _, h, _⟩ := hf2 i (by have := List.mem_range.1 hi'; omega)
      exact ⟨D i, List.mem_map.2 ⟨i, hi', rfl⟩, h⟩
theorem open_graph {r : Reach} {b0 : Nat} {tg e ti : TypeId} {g0 g1 f0 f1 f2 f3 f4 : Field} {v : Value} {d : DataW H} {ps : List MemPlace} (hg : P.underlying tg = some (.struct #[g0, g1])) (hgone : oneCellFields P #[g0, g1] = true) (hC2 : P.cellsOf tg = 2)
    (ht : P.underlying g0.type = some (.slice e)) (hr : P.underlying g1.type = some (.slice ti)) (he : P.underlying e = some (.struct #[f0, f1, f2, f3, f4]))
    (h0 : P.underlying f0.type = some (.int .i64)) (h1 : P.underlying f1.type = some .string) (h2 : P.underlying f2.type = some .string) (h3 : P.underlying f3.type = some (.slice ti)) (h3e : P.underlying ti = some (.int .i64)) (h3c : P.cellsOf ti = 1) (h4 : P.underlying f4.type = some .bool)
    (hone : oneCellFields P #[f0, f1, f2, f3, f4] = true) (hC : P.cellsOf e = 5) (hval : Value.okWide P W r b0 tg v) (hd : DataW.Trod enc P W base (fun _ => true) true tg v d ps) :
    ∃ G : Gr, GrAt W W.heap.size G v ∧ G.nodes.length ≤ maxLen ∧ G.roots.length ≤ maxLen ∧ (∀ n ∈ G.nodes, Nd.ok n) ∧ ∃ dn dr, d = .agg [dn, dr] ∧ (G.nodes = [] ∨ ∃ ds spare, dn = .slice ds spare ∧ List.length ds = List.length G.nodes ∧ ∀ n ∈ G.nodes, ∃ x ∈ ds, nodeD (H := H) n x) ∧ (G.roots = [] ∨ ∃ spare, dr = .slice (lits .i64 G.roots) (lits .i64 spare)) := by
  obtain ⟨cs, rfl, hcs⟩ := okWide_struct hg hval
  obtain ⟨fuel, hf⟩ := hd
  obtain ⟨y0, y1, n, hx, hlen, k0, k1⟩ := trod_struct2 hg hf
  obtain ⟨o0, c0⟩ := hone_of hgone 0 g0 rfl
  obtain ⟨o1, c1⟩ := hone_of hgone 1 g1 rfl
  have hl2 : cs.toList.length = 2 := by rw [Array.length_toList, hcs, hC2]
  have hcc : (Value.agg cs).cells.toList = cs.toList := rfl
  rw [hcc, o0, c0] at k0
  rw [hcc, o1, c1] at k1
  obtain ⟨us⟩ := cs
  match us, hl2 with
  | [u0, u1], _ =>
    simp only [List.drop, List.take] at k0 k1
    obtain ⟨A, c, L, e0, hcm, hlc, hN, hok, hdn⟩ := open_nodes ht he h0 h1 h2 h3 h3e h3c h4 hone hC k0
    obtain ⟨A2, c2, zs, e1, hz2, hcm2, hI2, hw2, _, hdr⟩ := open_intsF hr h3e h3c k1
    simp only [List.cons.injEq, and_true] at e0 e1
    subst e0 e1
    simp only [Prod.mk.injEq] at hx
    exact ⟨⟨L, zs⟩, ⟨_, _, _, _, rfl, hN, hI2⟩, Nat.le_trans hlc hcm, Nat.le_trans hz2 hcm2, hok, y0.1, y1.1, hx.1, hdn, hdr⟩
end
end Go.Proofs.YtdcbngimgpdjoaaDoor
