/- The law GraphRings. Condition: utf8's tables lie in the world. -/
import Derived.Test.YtdcbngimgpdjoaaDoorGrp
import Derived.Maps.AppendAt
namespace Go.Proofs.YtdcbngimgpdjoaaDoor
open Go.RowKit Go.Shelf Go.Deep
theorem Tryd.infoNode : (Tryd.prog.info? 33).map (fun i => (i.zero, i.size, i.bytes)) = some (some (.agg #[.int .i64 0, .string ⟨#[]⟩, .string ⟨#[]⟩, .slice none 0 0, .bool false]), 5, 72) := by kernel_rfl
def kidV (l : List Int) (b : Nat) : Value := if l = [] then .slice none 0 0 else .slice (some ⟨b, 0, none⟩) 1 1
def rrow (e : List Int × Nat) : List Value := [.int .i64 2, .string ⟨#[120]⟩, .string ⟨#[]⟩, kidV e.1 e.2, .bool false]
def rcells (L : List (List Int × Nat)) : List Value := L.flatMap rrow
theorem rcells_snoc (L : List (List Int × Nat)) (e : List Int × Nat) : rcells (L ++ [e]) = rcells L ++ rrow e := by simp [rcells]
theorem rcells_get : ∀ (L : List (List Int × Nat)) (k j : Nat) (h : k < L.length), j < 5 → (rcells L)[k * 5 + j]? = (rrow L[k])[j]? := by
  intro L
  induction L with
  | nil => intro k j h; simp at h
  | cons a L ih =>
    intro k j h hj
    have hl : (rrow a).length = 5 := rfl
    cases k with
    | zero => rw [rcells, List.flatMap_cons, List.getElem?_append_left (by omega)]; simp
    | succ k =>
      rw [rcells, List.flatMap_cons, List.getElem?_append_right (by omega), hl, show (k + 1) * 5 + j - 5 = k * 5 + j by omega]
      exact ih k j (by simpa using h) hj
/-- How the graph stands when k nodes were laid. -/
structure RingSt (V : World) (n back GB B0 : Nat) (k : Nat) (v : Value) (L : List (List Int × Nat)) (W : World) : Prop where
  below : Below GB V W
  size : V.heap.size ≤ W.heap.size
  box : W.heap[GB]? = some (.cells #[v, .slice (some ⟨B0, 0, none⟩) 1 1] 25 (0, 0))
  list : L.map (·.1) = (List.range k).map (ringK n back)
  own : W.ownsRow V.heap.size 33 5 v k (rcells L)
  kids : ∀ e ∈ L, ∀ z, e.1 = [z] → V.heap.size ≤ e.2 ∧ v.ownBlock ≠ some e.2 ∧ W.heap[e.2]? = some (.cells #[.int .i64 z] 3 (0, 0))
theorem RingSt.push {V : World} {n back GB B0 k : Nat} {v : Value} {L : List (List Int × Nat)} {W W3 w' : World} {o : Obj} {v' : Value} {b : Nat} (h : RingSt V n back GB B0 k v L W) (hGB : GB + 1 = V.heap.size)
    (hb3 : Below W.heap.size W W3) (hkid : ∀ z, ringK n back k = [z] → W.heap.size ≤ b ∧ b < W3.heap.size ∧ W3.heap[b]? = some (.cells #[.int .i64 z] 3 (0, 0)))
    (hg : (W3.alloc o).grownBy w' v.ownBlock) (hv : w'.ownsRow V.heap.size 33 5 v' (k + 1) (rcells (L ++ [(ringK n back k, b)]))) {g : Nat} (hg1 : v'.ownBlock = some g) (hg2 : v.ownBlock = some g ∨ g = W3.heap.size + 1) :
    (w'.cell? ⟨GB, 0, none⟩ = some v ∧ w'.frozen? ⟨GB, 0, none⟩ = false) ∧ RingSt V n back GB B0 (k + 1) v' (L ++ [(ringK n back k, b)]) (w'.setCell ⟨GB, 0, none⟩ v') := by
  have hs := h.size
  have hs3 := hb3.size
  have hoN : ∀ j, v.ownBlock = some j → V.heap.size ≤ j ∧ j < W.heap.size := by
    intro j hj
    rcases h.own.2 with ⟨rfl, _⟩ | ⟨g', cap, cur, rfl, hb', hg', _⟩
    · cases hj
    · cases hj; exact ⟨hb', (Array.getElem?_eq_some_iff.1 hg').1⟩
  have hk : ∀ j, j < W3.heap.size → v.ownBlock ≠ some j → w'.heap[j]? = W3.heap[j]? := fun j hj hne =>
    (hg.block j (by simp; omega) (fun e => hne e.symm)).trans (Below.heap_alloc W3 o j hj)
  have hlow : ∀ j, j < V.heap.size → w'.heap[j]? = W.heap[j]? := fun j hj => (hk j (by omega) fun e => by have := (hoN j e).1; omega).trans (hb3.block j (by omega))
  have hst : ∀ j, j ≠ GB → (w'.setCell ⟨GB, 0, none⟩ v').heap[j]? = w'.heap[j]? := fun j hj => Below.heap_setCell w' ⟨GB, 0, none⟩ v' j hj
  have hwB : w'.heap[GB]? = _ := (hlow GB (by omega)).trans h.box
  have hsz : W3.heap.size ≤ w'.heap.size := Nat.le_trans (by simp) hg.size
  have hgN : V.heap.size ≤ g := by
    rcases hg2 with e | rfl
    · exact (hoN g e).1
    · omega
  refine ⟨⟨Lib.cell_of_heap hwB 0, Go.Joins.unfrozen_of_block hwB 0⟩, ?_, by simp; omega, Go.Joins.block_setCell hwB v', ?_, ownsRow_same hv fun j hj _ => hst j (by rw [hg1] at hj; cases hj; omega), ?_⟩
  · refine ⟨hg.os.trans (hb3.os.trans h.below.os), hg.tape.trans (hb3.tape.trans h.below.tape), hg.output.trans (hb3.output.trans h.below.output), by have := h.below.size; simp; omega, fun j hj => (hst j (by omega)).trans ((hlow j (by omega)).trans (h.below.block j hj))⟩
  · rw [List.map_append, h.list, List.range_succ, List.map_append]; rfl
  · intro e he z hz
    rcases List.mem_append.1 he with he | he
    · obtain ⟨q1, q2, q3⟩ := h.kids e he z hz
      have hlt := (Array.getElem?_eq_some_iff.1 q3).1
      refine ⟨q1, ?_, (hst _ (by omega)).trans ((hk _ (by omega) q2).trans ((hb3.block _ hlt).trans q3))⟩
      rw [hg1]
      rcases hg2 with e2 | rfl
      · rw [← e2]; exact q2
      · intro e3; injection e3 with e3; omega
    · simp only [List.mem_singleton] at he
      subst he
      obtain ⟨q1, q2, q3⟩ := hkid z hz
      refine ⟨by show V.heap.size ≤ b; omega, ?_, (hst _ (by show b ≠ GB; omega)).trans ((hk _ q2 fun e => by have := (hoN b e).2; omega).trans q3)⟩
      rw [hg1]
      intro e
      have e' : g = b := by injection e
      subst e'
      rcases hg2 with e2 | rfl
      · have := (hoN g e2).2; omega
      · omega
theorem RingSt.graph {V : World} {n back GB B0 : Nat} {v : Value} {L : List (List Int × Nat)} {W : World} (h : RingSt V n back GB B0 n v L W) (hGB : GB + 1 = V.heap.size) (hn : 1 ≤ n)
    (hr : V.heap[B0]? = some (.cells #[.int .i64 0] 3 (0, 0))) (hV : B0 < GB) :
    ∃ g c, v = .slice (some ⟨g, 0, none⟩) n c ∧ GrAt W W.heap.size (ring n back) (.agg #[v, .slice (some ⟨B0, 0, none⟩) 1 1]) := by
  have hs := h.size
  have hl : L.length = n := by have := congrArg List.length h.list; simpa using this
  rcases h.own.2 with ⟨_, h0⟩ | ⟨g, cap, cur, hv, hb, hg, hc, _⟩
  · omega
  · refine ⟨g, cap, hv, ⟨some ⟨g, 0, none⟩, cap, _, 1, by rw [hv, ring_len]; rfl, ?_, ?_⟩⟩
    · intro _
      refine ⟨g, 0, rfl, (Array.getElem?_eq_some_iff.1 hg).1, fun k hk => ?_⟩
      rw [ring_len] at hk
      have hkl : k < L.length := by omega
      have he1 : L[k].1 = ringK n back k := by
        have := congrArg (·[k]?) h.list
        simpa [hkl, hk] using this
      have hcell : ∀ j, j < 5 → W.cell? ⟨g, k * 5 + j, none⟩ = (rrow L[k])[j]? := fun j hj => by
        have hown := h.own
        rw [hv] at hown
        rw [hown.cellAt (k * 5 + j) (by omega), rcells_get L k j hkl hj]
      rw [ring_nd hk]
      have hkz : ringK n back k = [] ∨ ∃ z, ringK n back k = [z] := by
        unfold ringK
        split
        · exact .inr ⟨_, rfl⟩
        · split
          · exact .inr ⟨_, rfl⟩
          · exact .inl rfl
      rcases hkz with hz | ⟨z, hz⟩
      · refine ⟨none, 0, ⟨by rw [Nat.zero_add]; exact hcell 0 (by omega), by rw [Nat.zero_add]; exact hcell 1 (by omega), by rw [Nat.zero_add]; exact hcell 2 (by omega), ?_, by rw [Nat.zero_add]; exact hcell 4 (by omega), ?_, by simp [ringN, hz], fun _ => rfl⟩⟩
        · rw [Nat.zero_add, hcell 3 (by omega)]
          simp [rrow, kidV, he1, hz, ringN]
        · intro h1; simp [ringN, hz] at h1
      · obtain ⟨q1, q2, q3⟩ := h.kids L[k] (List.getElem_mem hkl) z (he1.trans hz)
        refine ⟨some ⟨L[k].2, 0, none⟩, 1, ⟨by rw [Nat.zero_add]; exact hcell 0 (by omega), by rw [Nat.zero_add]; exact hcell 1 (by omega), by rw [Nat.zero_add]; exact hcell 2 (by omega), ?_, by rw [Nat.zero_add]; exact hcell 4 (by omega), ?_, by simp [ringN, hz], fun e => by cases e⟩⟩
        · rw [Nat.zero_add, hcell 3 (by omega)]
          simp [rrow, kidV, he1, hz, ringN]
        · simp only [ringN, hz]
          exact ints_one (Array.getElem?_eq_some_iff.1 q3).1 q3
    · exact ints_one (by omega) ((h.below.block _ (by omega)).trans hr)
theorem two_allocs (w : World) (o1 o2 : Obj) : ∃ X, (w.alloc o1).alloc o2 = X ∧ Below w.heap.size w X ∧ X.heap[w.heap.size]? = some o1 ∧ X.heap[w.heap.size + 1]? = some o2 ∧ X.heap.size = w.heap.size + 2 := by
  refine ⟨_, rfl, ((Below.refl _ w).alloc (Nat.le_refl _) _).alloc (by simp) _, (Below.heap_alloc _ _ _ (by simp)).trans (World.alloc_heap_new w o1), ?_, by simp⟩
  have := World.alloc_heap_new (w.alloc o1) o2
  rwa [World.size_alloc] at this
theorem one_alloc (w : World) (o1 : Obj) : ∃ X, w.alloc o1 = X ∧ Below w.heap.size w X ∧ X.heap[w.heap.size]? = some o1 ∧ X.heap.size = w.heap.size + 1 :=
  ⟨_, rfl, (Below.refl _ w).alloc (Nat.le_refl _) _, World.alloc_heap_new w o1, by simp⟩
/-- 'append' of one node to the graph's row. -/
theorem wpList_appN {W : World} {ops : Array Oper} {rest : List Oper} {o : Oper} {a : Act} {Q : Exit → Act → World → Prop} (hgd : o.guard = none) (s x : Operand) (t : TypeId)
    (ho : o.op = .call { callee := .builtin .append, args := #[s, x], argTypes := #[t, t] }) (ht : Tryd.prog.underlying t = some (.slice 33)) {N : Nat} (v : Value) (L : List (List Int × Nat)) (k : Nat) (e : List Int × Nat) (kv : Value) (hkv : kidV e.1 e.2 = kv)
    (hs : a.eval s = v) (h : W.ownsRow N 33 5 v k (rcells L)) (n0 : Nat) (hn0 : n0 = W.heap.size) (hx : a.eval x = .slice (some ⟨n0, 0, none⟩) 1 1) (hl : k ≤ 1000) (hB : N ≤ W.heap.size)
    (K : ∀ v' w', w'.ownsRow N 33 5 v' (k + 1) (rcells (L ++ [e])) → (W.alloc (.cells #[.int .i64 2, .string ⟨#[120]⟩, .string ⟨#[]⟩, kv, .bool false] 33)).grownBy w' v.ownBlock → (∃ g cap, v' = .slice (some ⟨g, 0, none⟩) (k + 1) cap ∧ (v.ownBlock = some g ∨ g = W.heap.size + 1)) → wpList Tryd.prog ops Q rest (a.put o.dst v') w') :
    wpList Tryd.prog ops Q (o :: rest) a (W.alloc (.cells #[.int .i64 2, .string ⟨#[120]⟩, .string ⟨#[]⟩, kv, .bool false] 33)) := by
  obtain ⟨i0, hi, hz0, hz1, hz2⟩ := info_parts Tryd.infoNode
  subst hkv
  refine wpList_append_own_at _ hgd s x t ho N _ i0 _ 5 72 ht hi hz0 hz1 hz2 rfl (by decide) _ _ _ hs (h.alloc _) ⟨n0, 0, none⟩ 1 1 (rrow e) hx rfl ?_ (fun u hu => ?_) (by unfold maxLen; omega) (by omega) (by simp; omega) ?_
  · intro j u hj
    subst hn0
    match j, hj with
    | 0, hj => simp [rrow] at hj; subst hj; simp [Addr.add]
    | 1, hj => simp [rrow] at hj; subst hj; simp [Addr.add]
    | 2, hj => simp [rrow] at hj; subst hj; simp [Addr.add]
    | 3, hj => simp [rrow] at hj; subst hj; simp [Addr.add]
    | 4, hj => simp [rrow] at hj; subst hj; simp [Addr.add]
    | j + 5, hj => simp [rrow] at hj
  · simp [rrow] at hu
    rcases hu with rfl | rfl | rfl | rfl | rfl
    · rfl
    · rfl
    · rfl
    · unfold kidV; split <;> rfl
    · rfl
  · intro v' w' h1 h2 h3 h4
    refine K v' w' (by rw [rcells_snoc]; exact h1) h2 ?_
    rcases h1.2 with ⟨_, h0⟩ | ⟨g', cap', cur', rfl, _⟩
    · omega
    · refine ⟨g', cap', rfl, ?_⟩
      rcases h4 with h4 | h4
      · exact .inl h4.symm
      · right; simpa [Value.ownBlock] using h4
set_option maxRecDepth 100000 in
set_option maxHeartbeats 4000000 in
theorem graphRings_in (w : World) (hT : Tabs w) (n back : Nat) (hn : 1 ≤ n) (hn2 : n ≤ 50) (hb : back ≤ n) :
    Calls Tryd.prog 5 #[.int .i64 (n : Int), .int .i64 (back : Int)] w fun e w' => e = .returned (.bool true) ∧ Below w.heap.size w w' := by
  have HA : Hid (Calls Tryd.prog 16 #[] w fun e w' => e = .returned (.bool true) ∧ Below w.heap.size w w') := alive_any w hT
  have HTb : Hid (∀ W, Below w.heap.size w W → Tabs W) := fun W h => hT.below h
  have g1 : ¬ (n : Int) < 1 := by omega
  have g2 : ¬ (50 : Int) < (n : Int) := by omega
  have g3 : ¬ (back : Int) < 0 := by omega
  have g4 : ¬ (n : Int) < (back : Int) := by omega
  have g1d := decide_eq_false g1
  have g2d := decide_eq_false g2
  have g3d := decide_eq_false g3
  have g4d := decide_eq_false g4
  have g4n : decide (n < back) = false := decide_eq_false (by omega)
  have Hn := Lib.hid hn
  have Hn2 := Lib.hid hn2
  have Hb := Lib.hid hb
  clear hT hn hn2 hb
  go_enter Tryd.func5, Tryd.ntmps5
  go_wp2_with (
    go_at_call 16
    refine HA.out.mono ?_
    rintro e w1 ⟨rfl, hb1⟩
    obtain ⟨V1, h1, b1, r1, s1⟩ := boxN w1 #[.int .i64 0] 3
    obtain ⟨V, h2, b2, r2, s2⟩ := boxN V1 #[.slice none 0 0, .slice (some ⟨w1.heap.size, 0, none⟩) 1 1] 25
    have HV : Hid (Below w.heap.size w V ∧ V.heap.size = V1.heap.size + 1 ∧ V1.heap.size = w1.heap.size + 1 ∧ V.heap[w1.heap.size]? = some (.cells #[.int .i64 0] 3 (0, 0)) ∧ w.heap.size ≤ w1.heap.size) := ⟨below_then hb1 (below_then b1 b2), s2, s1, (b2.block _ (by omega)).trans r1, hb1.size⟩
    have HS0 : Hid (RingSt V n back V1.heap.size w1.heap.size 0 (.slice none 0 0) [] V) := ⟨Below.refl _ _, Nat.le_refl _, r2, rfl, ⟨rfl, .inl ⟨rfl, rfl⟩⟩, by simp⟩
    clear hb1 b1 r1 s1 b2 r2 s2)
  clear h1 h2
  generalize hGe : V1.heap.size = GB at *
  generalize hBe : w1.heap.size = B0 at *
  clear hGe hBe V1 w1 HA g1 g2 g3 g4 g1d g2d g3d g4d g4n
  go_loopw [7] (fun i wr => ∃ k : Nat, k ≤ n ∧ i = .int .i64 (k : Int) ∧ ∃ v L, Hid (RingSt V n back GB B0 k v L wr)) (fun i _ => n - (intOf i).toNat)
  case atStart => exact ⟨0, Nat.zero_le _, rfl, _, [], HS0⟩
  case round =>
    obtain ⟨k, hk, rfl, v, L, hst⟩ := hrel
    by_cases hkn : k < n
    · have hkn' : (k : Int) < (n : Int) := by omega
      have hgb := Lib.cell_of_heap hst.out.box 0
      have hfz := Go.Joins.unfrozen_of_block hst.out.box 0
      have hkw : wrap64 ((k : Int) + 1) = k + 1 := IntWalk.wrap64_in _ (by have := Hn2.out; omega)
      have hGl : GB < wr.heap.size := (Array.getElem?_eq_some_iff.1 hst.out.box).1
      by_cases hc1 : k + 1 < n
      · have hc1' : (k : Int) + 1 < (n : Int) := by omega
        have hrk : ringK n back k = [((k + 1 : Nat) : Int)] := by unfold ringK; rw [if_pos hc1]
        obtain ⟨X3, hX3, hb3, hxr, hkr, hs3⟩ := two_allocs wr (.cells #[.int .i64 2, .string ⟨#[120]⟩, .string ⟨#[]⟩, .slice (some ⟨wr.heap.size + 1, 0, none⟩) 1 1, .bool false] 33) (.cells #[.int .i64 ((k : Int) + 1)] 3)
        have hgb3 : X3.cell? ⟨GB, 0, none⟩ = some v := (hb3.cell (p := ⟨GB, 0, none⟩) hGl).trans hgb
        have hx0 := Lib.cell_of_heap hxr 0
        have hx1 := Lib.cell_of_heap hxr 1
        have hx2 := Lib.cell_of_heap hxr 2
        have hx3 := Lib.cell_of_heap hxr 3
        have hx4 := Lib.cell_of_heap hxr 4
        have hown3 : X3.ownsRow V.heap.size 33 5 v k (rcells L) := ownsRow_same hst.out.own fun g _ hl => hb3.block g hl
        have hsv : V.heap.size ≤ X3.heap.size := Nat.le_trans hst.out.size hb3.size
        have HP := Lib.hid (fun (w' : World) (v' : Value) (o : Obj) (g : Nat) (a1 : (X3.alloc o).grownBy w' v.ownBlock) a2 (a3 : v'.ownBlock = some g) a4 => RingSt.push (b := wr.heap.size + 1) hst.out HV.out.2.1.symm hb3 (fun z hz => by rw [hrk] at hz; simp at hz; subst hz; exact ⟨by omega, by omega, by rw [hkr]⟩) a1 a2 a3 a4)
        have hl : k ≤ 1000 := by have := Hn2.out; omega
        clear hxr hs3 hb3 hGl hkr
        go_wp2_with (at_builtin; refine wpList_appN rfl _ _ _ rfl rfl v L k (ringK n back k, wr.heap.size + 1) (.slice (some ⟨wr.heap.size + 1, 0, none⟩) 1 1) (by simp [kidV, hrk]) rfl hown3 _ rfl rfl hl hsv ?_; rintro v' w' q1 q2 ⟨g, cap, rfl, q4⟩; obtain ⟨⟨z1, z2⟩, HE⟩ := HP.out w' _ _ g q2 q1 rfl q4; have HE2 := Lib.hid HE; clear HE q1 q2 hown3 hsv)
        go_roundw
        case rel => exact ⟨k + 1, by omega, by go_num, _, _, HE2⟩
        case measure => simp [intOf]; omega
      · have hc1' : ¬ (k : Int) + 1 < (n : Int) := by omega
        have hc1d := decide_eq_false hc1'
        by_cases hc2 : back < n
        · have hc2' : (back : Int) < (n : Int) := by omega
          have hrk : ringK n back k = [(back : Int)] := by unfold ringK; rw [if_neg hc1, if_pos hc2]
          obtain ⟨X3, hX3, hb3, hxr, hkr, hs3⟩ := two_allocs wr (.cells #[.int .i64 2, .string ⟨#[120]⟩, .string ⟨#[]⟩, .slice (some ⟨wr.heap.size + 1, 0, none⟩) 1 1, .bool false] 33) (.cells #[.int .i64 (back : Int)] 3)
          have hgb3 : X3.cell? ⟨GB, 0, none⟩ = some v := (hb3.cell (p := ⟨GB, 0, none⟩) hGl).trans hgb
          have hx0 := Lib.cell_of_heap hxr 0
          have hx1 := Lib.cell_of_heap hxr 1
          have hx2 := Lib.cell_of_heap hxr 2
          have hx3 := Lib.cell_of_heap hxr 3
          have hx4 := Lib.cell_of_heap hxr 4
          have hown3 : X3.ownsRow V.heap.size 33 5 v k (rcells L) := ownsRow_same hst.out.own fun g _ hl => hb3.block g hl
          have hsv : V.heap.size ≤ X3.heap.size := Nat.le_trans hst.out.size hb3.size
          have HP := Lib.hid (fun (w' : World) (v' : Value) (o : Obj) (g : Nat) (a1 : (X3.alloc o).grownBy w' v.ownBlock) a2 (a3 : v'.ownBlock = some g) a4 => RingSt.push (b := wr.heap.size + 1) hst.out HV.out.2.1.symm hb3 (fun z hz => by rw [hrk] at hz; simp at hz; subst hz; exact ⟨by omega, by omega, hkr⟩) a1 a2 a3 a4)
          have hl : k ≤ 1000 := by have := Hn2.out; omega
          clear hxr hs3 hb3 hGl hkr
          go_wp2_with (at_builtin; refine wpList_appN rfl _ _ _ rfl rfl v L k (ringK n back k, wr.heap.size + 1) (.slice (some ⟨wr.heap.size + 1, 0, none⟩) 1 1) (by simp [kidV, hrk]) rfl hown3 _ rfl rfl hl hsv ?_; rintro v' w' q1 q2 ⟨g, cap, rfl, q4⟩; obtain ⟨⟨z1, z2⟩, HE⟩ := HP.out w' _ _ g q2 q1 rfl q4; have HE2 := Lib.hid HE; clear HE q1 q2 hown3 hsv)
          go_roundw
          case rel => exact ⟨k + 1, by omega, by go_num, _, _, HE2⟩
          case measure => simp [intOf]; omega
        · have hc2' : ¬ (back : Int) < (n : Int) := by omega
          have hc2d := decide_eq_false hc2'
          have hrk : ringK n back k = [] := by unfold ringK; rw [if_neg hc1, if_neg hc2]
          obtain ⟨X3, hX3, hb3, hxr, hs3⟩ := one_alloc wr (.cells #[.int .i64 2, .string ⟨#[120]⟩, .string ⟨#[]⟩, .slice none 0 0, .bool false] 33)
          have hgb3 : X3.cell? ⟨GB, 0, none⟩ = some v := (hb3.cell (p := ⟨GB, 0, none⟩) hGl).trans hgb
          have hx0 := Lib.cell_of_heap hxr 0
          have hx1 := Lib.cell_of_heap hxr 1
          have hx2 := Lib.cell_of_heap hxr 2
          have hx3 := Lib.cell_of_heap hxr 3
          have hx4 := Lib.cell_of_heap hxr 4
          have hown3 : X3.ownsRow V.heap.size 33 5 v k (rcells L) := ownsRow_same hst.out.own fun g _ hl => hb3.block g hl
          have hsv : V.heap.size ≤ X3.heap.size := Nat.le_trans hst.out.size hb3.size
          have HP := Lib.hid (fun (w' : World) (v' : Value) (o : Obj) (g : Nat) (a1 : (X3.alloc o).grownBy w' v.ownBlock) a2 (a3 : v'.ownBlock = some g) a4 => RingSt.push (b := wr.heap.size + 1) hst.out HV.out.2.1.symm hb3 (fun z hz => by rw [hrk] at hz; simp at hz) a1 a2 a3 a4)
          have hl : k ≤ 1000 := by have := Hn2.out; omega
          clear hxr hs3 hb3 hGl
          subst hX3
          go_wp2_with (at_builtin; refine wpList_appN rfl _ _ _ rfl rfl v L k (ringK n back k, wr.heap.size + 1) (.slice none 0 0) (by simp [kidV, hrk]) rfl hown3 (wr.heap.size + 1) (by simp) rfl hl hsv ?_; rintro v' w' q1 q2 ⟨g, cap, rfl, q4⟩; obtain ⟨⟨z1, z2⟩, HE⟩ := HP.out w' _ _ g q2 q1 rfl q4; have HE2 := Lib.hid HE; clear HE q1 q2 hown3 hsv)
          go_roundw
          case rel => exact ⟨k + 1, by omega, by go_num, _, _, HE2⟩
          case measure => simp [intOf]; omega
    · obtain rfl : k = n := by omega
      have hkn' : ¬ (k : Int) < (k : Int) := by omega
      obtain ⟨hv1, hv2, hv3, hv4, hv5⟩ := HV.out
      have hsO := hst.out
      have hbw : Below w.heap.size w wr := hv1.trans (hsO.below.mono (by omega))
      obtain ⟨g, c, rfl, hG⟩ := hsO.graph (by omega) Hn.out hv4 (by omega)
      have hbox := hsO.box
      have HG : Hid (∀ W, Below wr.heap.size wr W → GrAt W W.heap.size (ring k back) (.agg #[.slice (some ⟨g, 0, none⟩) k c, .slice (some ⟨B0, 0, none⟩) 1 1]) ∧ Tabs W) := fun W hW => ⟨(hG.below hW (Nat.le_refl _)).more hW.size, HTb.out W (hbw.trans (hW.mono hbw.size))⟩
      have HC : Hid (∀ W, Below wr.heap.size wr W → W.cell? ⟨GB, 0, none⟩ = some (.slice (some ⟨g, 0, none⟩) k c) ∧ W.cell? ⟨GB, 1, none⟩ = some (.slice (some ⟨B0, 0, none⟩) 1 1)) := fun W hW => by
        have hq := (hW.block GB (Array.getElem?_eq_some_iff.1 hbox).1).trans hbox
        exact ⟨Lib.cell_of_heap hq 0, Lib.cell_of_heap hq 1⟩
      obtain ⟨e0, e1⟩ := HC.out wr (Below.refl _ _)
      have hok := ring_ok k back Hn2.out (by have := Hb.out; have := Hn2.out; omega)
      have HU : Hid (Calls Tryd.prog 25 #[.agg #[.slice (some ⟨g, 0, none⟩) k c, .slice (some ⟨B0, 0, none⟩) 1 1], .int .i64 0] wr fun e w' => ∃ A c', e = .returned (.slice A k c') ∧ IntsAt w' w'.heap.size A (((List.range k).map fun j => if j = back then 2 else 1).map Int.ofNat) ∧ Below wr.heap.size wr w') := by
        refine (Uses_any (ring k back) _ 0 wr (HG.out wr (Below.refl _ _)).1 hok (HG.out wr (Below.refl _ _)).2).mono ?_
        rintro e w' ⟨u, rfl, ⟨A, c', rfl, hI, _, _⟩, hb⟩
        rw [ring_uses Hn.out Hn2.out] at hI ⊢
        exact ⟨A, c', by simp, hI, hb⟩
      have HCy : Hid (∀ W (r : Nat) (z : Int), Below wr.heap.size wr W → r < k → z = (r : Int) → Calls Tryd.prog 23 #[.agg #[.slice (some ⟨g, 0, none⟩) k c, .slice (some ⟨B0, 0, none⟩) 1 1], .int .i64 z] W fun e w' => e = .returned (.bool (decide (back < k))) ∧ Below W.heap.size W w') := fun W r z hW hr hz => by
        subst hz
        have := Cyclic_any (ring k back) _ r W (HG.out W hW).1 hok (HG.out W hW).2
        rwa [ring_cyc Hn.out Hn2.out hr] at this
      have HRe : Hid (∀ W, Below wr.heap.size wr W → Calls Tryd.prog 21 #[.agg #[.slice (some ⟨g, 0, none⟩) k c, .slice (some ⟨B0, 0, none⟩) 1 1], .int .i64 0] W fun e w' => ∃ A c', e = .returned (.slice A k c') ∧ Below W.heap.size W w') := fun W hW => by
        refine (Reach_any (ring k back) _ 0 W (HG.out W hW).1 hok (HG.out W hW).2).mono ?_
        rintro e w' ⟨u, rfl, ⟨A, c', rfl, _⟩, hb⟩
        rw [ring_reach Hn.out Hn2.out]
        exact ⟨A, c', rfl, hb⟩
      have Hbw := Lib.hid hbw
      clear hsO hst hbw hG hbox hok HG HTb hv1 hv2 hv3 hv4 hv5 HV HS0 hk
      go_wp2_with (go_at_call 25; refine HU.out.mono ?_; rintro e w5 ⟨A, c', rfl, hI, hb5⟩; have HI := Lib.hid hI; have Hb5 := Lib.hid hb5; clear hI hb5)
      clear HU e0 e1
      go_loop [10] (fun i => ∃ j : Nat, j ≤ k ∧ i = .int .i64 (j : Int)) (fun i => k - (intOf i).toNat)
      case atStart => exact ⟨0, Nat.zero_le _, rfl⟩
      case round =>
        obtain ⟨j, hj, rfl⟩ := hrel
        by_cases hjk : j < k
        · have hjk' : (j : Int) < (k : Int) := by omega
          obtain ⟨b, off, rfl, hbl, hc⟩ := HI.out (by simp; have := Hn.out; omega)
          have hcj := hc j (by simpa using hjk)
          have hnth : nth (((List.range k).map fun j => if j = back then 2 else 1).map Int.ofNat) j = if j = back then 2 else 1 := by
            simp only [nth, List.map_map, List.getD_eq_getElem?_getD, List.getElem?_map, List.getElem?_range hjk, Option.map_some, Option.getD_some, Function.comp]
            split <;> rfl
          rw [hnth] at hcj
          clear hc hbl hnth
          have hjw : Hid (wrap64 ((j : Int) + 1) = j + 1) := IntWalk.wrap64_in _ (by have := Hn2.out; omega)
          have hmz : ∀ z : Int, z = j + 1 → k - (intOf (.int .i64 z)).toNat < k - (intOf (.int .i64 (j : Int))).toNat := by intro z hz; subst hz; simp only [intOf]; omega
          by_cases hjb : j = back
          · subst hjb
            rw [if_pos rfl] at hcj
            go_wp2_with fail
            go_round
            case rel => exact ⟨j + 1, by omega, by rw [hjw.out]; simp⟩
            case measure => exact hmz _ hjw.out
          · rw [if_neg hjb] at hcj
            have hjb' : ((j : Int) == (back : Int)) = false := beq_eq_false_iff_ne.2 (by omega)
            go_wp2_with fail
            go_round
            case rel => exact ⟨j + 1, by omega, by rw [hjw.out]; simp⟩
            case measure => exact hmz _ hjw.out
        · obtain rfl : j = k := by omega
          have hkn'' : ¬ (j : Int) < (j : Int) := by omega
          obtain ⟨x0, x1⟩ := HC.out w5 Hb5.out
          have hkm : wrap64 ((j : Int) - 1) = j - 1 := IntWalk.wrap64_in _ (by have := Hn2.out; have := Hn.out; omega)
          by_cases hbk : back < j
          · have hbd : decide (back < j) = true := by simp [hbk]
            have hbk' : (back : Int) < (j : Int) := by omega
            rw [hbd] at HCy
            have HCy1 : Hid (∀ W, Below wr.heap.size wr W → Calls Tryd.prog 23 #[.agg #[.slice (some ⟨g, 0, none⟩) j c, .slice (some ⟨B0, 0, none⟩) 1 1], .int .i64 0] W fun e w' => e = .returned (.bool true) ∧ Below W.heap.size W w') := fun W hW => HCy.out W 0 0 hW (by have := Hn.out; omega) rfl
            have HCy2 : Hid (∀ W, Below wr.heap.size wr W → Calls Tryd.prog 23 #[.agg #[.slice (some ⟨g, 0, none⟩) j c, .slice (some ⟨B0, 0, none⟩) 1 1], .int .i64 ((j : Int) - 1)] W fun e w' => e = .returned (.bool true) ∧ Below W.heap.size W w') := fun W hW => HCy.out W (j - 1) _ hW (by have := Hn.out; omega) (by have := Hn.out; omega)
            clear HCy hbd HI hj hjk
            go_wp2_with (first
              | (go_at_call 23; have _ := Hb6; refine (HCy2.out w6 Hb6.out).mono ?_; rintro e w7 ⟨rfl, hb7⟩; have Hb7 := Lib.hid (Hb6.out.trans (hb7.mono Hb6.out.size)); obtain ⟨z0, z1⟩ := HC.out w7 Hb7.out; clear hb7)
              | (go_at_call 23; refine (HCy1.out w5 Hb5.out).mono ?_; rintro e w6 ⟨rfl, hb6⟩; have Hb6 := Lib.hid (Hb5.out.trans (hb6.mono Hb5.out.size)); obtain ⟨y0, y1⟩ := HC.out w6 Hb6.out; clear hb6)
              | (go_at_call 21; refine (HRe.out w7 Hb7.out).mono ?_; rintro e w8 ⟨A8, c8, rfl, hb8⟩; have Hb8 := Lib.hid (Hb7.out.trans (hb8.mono Hb7.out.size)); clear hb8))
            go_ret
            exact ⟨by first | rfl | simp, Hbw.out.trans (Hb8.out.mono Hbw.out.size)⟩
          · have hbd : decide (back < j) = false := by simp [hbk]
            have hbk' : ¬ (back : Int) < (j : Int) := by omega
            have hbk2 := decide_eq_false hbk'
            rw [hbd] at HCy
            have HCy1 : Hid (∀ W, Below wr.heap.size wr W → Calls Tryd.prog 23 #[.agg #[.slice (some ⟨g, 0, none⟩) j c, .slice (some ⟨B0, 0, none⟩) 1 1], .int .i64 0] W fun e w' => e = .returned (.bool false) ∧ Below W.heap.size W w') := fun W hW => HCy.out W 0 0 hW (by have := Hn.out; omega) rfl
            have HCy2 : Hid (∀ W, Below wr.heap.size wr W → Calls Tryd.prog 23 #[.agg #[.slice (some ⟨g, 0, none⟩) j c, .slice (some ⟨B0, 0, none⟩) 1 1], .int .i64 ((j : Int) - 1)] W fun e w' => e = .returned (.bool false) ∧ Below W.heap.size W w') := fun W hW => HCy.out W (j - 1) _ hW (by have := Hn.out; omega) (by have := Hn.out; omega)
            clear HCy hbd HI hj hjk
            go_wp2_with (first
              | (go_at_call 23; have _ := Hb6; refine (HCy2.out w6 Hb6.out).mono ?_; rintro e w7 ⟨rfl, hb7⟩; have Hb7 := Lib.hid (Hb6.out.trans (hb7.mono Hb6.out.size)); obtain ⟨z0, z1⟩ := HC.out w7 Hb7.out; clear hb7)
              | (go_at_call 23; refine (HCy1.out w5 Hb5.out).mono ?_; rintro e w6 ⟨rfl, hb6⟩; have Hb6 := Lib.hid (Hb5.out.trans (hb6.mono Hb5.out.size)); obtain ⟨y0, y1⟩ := HC.out w6 Hb6.out; clear hb6)
              | (go_at_call 21; refine (HRe.out w7 Hb7.out).mono ?_; rintro e w8 ⟨A8, c8, rfl, hb8⟩; have Hb8 := Lib.hid (Hb7.out.trans (hb8.mono Hb7.out.size)); clear hb8))
            go_ret
            exact ⟨by first | rfl | simp, Hbw.out.trans (Hb8.out.mono Hbw.out.size)⟩
set_option maxRecDepth 100000 in
set_option maxHeartbeats 4000000 in
theorem graphRings_out (w : World) (hT : Tabs w) (n back : Int) (h : n < 1 ∨ (¬ n < 1 ∧ 50 < n) ∨ (¬ n < 1 ∧ ¬ 50 < n ∧ back < 0) ∨ (¬ n < 1 ∧ ¬ 50 < n ∧ ¬ back < 0 ∧ n < back)) :
    Calls Tryd.prog 5 #[.int .i64 n, .int .i64 back] w fun e w' => e = .returned (.bool true) ∧ Below w.heap.size w w' := by
  have HA : Hid (Calls Tryd.prog 16 #[] w fun e w' => e = .returned (.bool true) ∧ Below w.heap.size w w') := alive_any w hT
  clear hT
  rcases h with h1 | ⟨h1, h2⟩ | ⟨h1, h2, h3⟩ | ⟨h1, h2, h3, h4⟩
  · go_enter Tryd.func5, Tryd.ntmps5
    go_wp2_with (go_at_call 16; refine HA.out.mono ?_; rintro e w1 ⟨rfl, hb1⟩)
    go_ret
    exact ⟨rfl, hb1⟩
  · have d1 := decide_eq_false h1
    go_enter Tryd.func5, Tryd.ntmps5
    go_wp2_with (go_at_call 16; refine HA.out.mono ?_; rintro e w1 ⟨rfl, hb1⟩)
    go_ret
    exact ⟨rfl, hb1⟩
  · have d1 := decide_eq_false h1
    have d2 := decide_eq_false h2
    go_enter Tryd.func5, Tryd.ntmps5
    go_wp2_with (go_at_call 16; refine HA.out.mono ?_; rintro e w1 ⟨rfl, hb1⟩)
    go_ret
    exact ⟨rfl, hb1⟩
  · have d1 := decide_eq_false h1
    have d2 := decide_eq_false h2
    have d3 := decide_eq_false h3
    go_enter Tryd.func5, Tryd.ntmps5
    go_wp2_with (go_at_call 16; refine HA.out.mono ?_; rintro e w1 ⟨rfl, hb1⟩)
    go_ret
    exact ⟨rfl, hb1⟩
theorem graphRings_walk (w : World) (hT : Tabs w) (n : Int) (_ : (Lit.int .i64 n).wf = true) (back : Int) (_ : (Lit.int .i64 back).wf = true) :
    Calls Tryd.prog 5 #[.int .i64 n, .int .i64 back] w fun e w' => e = .returned (.bool true) ∧ Below w.heap.size w w' := by
  by_cases h1 : n < 1
  · exact graphRings_out w hT n back (.inl h1)
  · by_cases h2 : 50 < n
    · exact graphRings_out w hT n back (.inr (.inl ⟨h1, h2⟩))
    · by_cases h3 : back < 0
      · exact graphRings_out w hT n back (.inr (.inr (.inl ⟨h1, h2, h3⟩)))
      · by_cases h4 : n < back
        · exact graphRings_out w hT n back (.inr (.inr (.inr ⟨h1, h2, h3, h4⟩)))
        · obtain ⟨a, rfl⟩ : ∃ a : Nat, n = a := ⟨n.toNat, by omega⟩
          obtain ⟨b, rfl⟩ : ∃ b : Nat, back = b := ⟨back.toNat, by omega⟩
          exact graphRings_in w hT a b (by omega) (by omega) (by omega)
end Go.Proofs.YtdcbngimgpdjoaaDoor
