/- Nodes and graphs as the walks take them: a node lies in five cells, its Kids in a row of their own. No condition. -/
import Derived.Test.YtdcbngimgpdjoaaDoorGv
import Derived.Test.YtdcbngimgpdjoaaDoorGsh
import Derived.Deep.Slices
import Derived.Deep.Fields
import Derived.ChangeSame
namespace Go.Proofs.YtdcbngimgpdjoaaDoor
open Go.ChangeShapes Go.WideShapes Go.ChangeAt Go.RowKit Go.Deep
structure Nd where
  kind : Int
  tag : ByteArray
  text : ByteArray
  kids : List Int
  plain : Bool
instance : Inhabited Nd := ⟨⟨0, ⟨#[]⟩, ⟨#[]⟩, [], false⟩⟩
/-- Its numbers are ints, its texts and its Kids no longer than an int. -/
structure Nd.ok (e : Nd) : Prop where
  kind : (Lit.int .i64 e.kind).wf = true
  tag : e.tag.size ≤ maxLen
  text : e.text.size ≤ maxLen
  kids : e.kids.length ≤ maxLen
  each : ∀ z ∈ e.kids, (Lit.int .i64 z).wf = true
/-- A node's value, its Kids at K of room c. -/
def Nd.row (e : Nd) (K : Option Addr) (c : Nat) : Array Value := #[.int .i64 e.kind, .string e.tag, .string e.text, .slice K e.kids.length c, .bool e.plain]
/-- A node lies at a place, its Kids at K. -/
structure NdAt (w : World) (B b o : Nat) (e : Nd) (K : Option Addr) (c : Nat) : Prop where
  c0 : w.cell? ⟨b, o, none⟩ = some (.int .i64 e.kind)
  c1 : w.cell? ⟨b, o + 1, none⟩ = some (.string e.tag)
  c2 : w.cell? ⟨b, o + 2, none⟩ = some (.string e.text)
  c3 : w.cell? ⟨b, o + 3, none⟩ = some (.slice K e.kids.length c)
  c4 : w.cell? ⟨b, o + 4, none⟩ = some (.bool e.plain)
  kids : IntsAt w B K e.kids
  room : e.kids.length ≤ c
  nil : K = none → c = 0
theorem NdAt.below {w w' : World} {B B' b o : Nat} {e : Nd} {K : Option Addr} {c : Nat} (h : NdAt w B b o e K c) (hb : Below B' w w') (hB : B ≤ B') (hbB : b < B) : NdAt w' B b o e K c := by
  have hB' : b < B' := Nat.lt_of_lt_of_le hbB hB
  exact ⟨(hb.cell (p := ⟨b, o, none⟩) hB').trans h.c0, (hb.cell (p := ⟨b, o + 1, none⟩) hB').trans h.c1, (hb.cell (p := ⟨b, o + 2, none⟩) hB').trans h.c2,
    (hb.cell (p := ⟨b, o + 3, none⟩) hB').trans h.c3, (hb.cell (p := ⟨b, o + 4, none⟩) hB').trans h.c4, h.kids.below hb hB, h.room, h.nil⟩
theorem NdAt.more {w : World} {B B' b o : Nat} {e : Nd} {K : Option Addr} {c : Nat} (h : NdAt w B b o e K c) (hB : B ≤ B') : NdAt w B' b o e K c := ⟨h.c0, h.c1, h.c2, h.c3, h.c4, h.kids.more hB, h.room, h.nil⟩
def nd (L : List Nd) (k : Nat) : Nd := L.getD k default
theorem nd_eq {l : List Nd} {k : Nat} (h : k < l.length) : nd l k = l[k] := by simp [nd, h]
theorem nd_mem {l : List Nd} {k : Nat} (h : k < l.length) : nd l k ∈ l := by rw [nd_eq h]; exact List.getElem_mem h
/-- The nodes L lie from A on, they and their Kids in blocks below B. -/
def NdsAt (w : World) (B : Nat) (A : Option Addr) (L : List Nd) : Prop :=
  0 < L.length → ∃ b off, A = some ⟨b, off, none⟩ ∧ b < B ∧ ∀ k, k < L.length → ∃ K c, NdAt w B b (off + k * 5) (nd L k) K c
theorem NdsAt.nil {w : World} {B : Nat} {A : Option Addr} : NdsAt w B A [] := fun h => by simp at h
theorem NdsAt.below {w w' : World} {B B' : Nat} {A : Option Addr} {L : List Nd} (h : NdsAt w B A L) (hb : Below B' w w') (hB : B ≤ B') : NdsAt w' B A L := fun hz => by
  obtain ⟨b, off, rfl, hlt, hc⟩ := h hz
  exact ⟨b, off, rfl, hlt, fun k hk => by obtain ⟨K, c, hn⟩ := hc k hk; exact ⟨K, c, hn.below hb hB hlt⟩⟩
theorem NdsAt.more {w : World} {B B' : Nat} {A : Option Addr} {L : List Nd} (h : NdsAt w B A L) (hB : B ≤ B') : NdsAt w B' A L := fun hz => by
  obtain ⟨b, off, rfl, hlt, hc⟩ := h hz
  exact ⟨b, off, rfl, Nat.lt_of_lt_of_le hlt hB, fun k hk => by obtain ⟨K, c, hn⟩ := hc k hk; exact ⟨K, c, hn.more hB⟩⟩
structure Gr where
  nodes : List Nd
  roots : List Int
/-- A graph's value, with what lies where. -/
structure GrAt (w : World) (B : Nat) (G : Gr) (v : Value) : Prop where
  ex : ∃ NA nc RA rc, v = .agg #[.slice NA G.nodes.length nc, .slice RA G.roots.length rc] ∧ NdsAt w B NA G.nodes ∧ IntsAt w B RA G.roots
theorem GrAt.below {w w' : World} {B B' : Nat} {G : Gr} {v : Value} (h : GrAt w B G v) (hb : Below B' w w') (hB : B ≤ B') : GrAt w' B G v := by
  obtain ⟨NA, nc, RA, rc, hv, hN, hR⟩ := h.ex
  exact ⟨NA, nc, RA, rc, hv, hN.below hb hB, hR.below hb hB⟩
theorem GrAt.more {w : World} {B B' : Nat} {G : Gr} {v : Value} (h : GrAt w B G v) (hB : B ≤ B') : GrAt w B' G v := by
  obtain ⟨NA, nc, RA, rc, hv, hN, hR⟩ := h.ex
  exact ⟨NA, nc, RA, rc, hv, hN.more hB, hR.more hB⟩
/-- Are numbers all nodes of so many? -/
def areB (n : Nat) (l : List Int) : Bool := l.all fun z => decide (0 ≤ z) && decide (z < n)
/-- A box of two cells, new. -/
theorem box2 (w : World) (v0 v1 : Value) (t : TypeId) : ∃ V, w.alloc (.cells #[v0, v1] t) = V ∧ Below w.heap.size w V ∧ V.heap[w.heap.size]? = some (.cells #[v0, v1] t (0, 0)) ∧ V.heap.size = w.heap.size + 1 :=
  ⟨_, rfl, (Below.refl _ w).alloc (Nat.le_refl _) _, World.alloc_heap_new w _, by simp⟩
theorem areB_take (n : Nat) (l : List Int) {k : Nat} (h : k < l.length) : areB n (l.take (k + 1)) = (areB n (l.take k) && (decide (0 ≤ nth l k) && decide (nth l k < n))) := by
  rw [take_nth h]; simp [areB]
theorem areB_miss {n : Nat} {l : List Int} {k : Nat} (h : k < l.length) (hx : nth l k < 0 ∨ (n : Int) ≤ nth l k) : areB n l = false := by
  unfold areB
  rw [List.all_eq_false]
  exact ⟨nth l k, nth_mem h, by simp; omega⟩
set_option maxRecDepth 100000 in
set_option maxHeartbeats 1000000 in
theorem are_any (v : Value) (G : Gr) (A : Option Addr) (c : Nat) (l : List Int) (w : World) (B : Nat) (hG : GrAt w B G v) (hI : IntsAt w w.heap.size A l) (hl : l.length ≤ 9223372036854775807) :
    Calls Tryd.prog 45 #[v, .slice A l.length c] w fun e w' => e = .returned (.bool (areB G.nodes.length l)) ∧ Below w.heap.size w w' := by
  obtain ⟨NA, nc, RA, rc, rfl, hN, hR⟩ := hG.ex
  clear hG hN hR
  obtain ⟨n, hnn⟩ : ∃ n, G.nodes.length = n := ⟨_, rfl⟩
  rw [hnn]
  clear hnn
  go_enter Tryd.func45, Tryd.ntmps45
  go_wp2_with fail
  obtain ⟨V, hV, hbV, hrow, _⟩ := box2 w (.slice NA n nc) (.slice RA G.roots.length rc) 25
  rw [hV]
  have hIV : IntsAt V w.heap.size A l := hI.below hbV (Nat.le_refl _)
  clear hV
  have hrc : V.cell? ⟨w.heap.size, 0, none⟩ = some (.slice NA n nc) := Lib.cell_of_heap hrow 0
  go_loop [9] (fun i => ∃ k : Nat, k ≤ l.length ∧ i = .int .i64 k ∧ Hid (areB n (l.take k) = true)) (fun i => l.length - (intOf i).toNat)
  case atStart => exact ⟨0, Nat.zero_le _, rfl, rfl⟩
  case round =>
    obtain ⟨k, hk, rfl, hm⟩ := hrel
    by_cases hlt : k < l.length
    · obtain ⟨b, off, rfl, hbw, hc⟩ := hIV (by omega)
      have hck := hc k hlt
      have hlt' : (k : Int) < (l.length : Int) := by omega
      have HT := Lib.hid (areB_take n l hlt)
      have HF : Hid (nth l k < 0 ∨ (n : Int) ≤ nth l k → areB n l = false) := areB_miss hlt
      obtain ⟨x, hx⟩ : ∃ x, nth l k = x := ⟨_, rfl⟩
      rw [hx] at hck HT HF
      clear hc hx
      have hcs : x < 0 ∨ (¬ x < 0 ∧ (n : Int) ≤ x) ∨ (¬ x < 0 ∧ ¬ (n : Int) ≤ x) := by omega
      rcases hcs with h1 | ⟨h1, h2⟩ | ⟨h1, h2⟩
      · go_wp2_with fail
        go_ret
        exact ⟨ret_bool (HF.out (.inl h1)).symm, hbV⟩
      · have h1' : decide (x < 0) = false := decide_eq_false h1
        go_wp2_with fail
        go_ret
        exact ⟨ret_bool (HF.out (.inr h2)).symm, hbV⟩
      · have h1' : decide (x < 0) = false := decide_eq_false h1
        have h2' : decide ((n : Int) ≤ x) = false := decide_eq_false h2
        have HN : Hid (areB n (l.take (k + 1)) = true) := by show _ = _; rw [HT.out, hm.out]; simp; omega
        go_wp2_with fail
        go_round
        case rel => exact ⟨k + 1, by omega, by go_num, HN⟩
        case measure => simp [intOf]; omega
    · obtain rfl : k = l.length := by omega
      have hm' := hm.out
      rw [List.take_of_length_le (Nat.le_refl _)] at hm'
      have HM := Lib.hid hm'
      clear hm'
      go_wp2_with fail
      go_ret
      exact ⟨ret_bool HM.out.symm, hbV⟩
/-- May a text stand in a graph? -/
def textB (s : ByteArray) : Bool := decide (s.size ≤ 262144) && Lib.validD s.data.toList
/-- The tables of utf8 lie in this world. -/
def Tabs (w : World) : Prop := Lib.Utf8Tabs (laysValid_ren.g 3) (laysValid_ren.g 4) w
theorem Tabs.below {w w' : World} (h : Tabs w) (hb : Below w.heap.size w w') : Tabs w' := Utf8Tabs_below h hb
theorem text_any (s : ByteArray) (w : World) (hT : Tabs w) (hs : s.size ≤ maxLen) :
    Calls Tryd.prog 66 #[.string s] w fun e w' => e = .returned (.bool (textB s)) ∧ Below w.heap.size w w' := by
  have hV : Calls Tryd.prog 78 #[.string s] w _ := Any.utf8_ValidString laysValid s w (by unfold maxLen at hs; omega) hT
  unfold maxLen at hs
  obtain ⟨b, hb⟩ : ∃ b, Lib.validD s.data.toList = b := ⟨_, rfl⟩
  have HT : Hid (textB s = (decide (s.size ≤ 262144) && b)) := by show _ = _; rw [textB, hb]
  rw [hb] at hV
  have HV := Lib.hid hV
  clear hV hb
  by_cases h : s.size ≤ 262144
  · have h' : (s.size : Int) ≤ 262144 := by omega
    have HR : Hid (textB s = b) := by show _ = _; rw [HT.out]; simp [h]
    clear HT h
    go_enter Tryd.func66, Tryd.ntmps66
    go_wp2_with (go_at_call 78; refine HV.out.mono ?_; rintro e w' ⟨rfl, hb⟩)
    go_ret
    exact ⟨ret_bool HR.out.symm, hb⟩
  · have h' : ¬ (s.size : Int) ≤ 262144 := by omega
    have hd : decide ((s.size : Int) ≤ 262144) = false := decide_eq_false h'
    have HR : Hid (textB s = false) := by show _ = _; rw [HT.out]; simp [h]
    clear HT h
    go_enter Tryd.func66, Tryd.ntmps66
    go_wp2_with fail
    go_ret
    exact ⟨ret_bool HR.out.symm, Below.refl _ _⟩
end Go.Proofs.YtdcbngimgpdjoaaDoor
