/- The law LegalChomps, walked. Conditions: utf8's tables lie in the world; a text is no longer than 1048576 bytes. -/
import Derived.Test.YtnofdlpifpjlbaaDoorLcR
import Derived.Test.YtnofdlpifpjlbaaDoorLgL
import Derived.Lib.SlBytesRow
namespace Go.Proofs.YtnofdlpifpjlbaaDoor
open Go.RowKit
theorem Tryd.infoSlR : (Tryd.prog.info? 23).map (fun i => (i.zero, i.size, i.bytes)) = some (some (.slice none 0 0), 1, 24) := by kernel_rfl
theorem ownsRow_sameL {W W' : World} {N : Nat} {e : TypeId} {s n : Nat} {u : Value} {xs : List Value} (h : W.ownsRow N e s u n xs) (hb : ∀ g, u.ownBlock = some g → g < W.heap.size → W'.heap[g]? = W.heap[g]?) : W'.ownsRow N e s u n xs := by
  rcases h.2 with ⟨rfl, h0⟩ | ⟨g, cap, cur, rfl, hB, hg, r⟩
  · exact ⟨h.1, .inl ⟨rfl, h0⟩⟩
  · exact ⟨h.1, .inr ⟨g, cap, cur, rfl, hB, (hb g rfl (Array.getElem?_eq_some_iff.1 hg).1).trans hg, r⟩⟩
theorem own_placeL {W : World} {N : Nat} {e : TypeId} {s n : Nat} {u : Value} {xs : List Value} (h : W.ownsRow N e s u n xs) {b : Nat} (hb : u.ownBlock = some b) : N ≤ b ∧ b < W.heap.size := by
  rcases h.2 with ⟨rfl, _⟩ | ⟨g, cap, cur, rfl, hB, hg, _⟩
  · cases hb
  · cases hb; exact ⟨hB, (Array.getElem?_eq_some_iff.1 hg).1⟩
/-- A row of ints lies in a block that ok lets be. -/
def IntsOk (W : World) (ok : Nat → Prop) (A : Option Addr) (l : List Int) : Prop := 0 < l.length → ∃ b o, A = some ⟨b, o, none⟩ ∧ ok b ∧ ∀ k, k < l.length → W.cell? ⟨b, o + k, none⟩ = some (.int .i64 (nth l k))
theorem IntsOk.keep {W W' : World} {ok ok' : Nat → Prop} {A : Option Addr} {l : List Int} (h : IntsOk W ok A l) (hb : ∀ b, ok b → W'.heap[b]? = W.heap[b]?) (hk : ∀ b, ok b → ok' b) : IntsOk W' ok' A l := fun h0 => by
  obtain ⟨b, o, hA, h1, hc⟩ := h h0
  exact ⟨b, o, hA, hk b h1, fun k hk => (World.cell?_of_block (hb b h1)).trans (hc k hk)⟩
abbrev LnK := Option Addr × Nat × List Int
def lncells (L : List LnK) : List Value := L.map fun e => .slice e.1 e.2.2.length e.2.1
/-- The rows that were taken apart, and the one at hand. -/
structure LnSt (w W : World) (lv nv : Value) (L : List LnK) (now : List Int) : Prop where
  keep : Below w.heap.size w W
  own : W.ownsRow w.heap.size 23 1 lv L.length (lncells L)
  rows : ∀ e ∈ L, e.2.2.length ≤ e.2.1 ∧ IntsOk W (fun b => b < W.heap.size ∧ lv.ownBlock ≠ some b ∧ nv.ownBlock ≠ some b) e.1 e.2.2
  now : ZOwn W w.heap.size nv now
  dis : ∀ g, nv.ownBlock = some g → lv.ownBlock ≠ some g
theorem LnSt.start (w : World) : LnSt w w (.slice none 0 0) (.slice none 0 0) [] [] := ⟨Below.refl _ _, ⟨rfl, .inl ⟨rfl, rfl⟩⟩, (fun e he => by cases he), ZOwn.empty _ _, (fun g h => by cases h)⟩
theorem LnSt.push {w W w' : World} {lv nv nv' : Value} {L : List LnK} {now : List Int} {z : Int} {o : Obj} (h : LnSt w W lv nv L now) (hz : ZOwn w' w.heap.size nv' (now ++ [z])) (hg : (W.alloc o).grownBy w' nv.ownBlock) (hat : nv'.ownBlock = nv.ownBlock ∨ nv'.ownBlock = some (W.alloc o).heap.size) : LnSt w w' lv nv' L (now ++ [z]) := by
  have hs := h.keep.size
  have hs2 : W.heap.size ≤ w'.heap.size := Nat.le_trans (by simp) hg.size
  have hk : ∀ b, b < W.heap.size → nv.ownBlock ≠ some b → w'.heap[b]? = W.heap[b]? := fun b hb hne => (hg.block b (by simp; omega) fun e => hne e.symm).trans (Below.heap_alloc W o b hb)
  refine ⟨⟨hg.os.trans h.keep.os, hg.tape.trans h.keep.tape, hg.output.trans h.keep.output, by omega, fun b hb => (hk b (by omega) fun e => by have := (own_placeL h.now.own e).1; omega).trans (h.keep.block b hb)⟩, ownsRow_sameL h.own fun g hg' hlt => hk g hlt fun e => h.dis g e hg', fun e he => ⟨(h.rows e he).1, (h.rows e he).2.keep (fun b hb => hk b hb.1 hb.2.2) fun b hb => ⟨by have := hb.1; omega, hb.2.1, fun e => ?_⟩⟩, hz, fun g hg' e => ?_⟩
  · rcases hat with e1 | e1
    · exact hb.2.2 (e1.symm.trans e)
    · have := e1.symm.trans e; simp at this; have := hb.1; omega
  · rcases hat with e1 | e1
    · exact h.dis g (e1.symm.trans hg') e
    · have e2 := e1.symm.trans hg'; simp at e2; have := (own_placeL h.own e).2; omega
theorem LnSt.tell {w W w' : World} {lv lv' : Value} {A : Option Addr} {n c : Nat} {L : List LnK} {now : List Int} {o : Obj} (h : LnSt w W lv (.slice A n c) L now) (hn : n = now.length) (hv : w'.ownsRow w.heap.size 23 1 lv' (L.length + 1) (lncells L ++ [.slice A n c])) (hg : (W.alloc o).grownBy w' lv.ownBlock) (hat : lv'.ownBlock = lv.ownBlock ∨ lv'.ownBlock = some (W.alloc o).heap.size) :
    LnSt w w' lv' (.slice none 0 0) (L ++ [(A, c, now)]) [] := by
  subst hn
  have hs := h.keep.size
  have hs2 : W.heap.size ≤ w'.heap.size := Nat.le_trans (by simp) hg.size
  have hk : ∀ b, b < W.heap.size → lv.ownBlock ≠ some b → w'.heap[b]? = W.heap[b]? := fun b hb hne => (hg.block b (by simp; omega) fun e => hne e.symm).trans (Below.heap_alloc W o b hb)
  have hlv : ∀ b, b < W.heap.size → lv.ownBlock ≠ some b → lv'.ownBlock ≠ some b := fun b hb hne e => by
    rcases hat with e1 | e1
    · exact hne (e1.symm.trans e)
    · have := e1.symm.trans e; simp at this; omega
  refine ⟨⟨hg.os.trans h.keep.os, hg.tape.trans h.keep.tape, hg.output.trans h.keep.output, by omega, fun b hb => (hk b (by omega) fun e => by have := (own_placeL h.own e).1; omega).trans (h.keep.block b hb)⟩, by simpa [lncells] using hv, fun e he => ?_, ZOwn.empty _ _, fun g h => by cases h⟩
  rcases List.mem_append.1 he with he | he
  · exact ⟨(h.rows e he).1, (h.rows e he).2.keep (fun b hb => hk b hb.1 hb.2.1) fun b hb => ⟨by have := hb.1; omega, hlv b hb.1 hb.2.1, fun e => by cases e⟩⟩
  · rw [List.mem_singleton.1 he]
    rcases h.now.own.2 with ⟨e0, h0⟩ | ⟨g, cap, cur, e0, hB, hgg, hcc, _⟩
    · have : now = [] := List.eq_nil_of_length_eq_zero (by simpa using h0)
      subst this
      exact ⟨by simp, fun h => by simp at h⟩
    · cases e0
      have hgl := (Array.getElem?_eq_some_iff.1 hgg).1
      have hne := h.dis g rfl
      refine ⟨hcc, fun h0 => ⟨g, 0, rfl, ⟨by omega, hlv g hgl hne, fun e => by cases e⟩, fun k hk' => ?_⟩⟩
      have h1 := h.now.own.cells (g := g) rfl k (.int .i64 (nth now k)) (by simp [zcells, nth, hk'])
      exact (World.cell?_of_block (hk g hgl hne)).trans (by simpa [Addr.add_lit] using h1)
theorem LnSt.rowsAt {w W : World} {A : Option Addr} {n c : Nat} {nv : Value} {L : List LnK} {now : List Int} (h : LnSt w W (.slice A n c) nv L now) : RowsAt W W.heap.size A (L.map (·.2.2)) := fun h0 => by
  rw [List.length_map] at h0
  rcases h.own.2 with ⟨e0, h1⟩ | ⟨g, cap, cur, e0, hB, hgg, hcc, _⟩
  · omega
  · cases e0
    refine ⟨g, 0, rfl, (Array.getElem?_eq_some_iff.1 hgg).1, fun k hk => ?_⟩
    rw [List.length_map] at hk
    have h1 := h.own.cells (g := g) rfl k (.slice L[k].1 L[k].2.2.length L[k].2.1) (by simp [lncells, hk])
    obtain ⟨r1, r2⟩ := h.rows L[k] (List.getElem_mem hk)
    refine ⟨L[k].1, L[k].2.1, ?_, ?_, fun hl => ?_⟩
    · rw [List.getElem_map]; simpa [Addr.add_lit] using h1
    · rw [List.getElem_map]; exact r1
    · rw [List.getElem_map] at hl ⊢
      obtain ⟨b, o, e, ok, hc⟩ := r2 hl
      exact ⟨b, o, e, ok.1, hc⟩
theorem LnSt.shape {w W : World} {lv nv : Value} {L : List LnK} {now : List Int} (h : LnSt w W lv nv L now) : ∃ A c, lv = .slice A L.length c := by
  rcases h.own.2 with ⟨e0, h1⟩ | ⟨g, cap, cur, e0, _⟩
  · exact ⟨none, 0, by rw [h1]; exact e0⟩
  · exact ⟨_, _, e0⟩
/-- 'append' of one int, with the place of the new row. -/
theorem wpList_appZ2 {wr : World} {ops : Array Oper} {rest : List Oper} {o : Oper} {a : Act} {Q : Exit → Act → World → Prop} (hgd : o.guard = none) (s x : Operand) (t : TypeId)
    (ho : o.op = .call { callee := .builtin .append, args := #[s, x], argTypes := #[t, t] }) (ht : Tryd.prog.underlying t = some (.slice 3)) (B : Nat)
    (v : Value) (l : List Int) (z : Int) (hs : a.eval s = v) (h : ZOwn wr B v l) (n0 : Nat) (hn0 : n0 = wr.heap.size) (hx : a.eval x = .slice (some ⟨n0, 0, none⟩) 1 1) (hl : l.length ≤ 1000000000) (hB : B ≤ wr.heap.size)
    (k : ∀ v' w', ZOwn w' B v' (l ++ [z]) → (wr.alloc (.cells #[.int .i64 z] 3)).grownBy w' v.ownBlock → (v'.ownBlock = v.ownBlock ∨ v'.ownBlock = some (wr.alloc (.cells #[.int .i64 z] 3)).heap.size) → wpList Tryd.prog ops Q rest (a.put o.dst v') w') : wpList Tryd.prog ops Q (o :: rest) a (wr.alloc (.cells #[.int .i64 z] 3)) := by
  obtain ⟨i0, hi, hz0, hz1, hz2⟩ := info_parts Tryd.infoIntZ
  refine wpList_append_own_at _ hgd s x t ho B _ i0 _ 1 8 ht hi hz0 hz1 hz2 rfl (by decide) v _ _ hs (h.own.alloc _) ⟨n0, 0, none⟩ 1 1 [.int .i64 z] hx rfl ?_ (fun u hu => by simp at hu; subst hu; rfl) (by unfold maxLen; omega) (by omega) (by simp; omega) ?_
  · intro j u hj
    match j, hj with
    | 0, hj => simp at hj; subst hj; subst hn0; simp [Addr.add]
    | j + 1, hj => simp at hj
  · intro v' w' h1 h2 _ h4
    exact k v' w' ⟨by simpa [zcells] using h1, fun e => by simp at e⟩ h2 h4
/-- 'append' of one row to the rows. -/
theorem wpList_appL {wr : World} {ops : Array Oper} {rest : List Oper} {o : Oper} {a : Act} {Q : Exit → Act → World → Prop} (hgd : o.guard = none) (s x : Operand) (t : TypeId)
    (ho : o.op = .call { callee := .builtin .append, args := #[s, x], argTypes := #[t, t] }) (ht : Tryd.prog.underlying t = some (.slice 23)) (B : Nat)
    (v : Value) (l : List Value) (A : Option Addr) (n c m : Nat) (hs : a.eval s = v) (h : wr.ownsRow B 23 1 v m l) (n0 : Nat) (hn0 : n0 = wr.heap.size) (hx : a.eval x = .slice (some ⟨n0, 0, none⟩) 1 1) (hl : m ≤ 1000000000) (hB : B ≤ wr.heap.size)
    (k : ∀ v' w', w'.ownsRow B 23 1 v' (m + 1) (l ++ [.slice A n c]) → (wr.alloc (.cells #[.slice A n c] 23)).grownBy w' v.ownBlock → (v'.ownBlock = v.ownBlock ∨ v'.ownBlock = some (wr.alloc (.cells #[.slice A n c] 23)).heap.size) → wpList Tryd.prog ops Q rest (a.put o.dst v') w') : wpList Tryd.prog ops Q (o :: rest) a (wr.alloc (.cells #[.slice A n c] 23)) := by
  obtain ⟨i0, hi, hz0, hz1, hz2⟩ := info_parts Tryd.infoSlR
  refine wpList_append_own_at _ hgd s x t ho B _ i0 _ 1 24 ht hi hz0 hz1 hz2 rfl (by decide) v _ _ hs (h.alloc _) ⟨n0, 0, none⟩ 1 1 [.slice A n c] hx rfl ?_ (fun u hu => by simp at hu; subst hu; rfl) (by unfold maxLen; omega) (by omega) (by simp; omega) ?_
  · intro j u hj
    match j, hj with
    | 0, hj => simp at hj; subst hj; subst hn0; simp [Addr.add]
    | j + 1, hj => simp at hj
  · intro v' w' h1 h2 _ h4
    exact k v' w' h1 h2 h4
theorem lines_len (p : List Int) : (splitL p).1.length + (splitL p).2.length ≤ p.length := by
  have := (split_len p ([], [])).1
  simpa [splitL] using this
theorem flatS_lines (p : List Int) : (flatS (linesL p)).length ≤ p.length + 1 := by
  have hf : flatS (splitL p).1 ++ (splitL p).2 = p := by
    have := split_flat p ([], [])
    simpa [flatS, splitL] using this
  have hl := congrArg List.length hf
  rw [List.length_append] at hl
  unfold linesL
  by_cases h : (splitL p).2 = []
  · rw [if_pos h]; omega
  · rw [if_neg h, flatS_append]
    have : (flatS [(splitL p).2]).length = (splitL p).2.length + 1 := by simp [flatS]
    rw [List.length_append, this]; omega
theorem flatS_take (L : List (List Int)) (n : Nat) : (flatS (L.take n)).length ≤ (flatS L).length := by
  have : flatS L = flatS (L.take n) ++ flatS (L.drop n) := by rw [← flatS_append, List.take_append_drop]
  rw [this, List.length_append]; omega
theorem join_len (p : List Int) {k : Nat} (hk : k ≤ (linesL p).length) : (joinN (linesL p) k).length ≤ p.length + 1 := by
  rcases Nat.eq_zero_or_pos k with h | h
  · subst h; simp [joinN]
  · have h1 := congrArg List.length (joinN_flat (linesL p) k h hk)
    have h2 := flatS_take (linesL p) k
    have h3 := flatS_lines p
    rw [List.length_append] at h1
    omega
theorem linesL_len (p : List Int) : (linesL p).length ≤ p.length + 1 := by
  have h := lines_len p
  unfold linesL
  split
  · omega
  · rw [List.length_append, List.length_singleton]; omega
theorem bytes_at {W : World} {g : Nat} {s : ByteArray} {l : List Int} (hl : l = s.data.toList.map fun b => (b.toNat : Int)) (h : ∀ k (hk : k < l.length), W.cell? ⟨g, k, none⟩ = some (.int .u8 l[k])) : Lib.Bytes W g 0 s := by
  intro i hi
  subst hl
  have h1 := h i (by simpa using hi)
  rw [Nat.zero_add, h1]
  simp
  rfl
set_option maxRecDepth 100000 in
set_option maxHeartbeats 8000000 in
theorem legalChomps_walk (w : World) (hT : Tabs w) (s : ByteArray) (hs : s.size ≤ 1048576) :
    Calls Tryd.prog 4 #[.string s] w fun e w' => e = .returned (.bool true) ∧ Below w.heap.size w w' := by
  have HA := Lib.hid (alive_any w hT)
  have HTx : Hid (∀ W, Calls Tryd.prog 7 #[.string s] W (TextR s W)) := fun W => Text_any s W (by omega)
  cases hv : Lib.validD s.data.toList with
  | false =>
    have HT : Hid (∀ W, Calls Tryd.prog 7 #[.string s] W fun e w' => ∃ u, e = .returned (.tuple #[u, .bool false]) ∧ Below W.heap.size W w') := fun W => (HTx.out W).mono (by
      rintro e w' ⟨u, v, rfl, h1, _, hb⟩; exact ⟨u, by rw [h1, hv], hb⟩)
    clear hT hs HTx hv
    go_enter Tryd.func4, Tryd.ntmps4
    go_wp2_with (first
      | (go_at_call 6; refine HA.out.mono ?_; rintro e w1 ⟨rfl, hb1⟩; have Hb1 := Lib.hid hb1; clear hb1)
      | (go_at_call 7; refine (HT.out w1).mono ?_; rintro e w2 ⟨u, rfl, hb2⟩; have Hb2 := Lib.hid (below_two Hb1.out hb2); clear hb2))
    go_ret
    exact ⟨rfl, Hb2.out⟩
  | true =>
    have HT : Hid (∀ W, Calls Tryd.prog 7 #[.string s] W fun e w' => ∃ A c l, e = .returned (.tuple #[.slice A l.length c, .bool true]) ∧ Dec s s.size l ∧ IntsAt w' w'.heap.size A l ∧ Below W.heap.size W w') := fun W => (HTx.out W).mono (by
      rintro e w' ⟨u, v, rfl, h1, h2, hb⟩
      rw [hv] at h1
      obtain ⟨A, c, l, rfl, hd, hI⟩ := h2 h1
      exact ⟨A, c, l, by rw [h1], hd, hI, hb⟩)
    by_cases h3 : 300 < s.size
    · have h3I : (300 : Int) < (s.size : Int) := by omega
      have h3N : decide (300 < s.size) = true := decide_eq_true h3
      clear hT hs HTx hv h3
      go_enter Tryd.func4, Tryd.ntmps4
      go_wp2_with (first
        | (go_at_call 6; refine HA.out.mono ?_; rintro e w1 ⟨rfl, hb1⟩; have Hb1 := Lib.hid hb1; clear hb1)
        | (go_at_call 7; refine (HT.out w1).mono ?_; rintro e w2 ⟨A, c, l, rfl, hd, hI, hb2⟩; have Hd := Lib.hid hd; have HI := Lib.hid hI; have Hb2 := Lib.hid (below_two Hb1.out hb2); clear hd hI hb2))
      go_ret
      exact ⟨rfl, Hb2.out⟩
    · have h3I : ¬ (300 : Int) < (s.size : Int) := by omega
      have h3d : decide ((300 : Int) < (s.size : Int)) = false := decide_eq_false h3I
      have h3N : decide (300 < s.size) = false := decide_eq_false h3
      have he := empty_str s
      by_cases h0 : s.size = 0
      · obtain rfl : s = ⟨#[]⟩ := by cases s with | mk d => rw [Array.eq_empty_of_size_eq_zero (show d.size = 0 from h0)]
        clear hT hs HTx hv h3 h0 he
        go_enter Tryd.func4, Tryd.ntmps4
        go_wp2_with (first
          | (go_at_call 6; refine HA.out.mono ?_; rintro e w1 ⟨rfl, hb1⟩; have Hb1 := Lib.hid hb1; clear hb1)
          | (go_at_call 7; refine (HT.out w1).mono ?_; rintro e w2 ⟨A, c, l, rfl, hd, hI, hb2⟩; have Hd := Lib.hid hd; have HI := Lib.hid hI; have Hb2 := Lib.hid (below_two Hb1.out hb2); clear hd hI hb2))
        go_ret
        exact ⟨rfl, Hb2.out⟩
      · rw [decide_eq_false h0] at he
        have HCm : Hid (∀ W, Calls Tryd.prog 11 #[.string s] W fun e w' => e = .returned (.int .i64 (chompI s)) ∧ W = w') := fun W => Chomp_any s W (by omega)
        have Hs3 : Hid (s.size ≤ 300 ∧ 0 < s.size) := ⟨by omega, by omega⟩
        clear hT hs HTx hv h3 h0
        go_enter Tryd.func4, Tryd.ntmps4
        go_wp2_with (first
          | (go_at_call 6; refine HA.out.mono ?_; rintro e w1 ⟨rfl, hb1⟩; have Hb1 := Lib.hid hb1; clear hb1)
          | (go_at_call 7; refine (HT.out w1).mono ?_; rintro e w2 ⟨A, c, l, rfl, hd, hI, hb2⟩; have Hd := Lib.hid hd; have HI := Lib.hid hI; have Hb2 := Lib.hid (below_two Hb1.out hb2); clear hd hI hb2))
        clear h3I h3d h3N he
        have hll := Hd.out.valid.2.2
        have Hll : Hid (l.length ≤ 300) := by have := Hs3.out; show _ ≤ _; omega
        have hlp : l ≠ [] := fun e => by
          have h1 := Hd.out.bytes
          rw [e] at h1
          have h2 := congrArg List.length h1
          have h4 : s.data.size = s.size := rfl
          have := Hs3.out
          simp [encL] at h2
          omega
        have Hlp := Lib.hid hlp
        have HS0 : Hid (LnSt w2 w2 (.slice none 0 0) (.slice none 0 0) [] (splitL (l.take 0)).2) := LnSt.start w2
        have HR0 : Hid (([] : List LnK).map (·.2.2) = (splitL (l.take 0)).1) := rfl
        clear hll hlp
        go_loopw [6, 7, 8] (fun lv nv i wr => ∃ (k : Nat) (L : List LnK), k ≤ l.length ∧ i = .int .i64 (k : Int) ∧ Hid (LnSt w2 wr lv nv L (splitL (l.take k)).2) ∧ Hid (L.map (·.2.2) = (splitL (l.take k)).1)) (fun _ _ i _ => l.length - (intOf i).toNat)
        case atStart => exact ⟨0, [], Nat.zero_le _, rfl, HS0, HR0⟩
        case round =>
          obtain ⟨k, L, hk, rfl, hst, hL⟩ := hrel
          have Hml : Hid (L.length + (splitL (l.take k)).2.length ≤ 300) := by
            have h1 := congrArg List.length hL.out
            rw [List.length_map] at h1
            have h2 := lines_len (l.take k)
            have h4 := List.length_take_le k l
            have := Hll.out
            show _ ≤ _; omega
          obtain ⟨now, hnow⟩ : ∃ now, (splitL (l.take k)).2 = now := ⟨_, rfl⟩
          obtain ⟨R, hR⟩ : ∃ R, (splitL (l.take k)).1 = R := ⟨_, rfl⟩
          rw [hnow] at hst Hml
          rw [hR] at hL
          by_cases hlt : k < l.length
          · obtain ⟨b, o, hA, hbl, hc⟩ := HI.out (by omega)
            subst hA
            have hck := (hst.out.keep.cell (p := ⟨b, o + k, none⟩) hbl).trans (hc k hlt)
            obtain ⟨z, hz⟩ : ∃ z, nth l k = z := ⟨_, rfl⟩
            rw [hz] at hck
            have hsp : splitL (l.take (k + 1)) = stepL (R, now) z := by rw [take_nth hlt, splitL_snoc, hz, ← hnow, ← hR]
            have HSp := Lib.hid hsp
            have hlt' : (k : Int) < (l.length : Int) := by omega
            have Hlt := Lib.hid hlt
            have hsz := hst.out.keep.size
            have hmz : ∀ y : Int, y = k + 1 → l.length - (intOf (.int .i64 y)).toNat < l.length - (intOf (.int .i64 (k : Int))).toNat := by intro y hy; subst hy; have := Hlt.out; simp only [intOf]; omega
            have HW : Hid (wrap64 ((k : Int) + 1) = k + 1) := IntWalk.wrap64_in _ (by have := Hlt.out; have := Hll.out; omega)
            by_cases hz10 : z = 10
            · subst hz10
              have HN : Hid ((splitL (l.take (k + 1))).1 = R ++ [now] ∧ (splitL (l.take (k + 1))).2 = []) := by rw [HSp.out]; exact ⟨rfl, rfl⟩
              obtain ⟨A2, c2, hnv, _⟩ := hst.out.now.form
              subst hnv
              have hml : L.length ≤ 1000000000 := by have := Hml.out; omega
              have how := hst.out.own
              clear hbl hc hz hsp hlt hk hnow hR
              go_wp2_with (at_builtin; refine wpList_appL rfl _ _ _ rfl Tryd.underlying28 w2.heap.size u6 (lncells L) A2 now.length c2 L.length rfl how wr.heap.size rfl rfl hml hsz ?_; intro v' w' r1 r2 r3; have HS2 := Lib.hid (hst.out.tell rfl r1 r2 r3); clear r1 r2 r3)
              have HS3 : Hid (LnSt w2 w' v' (.slice none 0 0) (L ++ [(A2, c2, now)]) (splitL (l.take (k + 1))).2) := by show LnSt _ _ _ _ _ _; rw [HN.out.2]; exact HS2.out
              have HL3 : Hid ((L ++ [((A2, c2, now) : LnK)]).map (·.2.2) = (splitL (l.take (k + 1))).1) := by show _ = _; rw [HN.out.1, List.map_append, hL.out]; rfl
              first
                | exact ⟨⟨k + 1, L ++ [(A2, c2, now)], Hlt.out, by simp, HS3, HL3⟩, hmz _ rfl⟩
                | exact ⟨⟨k + 1, L ++ [(A2, c2, now)], Hlt.out, congrArg (Value.int .i64) (HW.out.trans (by simp)), HS3, HL3⟩, hmz _ HW.out⟩
            · have hzb : (z == 10) = false := beq_eq_false_iff_ne.2 hz10
              have HN : Hid ((splitL (l.take (k + 1))).1 = R ∧ (splitL (l.take (k + 1))).2 = now ++ [z]) := by rw [HSp.out]; unfold stepL; rw [if_neg hz10]; exact ⟨rfl, rfl⟩
              have hml : now.length ≤ 1000000000 := by have := Hml.out; omega
              have how := hst.out.now
              clear hbl hc hz hsp hlt hk hnow hR hz10
              go_wp2_with (at_builtin; refine wpList_appZ2 rfl _ _ _ rfl Tryd.underlying23 w2.heap.size u7 now z rfl how wr.heap.size rfl rfl hml hsz ?_; intro v' w' r1 r2 r3; have HS2 := Lib.hid (hst.out.push r1 r2 r3); clear r1 r2 r3)
              have HS3 : Hid (LnSt w2 w' u6 v' L (splitL (l.take (k + 1))).2) := by show LnSt _ _ _ _ _ _; rw [HN.out.2]; exact HS2.out
              have HL3 : Hid (L.map (·.2.2) = (splitL (l.take (k + 1))).1) := by show _ = _; rw [HN.out.1, hL.out]
              first
                | exact ⟨⟨k + 1, L, Hlt.out, by simp, HS3, HL3⟩, hmz _ rfl⟩
                | exact ⟨⟨k + 1, L, Hlt.out, congrArg (Value.int .i64) (HW.out.trans (by simp)), HS3, HL3⟩, hmz _ HW.out⟩
          · obtain rfl : k = l.length := by omega
            have hd : ¬ (l.length : Int) < (l.length : Int) := by omega
            rw [List.take_length] at hnow hR
            clear hlt hk
            by_cases hn0 : now = []
            · subst hn0
              have hlin : linesL l = R := by rw [linesL, if_pos hnow, hR]
              have hnil := hst.out.now.nil rfl
              subst hnil
              obtain ⟨A3, c3, hlv⟩ := hst.out.shape
              subst hlv
              have hra := hst.out.rowsAt
              rw [hL.out, ← hlin] at hra
              have hLn : L.length = (linesL l).length := by rw [hlin, ← hL.out, List.length_map]
              have hlb := linesL_len l
              have HLit : Hid (Calls Tryd.prog 10 #[.slice A3 L.length c3, .int .i64 (chompI s)] wr (LitR wr (linesL l) (chompI s))) := by
                have h := RLit_any A3 c3 (linesL l) (chompI s) wr (by have := Hll.out; omega) hra (fun k hk => by have := join_len l hk; have := Hll.out; omega)
                show Calls _ _ _ _ _
                rw [hLn]; exact h
              have HbW : Hid (Below w.heap.size w wr) := below_two Hb2.out hst.out.keep
              clear hra hLn hlb hlin hnow hR hst hL
              go_wp2_with (first
                | (go_at_call 11; refine (HCm.out _).mono ?_; rintro e w' ⟨rfl, rfl⟩)
                | (go_at_call 10; refine HLit.out.mono ?_; rintro e w4 ⟨v4, n4, rfl, hw4, hz4, hb4⟩; rw [chomp_dec Hd.out, lit_law Hlp.out hw4] at hz4; obtain ⟨A4, c4, hv4, _, hI4, _⟩ := hz4.form; subst hv4; have HI4 := Lib.hid hI4; have Hb4 := Lib.hid (below_two HbW.out hb4); clear hw4 hz4 hI4 hb4)
                | (go_at_call 9; refine (Bytes_any A4 c4 l w4 (by have := Hll.out; omega) HI4.out).mono ?_; rintro e w5 ⟨v5, rfl, hb5, hbel⟩; have hlen : (encL l).length = s.size := (by rw [Hd.out.bytes]; simp); obtain ⟨g, c5, hv5, hcell⟩ := BOwn.cells hb5 (by rw [hlen]; exact Hs3.out.2); subst hv5; rw [hlen]; have hcv := Lib.run_convert_whole (P := Tryd.prog) w5 29 5 9 Tryd.underlying29 Tryd.underlying5 Tryd.underlying9 g 0 s (bytes_at Hd.out.bytes hcell) c5; have Hb5 := Lib.hid (below_two Hb4.out hbel); clear hb5 hbel hcell hlen))
              go_ret
              exact ⟨by first | rfl | simp, Hb5.out⟩
            · have hlin : linesL l = R ++ [now] := by rw [linesL, if_neg (by rw [hnow]; exact hn0), hnow, hR]
              obtain ⟨A2, c2, hnv, _⟩ := hst.out.now.form
              subst hnv
              have hml : L.length ≤ 1000000000 := by have := Hml.out; omega
              have how := hst.out.own
              have hsz := hst.out.keep.size
              have hnp : 0 < now.length := List.length_pos_iff.2 hn0
              have hnI : (0 : Int) < (now.length : Int) := by omega
              have HLin := Lib.hid hlin
              clear hnow hR hlin hn0
              go_wp2_with (at_builtin; refine wpList_appL rfl _ _ _ rfl Tryd.underlying28 w2.heap.size u6 (lncells L) A2 now.length c2 L.length rfl how wr.heap.size rfl rfl hml hsz ?_; intro v' w' r1 r2 r3; have HS2 := Lib.hid (hst.out.tell rfl r1 r2 r3); clear r1 r2 r3; obtain ⟨A3, c3, hlv⟩ := HS2.out.shape; subst hlv)
              have hra := HS2.out.rowsAt
              rw [List.map_append, hL.out] at hra
              have hra2 : RowsAt w' w'.heap.size A3 (linesL l) := by rw [HLin.out]; exact hra
              have hLn : (L ++ [((A2, c2, now) : LnK)]).length = (linesL l).length := by rw [HLin.out, ← hL.out]; simp
              have hlb := linesL_len l
              have HLit : Hid (Calls Tryd.prog 10 #[.slice A3 (L.length + 1) c3, .int .i64 (chompI s)] w' (LitR w' (linesL l) (chompI s))) := by
                have h := RLit_any A3 c3 (linesL l) (chompI s) w' (by have := Hll.out; omega) hra2 (fun k hk => by have := join_len l hk; have := Hll.out; omega)
                show Calls _ _ _ _ _
                rw [← hLn, List.length_append, List.length_singleton] at h; exact h
              have HbW : Hid (Below w.heap.size w w') := below_two Hb2.out HS2.out.keep
              clear hra hra2 hLn hlb hst hL how hsz hml hnp hnI
              go_wp2_with (first
                | (go_at_call 11; refine (HCm.out _).mono ?_; rintro e w' ⟨rfl, rfl⟩)
                | (go_at_call 10; refine HLit.out.mono ?_; rintro e w4 ⟨v4, n4, rfl, hw4, hz4, hb4⟩; rw [chomp_dec Hd.out, lit_law Hlp.out hw4] at hz4; obtain ⟨A4, c4, hv4, _, hI4, _⟩ := hz4.form; subst hv4; have HI4 := Lib.hid hI4; have Hb4 := Lib.hid (below_two HbW.out hb4); clear hw4 hz4 hI4 hb4)
                | (go_at_call 9; refine (Bytes_any A4 c4 l w4 (by have := Hll.out; omega) HI4.out).mono ?_; rintro e w5 ⟨v5, rfl, hb5, hbel⟩; have hlen : (encL l).length = s.size := (by rw [Hd.out.bytes]; simp); obtain ⟨g, c5, hv5, hcell⟩ := BOwn.cells hb5 (by rw [hlen]; exact Hs3.out.2); subst hv5; rw [hlen]; have hcv := Lib.run_convert_whole (P := Tryd.prog) w5 29 5 9 Tryd.underlying29 Tryd.underlying5 Tryd.underlying9 g 0 s (bytes_at Hd.out.bytes hcell) c5; have Hb5 := Lib.hid (below_two Hb4.out hbel); clear hb5 hbel hcell hlen))
              go_ret
              exact ⟨by first | rfl | simp, Hb5.out⟩
end Go.Proofs.YtnofdlpifpjlbaaDoor
