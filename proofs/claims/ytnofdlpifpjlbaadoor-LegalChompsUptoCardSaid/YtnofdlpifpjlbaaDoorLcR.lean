/- The reference's whole, chomped and Literal. Conditions: no more than a hundred million lines, and points. -/
import Derived.Test.YtnofdlpifpjlbaaDoorLcP
import Derived.Maps.AppendAt
namespace Go.Proofs.YtnofdlpifpjlbaaDoor
open Go.RowKit
/-- 'append' of a row of ints, nil or not, to a row that the call owns. -/
theorem wpList_appZs {wr : World} {ops : Array Oper} {rest : List Oper} {o : Oper} {a : Act} {Q : Exit → Act → World → Prop} (hgd : o.guard = none) (s x : Operand) (t : TypeId)
    (ho : o.op = .call { callee := .builtin .append, args := #[s, x], argTypes := #[t, t] }) (ht : Tryd.prog.underlying t = some (.slice 3)) (B : Nat)
    (v : Value) (l : List Int) (hs : a.eval s = v) (h : ZOwn wr B v l) (A' : Option Addr) (l2 : List Int) (m c : Nat) (hm : m = l2.length) (hx : a.eval x = .slice A' m c) (hI : IntsAt wr wr.heap.size A' l2) (hl : l.length + l2.length ≤ 1000000000) (hB : B ≤ wr.heap.size)
    (k : ∀ v' w', ZOwn w' B v' (l ++ l2) → Below B wr w' → wpList Tryd.prog ops Q rest (a.put o.dst v') w') : wpList Tryd.prog ops Q (o :: rest) a wr := by
  obtain ⟨i0, hi, hz0, hz1, hz2⟩ := info_parts Tryd.infoIntZ
  subst hm
  cases A' with
  | none =>
    have h0 : l2 = [] := by
      apply List.eq_nil_of_length_eq_zero
      rcases Nat.eq_zero_or_pos l2.length with h | h
      · exact h
      · obtain ⟨b, o, e, _⟩ := hI h; cases e
    subst h0
    have hrun : (Builtin.append_ #[t, t] o.type #[v, .slice none 0 c]).run Tryd.prog wr = .ok v wr := by
      rcases h.own.2 with ⟨rfl, h1⟩ | ⟨g, cap, cur, rfl, _, _, hnc, _⟩
      · simp [Builtin.append_, run_underlying ht, sizeOf, typeInfo, hi, Builtin.lenOf, Builtin.firstCells]
      · simp [Builtin.append_, run_underlying ht, sizeOf, typeInfo, hi, Builtin.lenOf, Builtin.firstCells, hnc, storeCells]
    refine wpList_plain hgd fun _ hK => ?_
    unfold Oper.wp execOp
    simp only [List.length_nil] at hx
    simp only [ho, resolve, invoke, builtin, Sem.run_bind, Sem.run_pure, Result.andThen_ok, List.map_toArray, List.map_cons, List.map_nil, hs, hx, hrun]
    exact hK _ _ (k _ _ (by simpa using h) (Below.refl _ _))
  | some ad =>
    refine wpList_append_own_at _ hgd s x t ho B _ i0 _ 1 8 ht hi hz0 hz1 hz2 rfl (by decide) v _ _ hs h.own ad l2.length c (zcells l2) hx (by simp [zcells]) ?_ (fun u hu => by simp [zcells] at hu; obtain ⟨y, _, rfl⟩ := hu; rfl) (by unfold maxLen; omega) (by omega) hB ?_
    · intro j u hj
      have hj2 : j < l2.length := by
        have := (List.getElem?_eq_some_iff.1 hj).1
        simpa [zcells] using this
      obtain ⟨b, o, e, _, hc⟩ := hI (by omega)
      cases e
      rw [Addr.add_lit, hc j hj2]
      have : (zcells l2)[j]? = some (.int .i64 (nth l2 j)) := by simp [zcells, nth, hj2]
      rw [this] at hj
      exact hj
    · intro v' w' h2 h3 h4 _
      refine k v' w' ⟨by simpa [zcells] using h2, fun e => ?_⟩ (Below.grown (Below.refl B wr) h3 hB fun _ hj => (h.own.lt _ hj).1)
      obtain ⟨e1, e2⟩ := List.append_eq_nil_iff.1 e
      exact h4.2 ⟨h.nil e1, by rw [e2]; rfl⟩
/-- A row of rows lies from A on. -/
def RowsAt (W : World) (B : Nat) (A : Option Addr) (L : List (List Int)) : Prop := 0 < L.length → ∃ b o, A = some ⟨b, o, none⟩ ∧ b < B ∧ ∀ k (h : k < L.length), ∃ A' c', W.cell? ⟨b, o + k, none⟩ = some (.slice A' L[k].length c') ∧ L[k].length ≤ c' ∧ IntsAt W B A' L[k]
theorem RowsAt.below {W W' : World} {B : Nat} {A : Option Addr} {L : List (List Int)} (h : RowsAt W B A L) (hb : Below B W W') : RowsAt W' B A L := fun h0 => by
  obtain ⟨b, o, hA, hlt, hc⟩ := h h0
  refine ⟨b, o, hA, hlt, fun k hk => ?_⟩
  obtain ⟨A', c', h1, h2, h3⟩ := hc k hk
  exact ⟨A', c', (hb.cell (p := ⟨b, o + k, none⟩) hlt).trans h1, h2, h3.below hb (Nat.le_refl _)⟩
def WholeR (L : List (List Int)) (w : World) (e : Ending) (w' : World) : Prop := ∃ n : Nat, e = .returned (.int .i64 (n : Int)) ∧ IsWhole L n ∧ w = w'
set_option maxRecDepth 100000 in
set_option maxHeartbeats 4000000 in
theorem whole_any (A : Option Addr) (cp : Nat) (L : List (List Int)) (w : World) (hl : L.length ≤ 100000000) (hR : RowsAt w w.heap.size A L) :
    Calls Tryd.prog 24 #[.slice A L.length cp] w (WholeR L w) := by
  have HR := Lib.hid hR
  have Hl := Lib.hid hl
  clear hR hl
  go_enter Tryd.func24, Tryd.ntmps24
  go_wp2_with fail
  go_loop [3] (fun n => ∃ k : Nat, k ≤ L.length ∧ n = .int .i64 (k : Int) ∧ Hid (∀ j, k ≤ j → j < L.length → L[j]? = some [])) (fun n => (intOf n).toNat)
  case atStart => exact ⟨L.length, Nat.le_refl _, rfl, fun j h1 h2 => by omega⟩
  case round =>
    obtain ⟨k, hk, rfl, hz⟩ := hrel
    cases k with
    | zero =>
      have HE : Hid (IsWhole L 0) := ⟨hk, hz.out, .inl rfl⟩
      clear hz
      go_wp2_with fail
      go_ret
      exact ⟨0, rfl, HE.out, rfl⟩
    | succ m =>
      obtain ⟨b, o, rfl, hb, hc⟩ := HR.out (by omega)
      obtain ⟨A', c', h1, h2, h3⟩ := hc m (by omega)
      clear h3
      have hm : m < L.length := by omega
      obtain ⟨r, hr⟩ : ∃ r, L[m] = r := ⟨_, rfl⟩
      rw [hr] at h1 h2
      have hr2 : L[m]? = some r := by rw [List.getElem?_eq_getElem hm, hr]
      have hj : ((m + 1 : Nat) : Int) - 1 = (m : Int) := by omega
      have hj0 : (0 : Int) < ((m + 1 : Nat) : Int) := by omega
      have hw1 : wrap64 (m : Int) = m := IntWalk.wrap64_in _ (by have := Hl.out; omega)
      have hmz : ∀ y : Int, y = m → (intOf (.int .i64 y)).toNat < (intOf (.int .i64 ((m + 1 : Nat) : Int))).toNat := by intro y hy; subst hy; simp only [intOf]; omega
      cases r with
      | nil =>
        have HZ : Hid (∀ j, m ≤ j → j < L.length → L[j]? = some []) := fun j h3 h4 => by
          by_cases e : j = m
          · subst e; exact hr2
          · exact hz.out j (by omega) h4
        have Hm := Lib.hid hm
        rw [List.length_nil] at h1
        clear hz hc hb hr hr2 h2 hk
        go_wp2_with fail
        first
          | exact ⟨⟨m, Nat.le_of_lt Hm.out, by simp, HZ⟩, hmz _ rfl⟩
          | exact ⟨⟨m, Nat.le_of_lt Hm.out, by simp, HZ⟩, hmz _ (by simp)⟩
          | exact ⟨⟨m, Nat.le_of_lt Hm.out, congrArg (Value.int .i64) hw1, HZ⟩, hmz _ hw1⟩
      | cons z r =>
        have HE : Hid (IsWhole L (m + 1)) := ⟨hk, hz.out, .inr ⟨z :: r, hr2, by simp⟩⟩
        have hne : (((z :: r).length : Int) == 0) = false := beq_eq_false_iff_ne.2 (by simp; omega)
        have hne2 : (((z :: r).length) == 0) = false := rfl
        obtain ⟨n, hn⟩ : ∃ n, (z :: r).length = n := ⟨_, rfl⟩
        rw [hn] at h1 hne hne2
        clear hz hc hb hr hr2 h2 hk hn
        go_wp2_with fail
        go_ret
        exact ⟨m + 1, by simp, HE.out, rfl⟩
def ZR (w : World) (B : Nat) (l : List Int) (e : Ending) (w' : World) : Prop := ∃ v', e = .returned v' ∧ ZOwn w' B v' l ∧ Below B w w'
set_option maxRecDepth 100000 in
set_option maxHeartbeats 4000000 in
theorem chomped_any (v : Value) (out : List Int) (n all : Nat) (chomp : Int) (B : Nat) (w : World) (hv : ZOwn w B v out) (hB : B ≤ w.heap.size) (hl : out.length ≤ 100000000) (hna : n ≤ all) (hal : all ≤ 100000000) :
    Calls Tryd.prog 25 #[v, .int .i64 (n : Int), .int .i64 (all : Int), .int .i64 chomp] w (ZR w B (chompedL out n all chomp)) := by
  have HV := Lib.hid hv
  have HB := Lib.hid hB
  have Hl := Lib.hid hl
  by_cases h2 : chomp = 2
  · subst h2
    obtain ⟨k, hk⟩ : ∃ k, all - n + (if 0 < n then 1 else 0) = k := ⟨_, rfl⟩
    have HE : Hid (chompedL out n all 2 = out ++ List.replicate k 10) := by show _ = _; rw [chompedL, if_pos rfl, hk]
    rw [HE.out]
    have Hkl : Hid (k ≤ 100000001) := by show _ ≤ _; split at hk <;> omega
    have hsub : (all : Int) - (n : Int) = ((all - n : Nat) : Int) := by omega
    have hw1 : wrap64 ((all : Int) - (n : Int)) = ((all - n : Nat) : Int) := by rw [hsub]; exact IntWalk.wrap64_in _ (by omega)
    have HS : Hid (ZOwn w B v (out ++ List.replicate 0 10)) := by show ZOwn _ _ _ _; simpa using hv
    by_cases hn : 0 < n
    · rw [if_pos hn] at hk
      have hnI : (0 : Int) < (n : Int) := by omega
      obtain ⟨d, hd⟩ : ∃ d, all - n = d := ⟨_, rfl⟩
      rw [hd] at hsub hw1 hk
      have hk1 : wrap64 ((d : Int) + 1) = (k : Int) := by rw [← hk, Int.natCast_add]; exact IntWalk.wrap64_in _ (by omega)
      have hk2 : wrap64 (d : Int) = (d : Int) := IntWalk.wrap64_in _ (by omega)
      clear hw1
      have Hd := Lib.hid hd
      clear hd hna hal hl hv hB hk HV HE
      go_enter Tryd.func25, Tryd.ntmps25
      go_wp2_with fail
      try simp only [hk2, hk1]
      clear hsub hk1 hk2 hnI hn
      go_loopw [0, 10] (fun u i wr => ∃ q : Nat, q ≤ k ∧ i = .int .i64 (q : Int) ∧ Hid (ZOwn wr B u (out ++ List.replicate q 10)) ∧ Hid (Below B w wr)) (fun _ i _ => k - (intOf i).toNat)
      case atStart => exact ⟨0, Nat.zero_le _, rfl, HS, Below.refl _ _⟩
      case round =>
        obtain ⟨q, hq, rfl, hz, hb⟩ := hrel
        by_cases hlt : q < k
        · have hlt' : (q : Int) < (k : Int) := by omega
          have hlt2 : decide (q < k) = true := decide_eq_true hlt
          have HT : Hid (out ++ List.replicate (q + 1) 10 = (out ++ List.replicate q (10 : Int)) ++ [10]) := by show _ = _; rw [List.replicate_succ', List.append_assoc]
          have hll : (out ++ List.replicate q (10 : Int)).length ≤ 1000000000 := by rw [List.length_append, List.length_replicate]; have := Hl.out; have := Hkl.out; omega
          have hsz : B ≤ wr.heap.size := Nat.le_trans HB.out hb.out.size
          have hzo := hz.out
          have Hlt := Lib.hid hlt
          have hmz : ∀ y : Int, y = q + 1 → k - (intOf (.int .i64 y)).toNat < k - (intOf (.int .i64 (q : Int))).toNat := by intro y hy; subst hy; have := Hlt.out; simp only [intOf]; omega
          have HW : Hid (wrap64 ((q : Int) + 1) = q + 1) := IntWalk.wrap64_in _ (by have := Hlt.out; have := Hkl.out; omega)
          clear hz hlt hq
          go_wp2_with (at_builtin; refine wpList_appZ rfl _ _ _ rfl Tryd.underlying23 B u0 (out ++ List.replicate q 10) 10 rfl hzo wr.heap.size rfl rfl hll hsz ?_; intro v' w' hz' hb'; have Hz' := Lib.hid (HT.out ▸ hz'); have Hb' := Lib.hid (hb.out.trans hb'); clear hz' hb')
          first
            | exact ⟨⟨q + 1, Hlt.out, by simp, Hz', Hb'⟩, hmz _ rfl⟩
            | exact ⟨⟨q + 1, Hlt.out, congrArg (Value.int .i64) (HW.out.trans (by simp)), Hz', Hb'⟩, hmz _ HW.out⟩
        · obtain rfl : q = k := by omega
          have hlt' : ¬ (q : Int) < (q : Int) := by omega
          have HEn := Lib.hid (And.intro hz.out hb.out)
          clear hz hb hlt hq
          go_wp2_with fail
          go_ret
          exact ⟨_, rfl, HEn.out⟩
    · rw [if_neg hn] at hk
      have hn0 : n = 0 := by omega
      subst hn0
      have hk' : k = all := by omega
      subst hk'
      have hwk : wrap64 (k : Int) = (k : Int) := IntWalk.wrap64_in _ (by omega)
      clear hna hal hl hv hB hk HV HE hsub hw1
      show Calls Tryd.prog 25 #[v, .int .i64 0, .int .i64 (k : Int), .int .i64 2] w (ZR w B (out ++ List.replicate k 10))
      go_enter Tryd.func25, Tryd.ntmps25
      go_wp2_with fail
      try simp only [hwk]
      clear hwk
      go_loopw [0, 10] (fun u i wr => ∃ q : Nat, q ≤ k ∧ i = .int .i64 (q : Int) ∧ Hid (ZOwn wr B u (out ++ List.replicate q 10)) ∧ Hid (Below B w wr)) (fun _ i _ => k - (intOf i).toNat)
      case atStart => exact ⟨0, Nat.zero_le _, rfl, HS, Below.refl _ _⟩
      case round =>
        obtain ⟨q, hq, rfl, hz, hb⟩ := hrel
        by_cases hlt : q < k
        · have hlt' : (q : Int) < (k : Int) := by omega
          have hlt2 : decide (q < k) = true := decide_eq_true hlt
          have HT : Hid (out ++ List.replicate (q + 1) 10 = (out ++ List.replicate q (10 : Int)) ++ [10]) := by show _ = _; rw [List.replicate_succ', List.append_assoc]
          have hll : (out ++ List.replicate q (10 : Int)).length ≤ 1000000000 := by rw [List.length_append, List.length_replicate]; have := Hl.out; have := Hkl.out; omega
          have hsz : B ≤ wr.heap.size := Nat.le_trans HB.out hb.out.size
          have hzo := hz.out
          have Hlt := Lib.hid hlt
          have hmz : ∀ y : Int, y = q + 1 → k - (intOf (.int .i64 y)).toNat < k - (intOf (.int .i64 (q : Int))).toNat := by intro y hy; subst hy; have := Hlt.out; simp only [intOf]; omega
          have HW : Hid (wrap64 ((q : Int) + 1) = q + 1) := IntWalk.wrap64_in _ (by have := Hlt.out; have := Hkl.out; omega)
          clear hz hlt hq
          go_wp2_with (at_builtin; refine wpList_appZ rfl _ _ _ rfl Tryd.underlying23 B u0 (out ++ List.replicate q 10) 10 rfl hzo wr.heap.size rfl rfl hll hsz ?_; intro v' w' hz' hb'; have Hz' := Lib.hid (HT.out ▸ hz'); have Hb' := Lib.hid (hb.out.trans hb'); clear hz' hb')
          first
            | exact ⟨⟨q + 1, Hlt.out, by simp, Hz', Hb'⟩, hmz _ rfl⟩
            | exact ⟨⟨q + 1, Hlt.out, congrArg (Value.int .i64) (HW.out.trans (by simp)), Hz', Hb'⟩, hmz _ HW.out⟩
        · obtain rfl : q = k := by omega
          have hlt' : ¬ (q : Int) < (q : Int) := by omega
          have HEn := Lib.hid (And.intro hz.out hb.out)
          clear hz hb hlt hq
          go_wp2_with fail
          go_ret
          exact ⟨_, rfl, HEn.out⟩
  · have hc2 : (chomp == 2) = false := beq_eq_false_iff_ne.2 h2
    by_cases h1 : 0 < n ∧ chomp ≠ 1
    · have HE : Hid (chompedL out n all chomp = out ++ [10]) := by show _ = _; rw [chompedL, if_neg h2, if_pos h1]
      rw [HE.out]
      have hnI : (0 : Int) < (n : Int) := by omega
      have hc1 : (chomp != 1) = true := bne_iff_ne.2 h1.2
      have hll : out.length ≤ 1000000000 := by omega
      clear h1 h2 hna hal HE
      go_enter Tryd.func25, Tryd.ntmps25
      go_wp2_with (at_builtin; refine wpList_appZ rfl _ _ _ rfl Tryd.underlying23 B v out 10 rfl hv w.heap.size rfl rfl hll hB ?_; intro v' w' hz' hb'; have HEn := Lib.hid (And.intro hz' hb'); clear hz' hb')
      go_ret
      exact ⟨_, rfl, HEn.out⟩
    · have HE : Hid (chompedL out n all chomp = out) := by show _ = _; rw [chompedL, if_neg h2, if_neg h1]
      rw [HE.out]
      have HEn : Hid (ZOwn w B v out ∧ Below B w w) := ⟨hv, Below.refl _ _⟩
      by_cases hn : 0 < n
      · have hc1 : (chomp != 1) = false := by
          have : chomp = 1 := Classical.byContradiction fun h => h1 ⟨hn, h⟩
          rw [this]; rfl
        have hnI : (0 : Int) < (n : Int) := by omega
        clear h1 h2 hna hal HE hv
        go_enter Tryd.func25, Tryd.ntmps25
        go_wp2_with fail
        go_ret
        exact ⟨_, rfl, HEn.out⟩
      · obtain rfl : n = 0 := by omega
        clear h1 h2 hna hal HE hv hn
        go_enter Tryd.func25, Tryd.ntmps25
        go_wp2_with fail
        go_ret
        exact ⟨_, rfl, HEn.out⟩
def LitR (w : World) (L : List (List Int)) (chomp : Int) (e : Ending) (w' : World) : Prop := ∃ v' n, e = .returned v' ∧ IsWhole L n ∧ ZOwn w' w.heap.size v' (chompedL (joinN L n) n L.length chomp) ∧ Below w.heap.size w w'
theorem rd_self {L : List (List Int)} {k : Nat} (h : k < L.length) : L.getD k [] = L[k] := by simp [List.getD, h]
set_option maxRecDepth 100000 in
set_option maxHeartbeats 4000000 in
theorem RLit_any (A : Option Addr) (cp : Nat) (L : List (List Int)) (chomp : Int) (w : World) (hl : L.length ≤ 100000000) (hR : RowsAt w w.heap.size A L) (hJ : ∀ k, k ≤ L.length → (joinN L k).length ≤ 100000000) :
    Calls Tryd.prog 10 #[.slice A L.length cp, .int .i64 chomp] w (LitR w L chomp) := by
  have HWh := Lib.hid (whole_any A cp L w hl hR)
  have HR := Lib.hid hR
  have Hl := Lib.hid hl
  have HJ := Lib.hid hJ
  clear hR hl hJ
  go_enter Tryd.func10, Tryd.ntmps10
  go_wp2_with (go_at_call 24; refine HWh.out.mono ?_; rintro e w' ⟨n, rfl, hw, rfl⟩; have Hw := Lib.hid hw; clear hw)
  have Hnl : Hid (n ≤ 100000000) := Nat.le_trans Hw.out.le Hl.out
  have HCh : Hid (∀ (v : Value) (W : World), ZOwn W w.heap.size v (joinN L n) → w.heap.size ≤ W.heap.size → Calls Tryd.prog 25 #[v, .int .i64 (n : Int), .int .i64 (L.length : Int), .int .i64 chomp] W (ZR W w.heap.size (chompedL (joinN L n) n L.length chomp))) := fun v W hz hs => chomped_any v (joinN L n) n L.length chomp w.heap.size W hz hs (HJ.out n Hw.out.le) Hw.out.le Hl.out
  clear HWh
  go_loopw [6, 7] (fun u i wr => ∃ k : Nat, k ≤ n ∧ i = .int .i64 (k : Int) ∧ Hid (ZOwn wr w.heap.size u (joinN L k)) ∧ Hid (Below w.heap.size w wr)) (fun _ i _ => n - (intOf i).toNat)
  case atStart => exact ⟨0, Nat.zero_le _, rfl, ZOwn.empty _ _, Below.refl _ _⟩
  case round =>
    obtain ⟨k, hk, rfl, hz, hb⟩ := hrel
    by_cases hlt : k < n
    · have hkL : k < L.length := Nat.lt_of_lt_of_le hlt Hw.out.le
      obtain ⟨b, o, hA, hbl, hc⟩ := (HR.out.below hb.out) (by omega)
      subst hA
      obtain ⟨A', c', h1, h2, h3⟩ := hc k hkL
      obtain ⟨r, hr⟩ : ∃ r, L[k] = r := ⟨_, rfl⟩
      rw [hr] at h1 h2 h3
      have hjn : joinN L (k + 1) = joinN L k ++ (if 0 < k then [10] else []) ++ r := by simp only [joinN]; rw [rd_self hkL, hr]
      have hj1 := HJ.out (k + 1) hkL
      rw [hjn, List.length_append, List.length_append] at hj1
      obtain ⟨rl, hrl⟩ : ∃ rl, r.length = rl := ⟨_, rfl⟩
      rw [hrl] at h1 h2 hj1
      have Hrl := Lib.hid hrl
      have hkc : k < L.length := hkL
      have hkI : (k : Int) < (L.length : Int) := by omega
      have hk0 : (0 : Int) ≤ (k : Int) := Int.natCast_nonneg k
      have hlt' : (k : Int) < (n : Int) := by omega
      have hlt2 : decide (k < n) = true := decide_eq_true hlt
      have Hlt := Lib.hid hlt
      have Hb := Lib.hid hb.out
      have hsz : w.heap.size ≤ wr.heap.size := hb.out.size
      have hmz : ∀ y : Int, y = k + 1 → n - (intOf (.int .i64 y)).toNat < n - (intOf (.int .i64 (k : Int))).toNat := by intro y hy; subst hy; have := Hlt.out; simp only [intOf]; omega
      have HW : Hid (wrap64 ((k : Int) + 1) = k + 1) := IntWalk.wrap64_in _ (by have := Hlt.out; have := Hnl.out; omega)
      have hzo := hz.out
      by_cases hk1 : 0 < k
      · rw [if_pos hk1] at hjn hj1
        have hkp : (0 : Int) < (k : Int) := by omega
        have HJn := Lib.hid hjn
        have hll : (joinN L k).length ≤ 1000000000 := by omega
        have Hj1 := Lib.hid hj1
        have HIr : Hid (IntsAt wr w.heap.size A' r) := h3
        have Hh1 : Hid (∀ W, Below w.heap.size wr W → W.cell? ⟨b, o + k, none⟩ = some (.slice A' rl c')) := fun W hW => (hW.cell (p := ⟨b, o + k, none⟩) hbl).trans h1
        clear hz hb hc hr hjn hj1 hrl hlt hk h3 h1 hbl
        go_wp2_with (first
          | (at_builtin; refine wpList_appZ rfl _ _ _ rfl Tryd.underlying23 w.heap.size u6 (joinN L k) 10 rfl hzo wr.heap.size rfl rfl hll hsz ?_; intro v1 w1 hz1 hb1; have hz1o := hz1; have h1 := Hh1.out w1 hb1; have Hb1 := Lib.hid hb1; have hI1 := (HIr.out.below hb1 (Nat.le_refl _)).more (Nat.le_trans hsz hb1.size); have hl2 : (joinN L k ++ [10]).length + r.length ≤ 1000000000 := (by rw [List.length_append, Hrl.out]; have := Hj1.out; simp at this ⊢; omega); have hs1 : w.heap.size ≤ w1.heap.size := Nat.le_trans hsz hb1.size; clear hz1 hb1)
          | (at_builtin; refine wpList_appZs rfl _ _ _ rfl Tryd.underlying23 w.heap.size v1 (joinN L k ++ [10]) rfl hz1o A' r rl c' Hrl.out.symm rfl hI1 hl2 hs1 ?_; intro v2 w2 hz2 hb2; have Hz2 : Hid (ZOwn w2 w.heap.size v2 (joinN L (k + 1))) := (by show ZOwn _ _ _ _; rw [HJn.out]; exact hz2); have Hb2 := Lib.hid ((Hb.out.trans Hb1.out).trans hb2); clear hz2 hb2))
        first
          | exact ⟨⟨k + 1, Hlt.out, by simp, Hz2, Hb2⟩, hmz _ rfl⟩
          | exact ⟨⟨k + 1, Hlt.out, congrArg (Value.int .i64) (HW.out.trans (by simp)), Hz2, Hb2⟩, hmz _ HW.out⟩
      · obtain rfl : k = 0 := by omega
        rw [if_neg hk1] at hjn hj1
        rw [Nat.add_zero] at h1
        have HJn := Lib.hid hjn
        have hl2 : (joinN L 0).length + r.length ≤ 1000000000 := by rw [hrl]; simp at hj1 ⊢; omega
        have hI1 : IntsAt wr wr.heap.size A' r := IntsAt.more h3 hsz
        clear hz hb hc hr hjn hj1 hrl hlt hk h3 hbl
        go_wp2_with (at_builtin; refine wpList_appZs rfl _ _ _ rfl Tryd.underlying23 w.heap.size u6 (joinN L 0) rfl hzo A' r rl c' Hrl.out.symm rfl hI1 hl2 hsz ?_; intro v2 w2 hz2 hb2; have Hz2 : Hid (ZOwn w2 w.heap.size v2 (joinN L (0 + 1))) := (by show ZOwn _ _ _ _; rw [HJn.out, List.append_nil]; exact hz2); have Hb2 := Lib.hid (Hb.out.trans hb2); clear hz2 hb2)
        first
          | exact ⟨⟨0 + 1, Hlt.out, by simp, Hz2, Hb2⟩, hmz _ rfl⟩
          | exact ⟨⟨0 + 1, Hlt.out, by simp, Hz2, Hb2⟩, hmz _ (by simp)⟩
          | exact ⟨⟨0 + 1, Hlt.out, congrArg (Value.int .i64) (HW.out.trans (by simp)), Hz2, Hb2⟩, hmz _ HW.out⟩
    · obtain rfl : k = n := by omega
      have hlt' : ¬ (k : Int) < (k : Int) := by omega
      have HC := Lib.hid (HCh.out u6 wr hz.out hb.out.size)
      have Hb := Lib.hid hb.out
      clear hz hb hlt hk
      go_wp2_with (go_at_call 25; refine HC.out.mono ?_; rintro e w2 ⟨v2, rfl, hz2, hb2⟩; have HE := Lib.hid (And.intro hz2 (Hb.out.trans hb2)); clear hz2 hb2)
      go_ret
      exact ⟨_, k, rfl, Hw.out, HE.out⟩
end Go.Proofs.YtnofdlpifpjlbaaDoor
