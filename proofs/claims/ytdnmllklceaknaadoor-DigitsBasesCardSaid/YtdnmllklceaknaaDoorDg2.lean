/- The walks of the program's digits: a digit of a list, the digits of a text, and a list of digits times a number. Condition: lists that are not too long. -/
import Derived.Test.YtdnmllklceaknaaDoorDg1
import Derived.Deep.AppendLies
namespace Go.Proofs.YtdnmllklceaknaaDoor
open Go.RowKit
open Dig
theorem Tryd.infoInt : (Tryd.prog.info? 3).map (fun i => (i.zero, i.size, i.bytes)) = some (some (.int .i64 0), 1, 8) := by kernel_rfl
def icells (l : List Nat) : List Value := l.map fun d : Nat => .int .i64 (d : Int)
/-- A row of digits that the call owns; nil where it is empty. -/
structure IOwn (w : World) (B : Nat) (v : Value) (l : List Nat) : Prop where
  own : w.ownsRow B 3 1 v l.length (icells l)
  nil : l = [] → v = .slice none 0 0
theorem IOwn.empty (w : World) (B : Nat) : IOwn w B (.slice none 0 0) [] := ⟨⟨rfl, .inl ⟨rfl, rfl⟩⟩, fun _ => rfl⟩
/-- What such a row looks like. -/
theorem IOwn.form {w : World} {B : Nat} {v : Value} {l : List Nat} (h : IOwn w B v l) : ∃ A c, v = .slice A l.length c ∧ l.length ≤ c ∧ IntsAt w w.heap.size A (ints l) ∧ (l ≠ [] → ∃ g, A = some g) := by
  have h' := h.own
  rcases h.own.2 with ⟨rfl, h0⟩ | ⟨g, cap, cur, rfl, _, hg, hc, _⟩
  · rw [h0]
    exact ⟨none, 0, rfl, by simp, fun hz => by rw [ints_len] at hz; omega, fun hn => (hn (List.length_eq_zero_iff.1 h0)).elim⟩
  · refine ⟨_, cap, rfl, hc, fun _ => ⟨g, 0, rfl, (Array.getElem?_eq_some_iff.1 hg).1, fun k hk => ?_⟩, fun _ => ⟨_, rfl⟩⟩
    rw [ints_len] at hk
    have := h'.cells (g := g) rfl k (.int .i64 (nth (ints l) k)) (by rw [nth_ints]; simp [icells, dig, hk])
    simpa [Addr.add_lit] using this
theorem IOwn.alloc {w : World} {B : Nat} {v : Value} {l : List Nat} (h : IOwn w B v l) (o : Obj) : IOwn (w.alloc o) B v l := ⟨h.own.alloc o, h.nil⟩
/-- 'append' of one digit to a row that the call owns. -/
theorem wpList_app1 {wr : World} {ops : Array Oper} {rest : List Oper} {o : Oper} {a : Act} {Q : Exit → Act → World → Prop} (hgd : o.guard = none) (s x : Operand) (t : TypeId)
    (ho : o.op = .call { callee := .builtin .append, args := #[s, x], argTypes := #[t, t] }) (ht : Tryd.prog.underlying t = some (.slice 3)) (B : Nat)
    (v : Value) (l : List Nat) (d : Nat) (z : Int) (hz : z = (d : Int)) (hs : a.eval s = v) (h : IOwn wr B v l) (n0 : Nat) (hn0 : n0 = wr.heap.size) (hx : a.eval x = .slice (some ⟨n0, 0, none⟩) 1 1) (hl : l.length ≤ 1000000) (hB : B ≤ wr.heap.size)
    (k : ∀ v' w', IOwn w' B v' (l ++ [d]) → Below B wr w' → wpList Tryd.prog ops Q rest (a.put o.dst v') w') : wpList Tryd.prog ops Q (o :: rest) a (wr.alloc (.cells #[.int .i64 z] 3)) := by
  obtain ⟨i0, hi, hz0, hz1, hz2⟩ := info_parts Tryd.infoInt
  subst hz
  refine wpList_append_own _ hgd s x t ho B _ i0 _ 1 8 ht hi hz0 hz1 hz2 rfl (by decide) v _ _ hs (h.own.alloc _) ⟨n0, 0, none⟩ 1 1 [.int .i64 d] hx rfl ?_ (fun u hu => by simp at hu; subst hu; rfl) (by unfold maxLen; omega) (by omega) (by simp; omega) ?_
  · intro j u hj
    match j, hj with
    | 0, hj => simp at hj; subst hj; subst hn0; simp [Addr.add]
    | j + 1, hj => simp at hj
  · intro v' w' h1 h2 _
    refine k v' w' ⟨by simpa [icells] using h1, fun e => by simp at e⟩ ?_
    exact Below.grown ((Below.refl B wr).alloc hB _) h2 (by simp; omega) fun _ hj => (h.own.lt _ hj).1
theorem at_any (A : Option Addr) (c : Nat) (l : List Nat) (i : Nat) (w : World) (hl : l.length ≤ 1000000) (hI : IntsAt w w.heap.size A (ints l)) :
    Calls Tryd.prog 25 #[.slice A l.length c, .int .i64 i] w fun e w' => e = .returned (.int .i64 (dig l i)) ∧ w = w' := by
  go_enter Tryd.func25, Tryd.ntmps25
  by_cases hi : i < l.length
  · obtain ⟨b, off, rfl, hb, hc⟩ := hI (by rw [ints_len]; omega)
    have hci := hc i (by rw [ints_len]; omega)
    rw [nth_ints] at hci
    clear hc
    have hi' : (i : Int) < (l.length : Int) := by omega
    go_wp2
    go_ret
    exact ⟨rfl, rfl⟩
  · have hi' : ¬ (i : Int) < (l.length : Int) := by omega
    have hd : dig l i = 0 := by simp [dig, List.getElem?_eq_none (Nat.le_of_not_lt hi)]
    go_wp2
    go_ret
    exact ⟨rfl, rfl⟩
theorem pow_step {x K k : Nat} (h : x < 10 ^ (K + 7 - k)) (h0 : 0 < x) (hk : K ≤ k ∧ k ≤ K + 7) : ∃ j, K + 7 - k = j + 1 ∧ (x + 0) / 10 < 10 ^ j ∧ x ≤ 10000000 := by
  have hp : 10 ^ (K + 7 - k) ≤ 10 ^ 7 := Nat.pow_le_pow_right (by decide) (by omega)
  match hj : K + 7 - k with
  | 0 => rw [hj] at h; simp at h; omega
  | j + 1 =>
    rw [hj, Nat.pow_succ] at h
    refine ⟨j, rfl, by omega, ?_⟩
    have : (10 : Nat) ^ 7 = 10000000 := by decide
    rw [hj, Nat.pow_succ] at hp
    omega
set_option maxHeartbeats 1000000 in
theorem times_any (A : Option Addr) (c : Nat) (l : List Nat) (n m : Nat) (w : World) (hl : l.length ≤ 500000) (ho : Ok l) (hn : n ≤ 1000000) (hm : m ≤ 1000000) (hI : IntsAt w w.heap.size A (ints l)) :
    Calls Tryd.prog 19 #[.slice A l.length c, .int .i64 n, .int .i64 m] w fun e w' => ∃ v, e = .returned v ∧ ∃ r, IOwn w' w.heap.size v r ∧ Ok r ∧ val r = val l * n + m ∧ r.length ≤ l.length + 7 ∧ Below w.heap.size w w' := by
  go_enter Tryd.func19, Tryd.ntmps19
  go_wp2
  go_loopw [2, 7, 8] (fun mo o i wr => ∃ (k x : Nat) (r : List Nat), i = .int .i64 k ∧ mo = .int .i64 x ∧ IOwn wr w.heap.size o r ∧ Hid (MInv (val l * n + m) k r x (val (l.drop k) * n)) ∧ Hid (k ≤ l.length + 7) ∧ Hid (k ≤ l.length → x ≤ 1000000) ∧ Hid (l.length ≤ k → x < 10 ^ (l.length + 7 - k)) ∧ Below w.heap.size w wr) (fun _ _ i _ => l.length + 7 - (intOf i).toNat)
  case atStart => exact ⟨0, m, [], rfl, rfl, IOwn.empty _ _, ⟨rfl, (by intro d h; cases h), (by simp [val]; omega)⟩, by show _ ≤ _; omega, fun _ => hm, fun h => by rw [show l.length + 7 - 0 = 7 by omega]; have := hm; omega, Below.refl _ _⟩
  case round =>
    obtain ⟨k, x, r, rfl, rfl, hown, hM, hk7, hx1, hx2, hbl⟩ := hrel
    obtain ⟨d, hd⟩ : ∃ d, dig l k = d := ⟨_, rfl⟩
    have hd9 : d < 10 := hd ▸ dig_lt ho k
    obtain ⟨p, hp⟩ : ∃ p : Nat, d * n = p := ⟨_, rfl⟩
    have hp9 : p ≤ 9000000 := by rw [← hp]; exact Nat.le_trans (Nat.mul_le_mul (show d ≤ 9 by omega) hn) (by decide)
    have hpi : (d : Int) * (n : Int) = (p : Int) := by rw [← hp]; simp
    have hA := at_any A c l k wr (by omega) ((hI.below hbl (Nat.le_refl _)).more hbl.size)
    rw [hd] at hA
    have hstep : k < l.length ∨ 0 < x → MInv (val l * n + m) (k + 1) (r ++ [(x + p) % 10]) ((x + p) / 10) (val (l.drop (k + 1)) * n) := fun _ => hM.out.step (by rw [val_drop, hd, Nat.add_mul, hp, Nat.mul_assoc])
    have HS := Lib.hid hstep
    have hrl := hM.out.len
    have hkb : k ≤ 500010 := by have := hk7.out; omega
    have hsz := hbl.size
    have HD0 : Hid (l.length ≤ k → p = 0) := fun h => by
      have h0 : d = 0 := by rw [← hd]; simp [dig, List.getElem?_eq_none h]
      rw [← hp, h0, Nat.zero_mul]
    clear hstep hp hd
    by_cases hlt : k < l.length
    · have hx := hx1.out (by omega)
      have hlt' : (k : Int) < (l.length : Int) := by omega
      go_wp2_with (first
        | (go_at_call 25; refine hA.mono ?_; rintro e w' ⟨rfl, rfl⟩)
        | (at_builtin; go_loud (refine wpList_app1 rfl _ _ _ rfl Tryd.underlying35 w.heap.size u7 r ((x + p) % 10) _ (by omega) rfl hown _ rfl rfl (by omega) hsz ?_); intro v1 w1 hown1 hb1))
      go_roundw
      case rel => exact ⟨k + 1, (x + p) / 10, r ++ [(x + p) % 10], by go_num, by go_num, hown1, HS.out (.inl hlt), (by show _ ≤ _; omega), (fun _ => by omega), (fun h => by rw [show l.length + 7 - (k + 1) = 7 by omega]; omega), hbl.trans hb1⟩
      case measure => simp [intOf]; omega
    · have hx := hx2.out (by omega)
      have hlt' : ¬ (k : Int) < (l.length : Int) := by omega
      by_cases hx0 : 0 < x
      · have hx0' : (0 : Int) < (x : Int) := by omega
        obtain ⟨j, hj, hxj, hxb⟩ := pow_step hx hx0 (by have := hk7.out; omega)
        have HJ := Lib.hid hj
        have HXJ := Lib.hid hxj
        clear hx hj hxj
        go_wp2_with (first
        | (go_at_call 25; refine hA.mono ?_; rintro e w' ⟨rfl, rfl⟩)
        | (at_builtin; refine wpList_app1 rfl _ _ _ rfl Tryd.underlying35 w.heap.size u7 r ((x + p) % 10) _ (by omega) rfl hown _ rfl rfl (by omega) hsz ?_; intro v1 w1 hown1 hb1))
        go_roundw
        case rel => exact ⟨k + 1, (x + p) / 10, r ++ [(x + p) % 10], by go_num, by go_num, hown1, HS.out (.inr hx0), (by have := HJ.out; show _ ≤ _; omega), (fun h => by omega), (fun _ => by have h1 := HJ.out; have h2 := HXJ.out; have h3 := HD0.out (by omega); rw [show l.length + 7 - (k + 1) = j by omega, h3]; exact h2), hbl.trans hb1⟩
        case measure => have := HJ.out; simp [intOf]; omega
      · obtain rfl : x = 0 := by omega
        have hv : val r = val l * n + m := by
          have h := hM.out
          rw [List.drop_eq_nil_of_le (by omega)] at h
          simp only [val, Nat.zero_mul] at h
          exact h.done
        have HV := Lib.hid hv
        clear hv
        go_wp2
        go_ret
        exact ⟨_, rfl, r, hown, hM.out.ok, HV.out, by rw [hrl]; exact hk7.out, hbl⟩
theorem rev_get (s : ByteArray) {k : Nat} (h : k < s.size) : s.data.toList.reverse[k]? = some s[s.size - 1 - k] := by
  have hl : s.data.toList.length = s.size := by simp
  rw [List.getElem?_reverse (by rw [hl]; exact h), hl]
  have hk : s.size - 1 - k < s.size := by omega
  rw [List.getElem?_eq_getElem (by rw [hl]; exact hk)]
  simp
  rfl
theorem rev_take (s : ByteArray) {k : Nat} (h : k < s.size) : s.data.toList.reverse.take (k + 1) = s.data.toList.reverse.take k ++ [s[s.size - 1 - k]] := by
  have hlt : k < s.data.toList.reverse.length := by simpa using h
  rw [List.take_succ_eq_append_getElem hlt]
  have := rev_get s h
  rw [List.getElem?_eq_getElem hlt] at this
  rw [Option.some.inj this]
theorem all_rev (s : ByteArray) (f : UInt8 → Bool) : s.data.toList.reverse.all f = s.data.toList.all f := by simp
theorem not_all {s : ByteArray} {f : UInt8 → Bool} {k : Nat} (h : k < s.size) (hb : f s[s.size - 1 - k] = false) : s.data.toList.all f = false := by
  rw [← all_rev]
  rw [List.all_eq_false]
  refine ⟨s[s.size - 1 - k], ?_, by simp [hb]⟩
  have := rev_get s h
  exact List.mem_of_getElem? this
theorem ofL_not {s : ByteArray} {k : Nat} (h : k < s.size) (hb : hexD 10 s[s.size - 1 - k] = false) : ofL s = [] := by
  rw [ofL, if_neg (fun c => by rw [not_all h hb] at c; exact Bool.noConfusion c.2)]
theorem ofL_all {s : ByteArray} (hs : s.size ≤ 5000) (h : (s.data.toList.reverse.take s.size).all (hexD 10) = true) : ofL s = (s.data.toList.reverse.take s.size).map hexN := by
  rw [List.take_of_length_le (by simp)] at h ⊢
  rw [all_rev] at h
  rw [ofL, if_pos ⟨hs, h⟩]
set_option maxHeartbeats 1000000 in
theorem of_any (s : ByteArray) (w : World) (hs : s.size ≤ maxLen) :
    Calls Tryd.prog 20 #[.string s] w fun e w' => ∃ v, e = .returned v ∧ IOwn w' w.heap.size v (ofL s) ∧ Below w.heap.size w w' := by
  unfold maxLen at hs
  go_enter Tryd.func20, Tryd.ntmps20
  by_cases hbig : 5000 < s.size
  · have hbig' : (5000 : Int) < (s.size : Int) := by omega
    have e : ofL s = [] := by rw [ofL, if_neg (fun c => by omega)]
    go_wp2
    go_ret
    exact ⟨_, rfl, by rw [e]; exact IOwn.empty _ _, Below.refl _ _⟩
  · have hbig' : ¬ (5000 : Int) < (s.size : Int) := by omega
    go_wp2
    go_loopw [3, 4] (fun o i wr => ∃ k : Nat, k ≤ s.size ∧ i = .int .i64 ((s.size : Int) - 1 - k) ∧ IOwn wr w.heap.size o ((s.data.toList.reverse.take k).map hexN) ∧ Hid ((s.data.toList.reverse.take k).all (hexD 10) = true) ∧ Below w.heap.size w wr) (fun _ i _ => (intOf i + 1).toNat)
    case atStart => exact ⟨0, Nat.zero_le _, by simp, IOwn.empty _ _, rfl, Below.refl _ _⟩
    case round =>
      obtain ⟨k, hk, rfl, hown, hal, hbl⟩ := hrel
      have hsz := hbl.size
      by_cases hlt : k < s.size
      · have h1 : (0 : Int) ≤ (s.size : Int) - 1 - k := by omega
        have h2 : (s.size : Int) - 1 - k < (s.size : Int) := by omega
        have h3 : ((s.size : Int) - 1 - k).toNat = s.size - 1 - k := by omega
        have hN := rev_take s hlt
        have hF := ofL_not hlt
        obtain ⟨b, hb⟩ : ∃ b, s[s.size - 1 - k] = b := ⟨_, rfl⟩
        rw [hb] at hN hF
        have hb256 := b.toNat_lt
        cases hd : hexD 10 b with
        | true =>
          have hdn := hexN_ten hd
          have hd9 := hexN_lt hd
          have hNn : (s.data.toList.reverse.take (k + 1)).map hexN = (s.data.toList.reverse.take k).map hexN ++ [hexN b] := by rw [hN]; simp
          have hNa : (s.data.toList.reverse.take (k + 1)).all (hexD 10) = true := by rw [hN, List.all_append, hal.out]; simp [hd]
          have HNn := Lib.hid hNn
          have HNa := Lib.hid hNa
          have hll : ((s.data.toList.reverse.take k).map hexN).length ≤ 1000000 := by simp; omega
          obtain ⟨d, hdd⟩ : ∃ d, hexN b = d := ⟨_, rfl⟩
          rw [hdd] at hdn hd9 HNn
          have e3 : (b.toNat : Int) - 48 = (d : Int) := hdn.symm
          clear hN hF hNn hNa hd hdd hdn
          go_wp2_with (at_builtin; refine wpList_app1 rfl _ _ _ rfl Tryd.underlying35 w.heap.size u3 _ d _ rfl rfl hown _ rfl rfl hll hsz ?_; intro v1 w1 hown1 hb1)
          go_roundw
          case rel => exact ⟨k + 1, by omega, by congr 1; omega, by rw [HNn.out]; exact hown1, HNa.out, hbl.trans hb1⟩
          case measure => simp [intOf]; omega
        | false =>
          have e := Lib.hid (hF hd)
          have hd' : ¬ (48 ≤ b.toNat ∧ b.toNat ≤ 57) := by rw [hexD_ten] at hd; simpa using hd
          clear hN hF hd
          obtain ⟨z, hz⟩ : ∃ z, (b.toNat : Int) - 48 = z := ⟨_, rfl⟩
          have hz10 : z < 0 ∨ (0 ≤ z ∧ 10 ≤ z) := by omega
          clear hd'
          rcases hz10 with hz10 | ⟨hz0, hz10⟩
          · go_wp2
            go_ret
            exact ⟨_, rfl, by rw [e.out]; exact IOwn.empty _ _, hbl⟩
          · have hz0' : ¬ z < 0 := by omega
            go_wp2
            go_ret
            exact ⟨_, rfl, by rw [e.out]; exact IOwn.empty _ _, hbl⟩
      · obtain rfl : k = s.size := by omega
        have e := ofL_all (by omega) hal.out
        have h1 : (s.size : Int) - 1 - s.size = -1 := by omega
        have HE := Lib.hid e
        clear e
        go_wp2
        go_ret
        exact ⟨_, rfl, by rw [HE.out]; exact hown, hbl⟩
end Go.Proofs.YtdnmllklceaknaaDoor
