/- The reference's Bytes: the bytes of code points. Condition: no more than a hundred million. -/
import Derived.Test.YtiblamapjekdeaaGreatUtf2
import Derived.Lib.RuneBytes
namespace Go.Proofs.YtiblamapjekdeaaGreat
open Go.RowKit Go.Lib
theorem Tryz.infoU8B : (Tryz.prog.info? 5).map (fun i => (i.zero, i.size, i.bytes)) = some (some (.int .u8 0), 1, 1) := by kernel_rfl
theorem and63 (c : Int) (h0 : 0 ≤ c) (h1 : c ≤ 1114111) : bits .and .i64 c 63 = c % 64 := by
  obtain ⟨n, rfl⟩ : ∃ n : Nat, c = n := ⟨c.toNat, by omega⟩
  have e1 : (BitVec.ofInt 64 (n : Int)).toNat = n := by
    rw [BitVec.ofInt_natCast, BitVec.toNat_ofNat]; exact Nat.mod_eq_of_lt (by omega)
  have e2 : (BitVec.ofInt 64 (63 : Int)).toNat = 63 := rfl
  show IntKind.i64.wrap ((BitVec.ofInt 64 (n : Int) &&& BitVec.ofInt 64 63).toNat : Int) = _
  rw [BitVec.toNat_and, e1, e2, show (63 : Nat) = 2 ^ 6 - 1 from rfl, Nat.and_two_pow_sub_one_eq_mod n 6, IntKind.wrap_i64]
  omega
theorem or_lit (m k : Nat) (h : (m = 128 ∧ k = 64) ∨ (m = 192 ∧ k = 32) ∨ (m = 224 ∧ k = 16) ∨ (m = 240 ∧ k = 8)) (y : Int) (h0 : 0 ≤ y) (h1 : y < k) : bits .or .i64 (m : Int) y = m + y := by
  have a1 : ∀ n : Fin 64, bits .or .i64 128 (n.val : Int) = 128 + (n.val : Int) := by decide +kernel
  have a2 : ∀ n : Fin 32, bits .or .i64 192 (n.val : Int) = 192 + (n.val : Int) := by decide +kernel
  have a3 : ∀ n : Fin 16, bits .or .i64 224 (n.val : Int) = 224 + (n.val : Int) := by decide +kernel
  have a4 : ∀ n : Fin 8, bits .or .i64 240 (n.val : Int) = 240 + (n.val : Int) := by decide +kernel
  obtain ⟨n, rfl⟩ : ∃ n : Nat, y = n := ⟨y.toNat, by omega⟩
  rcases h with ⟨rfl, rfl⟩ | ⟨rfl, rfl⟩ | ⟨rfl, rfl⟩ | ⟨rfl, rfl⟩
  · exact a1 ⟨n, by omega⟩
  · exact a2 ⟨n, by omega⟩
  · exact a3 ⟨n, by omega⟩
  · exact a4 ⟨n, by omega⟩
def bcells (l : List Int) : List Value := l.map (Value.int .u8)
/-- A row of bytes that the call owns. -/
def BOwn (w : World) (B : Nat) (v : Value) (l : List Int) : Prop := w.ownsRow B 5 1 v l.length (bcells l)
theorem BOwn.empty (w : World) (B : Nat) : BOwn w B (.slice none 0 0) [] := ⟨rfl, .inl ⟨rfl, rfl⟩⟩
theorem BOwn.kept {w w' : World} {B : Nat} {v : Value} {l : List Int} (h : BOwn w B v l) (hb : Below w.heap.size w w') : BOwn w' B v l := by
  rcases h.2 with ⟨rfl, h0⟩ | ⟨g, cap, cur, rfl, hB, hg, hc, r⟩
  · exact ⟨h.1, .inl ⟨rfl, h0⟩⟩
  · exact ⟨h.1, .inr ⟨g, cap, cur, rfl, hB, (hb.block g (Array.getElem?_eq_some_iff.1 hg).1).trans hg, hc, r⟩⟩
theorem BOwn.cells {w : World} {B : Nat} {v : Value} {l : List Int} (h : BOwn w B v l) (h0 : 0 < l.length) : ∃ g c, v = .slice (some ⟨g, 0, none⟩) l.length c ∧ ∀ k (hk : k < l.length), w.cell? ⟨g, k, none⟩ = some (.int .u8 l[k]) := by
  have h' : w.ownsRow B 5 1 v l.length (bcells l) := h
  rcases h.2 with ⟨rfl, h1⟩ | ⟨g, cap, cur, rfl, _, hg, hc, _⟩
  · omega
  · refine ⟨g, cap, rfl, fun k hk => ?_⟩
    have := h'.cells (g := g) rfl k (.int .u8 l[k]) (by simp [bcells, hk])
    simpa [Addr.add_lit] using this
/-- 'append' of some bytes to a row that the call owns. -/
theorem wpList_appB {wr : World} {ops : Array Oper} {rest : List Oper} {o : Oper} {a : Act} {Q : Exit → Act → World → Prop} (hgd : o.guard = none) (s x : Operand) (t : TypeId)
    (ho : o.op = .call { callee := .builtin .append, args := #[s, x], argTypes := #[t, t] }) (ht : Tryz.prog.underlying t = some (.slice 5)) (B : Nat)
    (v : Value) (l zs : List Int) (hs : a.eval s = v) (h : BOwn wr B v l) (n0 : Nat) (hn0 : n0 = wr.heap.size) (hx : a.eval x = .slice (some ⟨n0, 0, none⟩) zs.length zs.length) (hl : l.length ≤ 1000000000) (hz : zs.length ≤ 4) (hB : B ≤ wr.heap.size)
    (k : ∀ v' w', BOwn w' B v' (l ++ zs) → Below B wr w' → wpList Tryz.prog ops Q rest (a.put o.dst v') w') : wpList Tryz.prog ops Q (o :: rest) a (wr.alloc (.cells (zs.map (Value.int .u8)).toArray 5)) := by
  obtain ⟨i0, hi, hz0, hz1, hz2⟩ := info_parts Tryz.infoU8B
  have hown : wr.ownsRow B 5 1 v l.length (bcells l) := h
  refine wpList_append_own _ hgd s x t ho B _ i0 _ 1 1 ht hi hz0 hz1 hz2 rfl (by decide) v _ _ hs (hown.alloc _) ⟨n0, 0, none⟩ zs.length zs.length (bcells zs) hx (by simp [bcells]) ?_ (fun u hu => by simp [bcells] at hu; obtain ⟨y, _, rfl⟩ := hu; rfl) (by unfold maxLen; omega) (by omega) (by simp; omega) ?_
  · intro j u hj
    subst hn0
    rw [Addr.add_lit, Nat.zero_add, Lib.cell_of_heap (heap_alloc_new wr _) j]
    simpa [bcells] using hj
  · intro v' w' h1 h2 _
    refine k v' w' ?_ ?_
    · show w'.ownsRow B 5 1 v' (l ++ zs).length (bcells (l ++ zs))
      simpa [bcells] using h1
    · exact Below.grown ((Below.refl B wr).alloc hB _) h2 (by simp; omega) fun _ hj => (hown.lt _ hj).1
/-- What put returns. -/
def PutR (w : World) (B : Nat) (l : List Int) (e : Ending) (w' : World) : Prop := ∃ v', e = .returned v' ∧ BOwn w' B v' l ∧ Below B w w'
set_option maxRecDepth 100000 in
set_option maxHeartbeats 4000000 in
theorem put_any (v : Value) (bs : List Int) (c : Int) (B : Nat) (w : World) (hv : BOwn w B v bs) (hB : B ≤ w.heap.size) (hl : bs.length ≤ 1000000000) :
    Calls Tryz.prog 98 #[v, .int .i64 c] w (PutR w B (bs ++ encodeRuneZ c)) := by
  have HRt : Hid (∀ w, Calls Tryz.prog 55 #[.int .i64 c] w fun e w' => e = .returned (.bool (decide (0 ≤ c ∧ c ≤ 1114111 ∧ (c < 55296 ∨ 57343 < c)))) ∧ w = w') := fun w => Rright_any c w
  by_cases hg : 0 ≤ c ∧ c ≤ 1114111 ∧ (c < 55296 ∨ 57343 < c)
  · have hd : decide (0 ≤ c ∧ c ≤ 1114111 ∧ (c < 55296 ∨ 57343 < c)) = true := decide_eq_true hg
    rw [hd] at HRt
    clear hd
    obtain ⟨g0, g1, g2⟩ := hg
    by_cases h1 : c < 128
    · rw [encodeRuneZ_one g0 (by omega)]
      clear g2
      go_enter Tryz.func98, Tryz.ntmps98
      go_wp2_with (first | (go_at_call 55; refine (HRt.out _).mono ?_; rintro e w' ⟨rfl, rfl⟩) | (at_builtin; refine wpList_appB rfl _ _ _ rfl Tryz.underlying82 B v bs [c] (by rfl) hv w.heap.size rfl (by rfl) hl (by simp) hB ?_; intro v' w' h1 h2; have H1 := Lib.hid (And.intro h1 h2); clear h1 h2))
      go_ret
      exact ⟨_, rfl, H1.out⟩
    · by_cases h2 : c < 2048
      · rw [encodeRuneZ_two (by omega) (by omega)]
        have h1' : 128 ≤ c := by omega
        have z1 : bits .or .i64 192 (c / 64) = 192 + c / 64 := or_lit 192 32 (by omega) _ (by omega) (by omega)
        have z2 : (192 + c / 64) % 256 = 192 + c / 64 := by omega
        have z3 : bits .and .i64 (c) 63 = c % 64 := and63 _ (by omega) (by omega)
        have z4 : bits .or .i64 128 (c % 64) = 128 + c % 64 := or_lit 128 64 (by omega) _ (by omega) (by omega)
        have z5 : (128 + c % 64) % 256 = 128 + c % 64 := by omega
        clear g2
        go_enter Tryz.func98, Tryz.ntmps98
        go_wp2_with (first | (go_at_call 55; refine (HRt.out _).mono ?_; rintro e w' ⟨rfl, rfl⟩) | (at_builtin; refine wpList_appB rfl _ _ _ rfl Tryz.underlying82 B v bs [192 + c / 64, 128 + c % 64] (by rfl) hv w.heap.size rfl (by rfl) hl (by simp) hB ?_; intro v' w' h1 h2; have H1 := Lib.hid (And.intro h1 h2); clear h1 h2))
        go_ret
        exact ⟨_, rfl, H1.out⟩
      · by_cases h3 : c < 65536
        · rw [encodeRuneZ_three (by omega)]
          have h1' : 2048 ≤ c := by omega
          have z1 : bits .or .i64 224 (c / 4096) = 224 + c / 4096 := or_lit 224 16 (by omega) _ (by omega) (by omega)
          have z2 : (224 + c / 4096) % 256 = 224 + c / 4096 := by omega
          have z3 : bits .and .i64 (c / 64) 63 = c / 64 % 64 := and63 _ (by omega) (by omega)
          have z4 : bits .or .i64 128 (c / 64 % 64) = 128 + c / 64 % 64 := or_lit 128 64 (by omega) _ (by omega) (by omega)
          have z5 : (128 + c / 64 % 64) % 256 = 128 + c / 64 % 64 := by omega
          have z6 : bits .and .i64 (c) 63 = c % 64 := and63 _ (by omega) (by omega)
          have z7 : bits .or .i64 128 (c % 64) = 128 + c % 64 := or_lit 128 64 (by omega) _ (by omega) (by omega)
          have z8 : (128 + c % 64) % 256 = 128 + c % 64 := by omega
          clear g2
          go_enter Tryz.func98, Tryz.ntmps98
          go_wp2_with (first | (go_at_call 55; refine (HRt.out _).mono ?_; rintro e w' ⟨rfl, rfl⟩) | (at_builtin; refine wpList_appB rfl _ _ _ rfl Tryz.underlying82 B v bs [224 + c / 4096, 128 + c / 64 % 64, 128 + c % 64] (by rfl) hv w.heap.size rfl (by rfl) hl (by simp) hB ?_; intro v' w' h1 h2; have H1 := Lib.hid (And.intro h1 h2); clear h1 h2))
          go_ret
          exact ⟨_, rfl, H1.out⟩
        · rw [encodeRuneZ_four (by omega) (by omega)]
          have h1' : 65536 ≤ c := by omega
          have z1 : bits .or .i64 240 (c / 262144) = 240 + c / 262144 := or_lit 240 8 (by omega) _ (by omega) (by omega)
          have z2 : (240 + c / 262144) % 256 = 240 + c / 262144 := by omega
          have z3 : bits .and .i64 (c / 4096) 63 = c / 4096 % 64 := and63 _ (by omega) (by omega)
          have z4 : bits .or .i64 128 (c / 4096 % 64) = 128 + c / 4096 % 64 := or_lit 128 64 (by omega) _ (by omega) (by omega)
          have z5 : (128 + c / 4096 % 64) % 256 = 128 + c / 4096 % 64 := by omega
          have z6 : bits .and .i64 (c / 64) 63 = c / 64 % 64 := and63 _ (by omega) (by omega)
          have z7 : bits .or .i64 128 (c / 64 % 64) = 128 + c / 64 % 64 := or_lit 128 64 (by omega) _ (by omega) (by omega)
          have z8 : (128 + c / 64 % 64) % 256 = 128 + c / 64 % 64 := by omega
          have z9 : bits .and .i64 (c) 63 = c % 64 := and63 _ (by omega) (by omega)
          have z10 : bits .or .i64 128 (c % 64) = 128 + c % 64 := or_lit 128 64 (by omega) _ (by omega) (by omega)
          have z11 : (128 + c % 64) % 256 = 128 + c % 64 := by omega
          clear g2
          go_enter Tryz.func98, Tryz.ntmps98
          go_wp2_with (first | (go_at_call 55; refine (HRt.out _).mono ?_; rintro e w' ⟨rfl, rfl⟩) | (at_builtin; refine wpList_appB rfl _ _ _ rfl Tryz.underlying82 B v bs [240 + c / 262144, 128 + c / 4096 % 64, 128 + c / 64 % 64, 128 + c % 64] (by rfl) hv w.heap.size rfl (by rfl) hl (by simp) hB ?_; intro v' w' h1 h2; have H1 := Lib.hid (And.intro h1 h2); clear h1 h2))
          go_ret
          exact ⟨_, rfl, H1.out⟩
  · have hd : decide (0 ≤ c ∧ c ≤ 1114111 ∧ (c < 55296 ∨ 57343 < c)) = false := decide_eq_false hg
    rw [hd] at HRt
    rw [encodeRuneZ_bad (by omega)]
    clear hd hg
    go_enter Tryz.func98, Tryz.ntmps98
    go_wp2_with (first | (go_at_call 55; refine (HRt.out _).mono ?_; rintro e w' ⟨rfl, rfl⟩) | (at_builtin; refine wpList_appB rfl _ _ _ rfl Tryz.underlying82 B v bs [239, 191, 189] (by rfl) hv w.heap.size rfl (by rfl) hl (by simp) hB ?_; intro v' w' h1 h2; have H1 := Lib.hid (And.intro h1 h2); clear h1 h2))
    go_ret
    exact ⟨_, rfl, H1.out⟩
/-- Bytes, of good points or not. -/
def encL (l : List Int) : List Int := l.flatMap encodeRuneZ
theorem encL_snoc (l : List Int) (c : Int) : encL (l ++ [c]) = encL l ++ encodeRuneZ c := by simp [encL]
theorem encL_len (l : List Int) : (encL l).length ≤ 4 * l.length := by
  induction l with
  | nil => simp [encL]
  | cons a l ih =>
    have := (encodeRuneZ_length a).2
    simp only [encL, List.flatMap_cons, List.length_append, List.length_cons] at ih ⊢
    omega
set_option maxRecDepth 100000 in
set_option maxHeartbeats 4000000 in
theorem Bytes_any (A : Option Addr) (cp : Nat) (l : List Int) (w : World) (hl : l.length ≤ 100000000) (hI : IntsAt w w.heap.size A l) :
    Calls Tryz.prog 82 #[.slice A l.length cp] w (PutR w w.heap.size (encL l)) := by
  have HI := Lib.hid hI
  have Hl := Lib.hid hl
  clear hI hl
  go_enter Tryz.func82, Tryz.ntmps82
  go_wp2_with fail
  go_loopw [3, 4] (fun b i wr => ∃ k : Nat, k ≤ l.length ∧ i = .int .i64 (k : Int) ∧ Hid (BOwn wr w.heap.size b (encL (l.take k))) ∧ Hid (Below w.heap.size w wr)) (fun _ i _ => l.length - (intOf i).toNat)
  case atStart => exact ⟨0, Nat.zero_le _, rfl, BOwn.empty _ _, Below.refl _ _⟩
  case round =>
    obtain ⟨k, hk, rfl, hb, hw⟩ := hrel
    by_cases hlt : k < l.length
    · obtain ⟨b, o, rfl, hbl, hc⟩ := HI.out (by omega)
      have hck := (hw.out.cell (p := ⟨b, o + k, none⟩) hbl).trans (hc k hlt)
      obtain ⟨z, hz⟩ : ∃ z, nth l k = z := ⟨_, rfl⟩
      rw [hz] at hck
      have htk : encL (l.take (k + 1)) = encL (l.take k) ++ encodeRuneZ z := by rw [take_nth hlt, encL_snoc, hz]
      have HT := Lib.hid htk
      have hbs : (encL (l.take k)).length ≤ 1000000000 := by
        have h1 := encL_len (l.take k)
        have h2 := List.length_take_le k l
        have := Hl.out
        omega
      have HP := Lib.hid (put_any u3 (encL (l.take k)) z w.heap.size wr hb.out hw.out.size hbs)
      have hlt' : (k : Int) < (l.length : Int) := by omega
      have Hlt := Lib.hid hlt
      have hmz : ∀ y : Int, y = k + 1 → l.length - (intOf (.int .i64 y)).toNat < l.length - (intOf (.int .i64 (k : Int))).toNat := by intro y hy; subst hy; have := Hlt.out; simp only [intOf]; omega
      have HW : Hid (wrap64 ((k : Int) + 1) = k + 1) := IntWalk.wrap64_in _ (by have := Hlt.out; have := Hl.out; omega)
      clear hbl hc hz htk hbs hlt hk hb
      go_wp2_with (go_at_call 98; refine HP.out.mono ?_; rintro e w' ⟨v', rfl, h1, h2⟩; have H1 := Lib.hid (HT.out ▸ h1); have H2 := Lib.hid (hw.out.trans h2); clear h1 h2)
      first
        | exact ⟨⟨k + 1, Hlt.out, by simp, H1, H2⟩, hmz _ rfl⟩
        | exact ⟨⟨k + 1, Hlt.out, congrArg (Value.int .i64) (HW.out.trans (by simp)), H1, H2⟩, hmz _ HW.out⟩
    · obtain rfl : k = l.length := by omega
      have hd2 : ¬ (l.length : Int) < (l.length : Int) := by omega
      rw [List.take_length] at hb
      have HE := Lib.hid (And.intro hb.out hw.out)
      clear hk hlt hb hw
      go_wp2_with fail
      go_ret
      exact ⟨_, rfl, HE.out⟩
end Go.Proofs.YtiblamapjekdeaaGreat
