/- The example of the document, read into lines: marginalialaw13.Lines at the text &a [*a]. No condition. -/
import Derived.Test.YtiblamapjekdeaaGreatKc
import Derived.Test.YtiblamapjekdeaaGreatLcB
import Derived.Maps.AppendAt
import Derived.Deep.QuietTactic
import Derived.BigQuiet
import Derived.WalkSmall
import Derived.Lib.SmallJoins
namespace Go.Proofs.YtiblamapjekdeaaGreat
open Go.RowKit
attribute [local go_sem] Oper.semAt_some
/-- The example, and its code points. -/
def exT : ByteArray := ⟨#[38, 97, 32, 91, 42, 97, 93]⟩
abbrev listT : List Int := [38, 97, 32, 91, 42, 97, 93]
open Go.Lib in
theorem pt_ascii {s : ByteArray} {i : Nat} (h : (s.get! i).toNat < 128) : ptAt s i = ((s.get! i).toNat, 1) := by
  rw [ptAt, decode_at, dec1 h, if_neg (by simp; omega)]
theorem Dec.ascii1 {s : ByteArray} {i : Nat} {l : List Int} {b : Nat} (h : Dec s i l) (hi : i < s.size) (hb : (s.get! i).toNat = b) (hlt : b < 128) : Dec s (i + 1) (l ++ [(b : Int)]) := by
  have hp := pt_ascii (s := s) (i := i) (by omega)
  have := Dec.step h hi (by rw [hp]; simp)
  rw [hp, hb] at this
  exact this
/-- A text has one row of code points. -/
def codesFrom (s : ByteArray) : Nat → Nat → List Int
  | 0, _ => []
  | f + 1, i => if i < s.size ∧ (ptAt s i).2 ≠ 0 then ((ptAt s i).1 : Int) :: codesFrom s f (i + (ptAt s i).2) else []
theorem Dec.codes {s : ByteArray} {i : Nat} {l : List Int} (h : Dec s i l) : ∀ f, l.length ≤ f → codesFrom s f 0 = l ++ codesFrom s (f - l.length) i := by
  induction h with
  | nil => intro f _; simp
  | @step i l hd hi hn ih =>
    intro f hf
    rw [List.length_append, List.length_singleton] at hf
    rw [ih f (by omega)]
    obtain ⟨g, hg⟩ : ∃ g, f - l.length = g + 1 := ⟨f - l.length - 1, by omega⟩
    rw [hg, codesFrom, if_pos ⟨hi, hn⟩, List.length_append, List.length_singleton, show f - (l.length + 1) = g by omega]
    simp
theorem Dec.one {s : ByteArray} {l m : List Int} (h : Dec s s.size l) (h' : Dec s s.size m) : l = m := by
  have h1 := h.codes (l.length + m.length) (by omega)
  have h2 := h'.codes (l.length + m.length) (by omega)
  have hz : ∀ f, codesFrom s f s.size = [] := fun f => by
    cases f with
    | zero => rfl
    | succ f => rw [codesFrom, if_neg (by omega)]
  rw [hz, List.append_nil] at h1 h2
  rw [← h1, h2]
theorem dec_T : Dec exT exT.size listT :=
  Dec.ascii1 (b := 93) (l := [38, 97, 32, 91, 42, 97]) (Dec.ascii1 (b := 97) (l := [38, 97, 32, 91, 42]) (Dec.ascii1 (b := 42) (l := [38, 97, 32, 91]) (Dec.ascii1 (b := 91) (l := [38, 97, 32]) (Dec.ascii1 (b := 32) (l := [38, 97]) (Dec.ascii1 (b := 97) (l := [38]) (Dec.ascii1 (b := 38) (l := []) .nil (by decide) rfl (by decide)) (by decide) rfl (by decide)) (by decide) rfl (by decide)) (by decide) rfl (by decide)) (by decide) rfl (by decide)) (by decide) rfl (by decide)) (by decide) rfl (by decide)
/-- 'append' of a row of ints, nil or not, to a row that the call owns. -/
theorem wpList_appZs {wr : World} {ops : Array Oper} {rest : List Oper} {o : Oper} {a : Act} {Q : Exit → Act → World → Prop} (hgd : o.guard = none) (s x : Operand) (t : TypeId)
    (ho : o.op = .call { callee := .builtin .append, args := #[s, x], argTypes := #[t, t] }) (ht : Tryz.prog.underlying t = some (.slice 3)) (B : Nat)
    (v : Value) (l : List Int) (hs : a.eval s = v) (h : ZOwn wr B v l) (A' : Option Addr) (l2 : List Int) (m c : Nat) (hm : m = l2.length) (hx : a.eval x = .slice A' m c) (hI : IntsAt wr wr.heap.size A' l2) (hl : l.length + l2.length ≤ 1000000000) (hB : B ≤ wr.heap.size)
    (k : ∀ v' w', ZOwn w' B v' (l ++ l2) → Below B wr w' → wpList Tryz.prog ops Q rest (a.put o.dst v') w') : wpList Tryz.prog ops Q (o :: rest) a wr := by
  obtain ⟨i0, hi, hz0, hz1, hz2⟩ := info_parts Tryz.infoIntZ
  subst hm
  cases A' with
  | none =>
    have h0 : l2 = [] := by
      apply List.eq_nil_of_length_eq_zero
      rcases Nat.eq_zero_or_pos l2.length with h | h
      · exact h
      · obtain ⟨b, o, e, _⟩ := hI h; cases e
    subst h0
    have hrun : (Builtin.append_ #[t, t] o.type #[v, .slice none 0 c]).run Tryz.prog wr = .ok v wr := by
      rcases h.own.2 with ⟨rfl, h1⟩ | ⟨g, cap, cur, rfl, _, _, hnc, _⟩
      · simp [Builtin.append_, run_underlying ht, sizeOf, typeInfo, hi, Builtin.lenOf, Builtin.firstCells]
      · simp [Builtin.append_, run_underlying ht, sizeOf, typeInfo, hi, Builtin.lenOf, Builtin.firstCells, hnc, storeCells]
    refine wpList_plain hgd fun _ hK => ?_
    unfold Oper.wp execOp
    simp only [List.length_nil] at hx
    simp only [ho, resolve, invoke, builtin, Sem.run_bind, Sem.run_pure, Result.andThen_ok, List.map_toArray, List.map_cons, List.map_nil, hs, hx, hrun]
    exact hK _ _ (k _ _ (by simpa using h) (Below.refl _ _))
  | some ad =>
    refine wpList_append_own_at _ hgd s x t ho B _ i0 _ 1 8 ht hi hz0 hz1 hz2 rfl (by decide) v _ _ hs h.own ad l2.length c (zcells l2) hx (by simp [zcells]) ?_ (fun u hu => by simp [zcells] at hu; obtain ⟨y, _, rfl⟩ := hu; rfl) (by unfold maxLen; omega) (by omega) hB ?_
    · intro j u hj
      have hj2 : j < l2.length := by
        have := (List.getElem?_eq_some_iff.1 hj).1
        simpa [zcells] using this
      obtain ⟨b, o, e, _, hc⟩ := hI (by omega)
      cases e
      rw [Addr.add_lit, hc j hj2]
      have : (zcells l2)[j]? = some (.int .i64 (nth l2 j)) := by simp [zcells, nth, hj2]
      rw [this] at hj
      exact hj
    · intro v' w' h2 h3 h4 _
      refine k v' w' ⟨by simpa [zcells] using h2, fun e => ?_⟩ (Below.grown (Below.refl B wr) h3 hB fun _ hj => (h.own.lt _ hj).1)
      obtain ⟨e1, e2⟩ := List.append_eq_nil_iff.1 e
      exact h4.2 ⟨h.nil e1, by rw [e2]; rfl⟩
theorem is_no (b o n c b2 o2 m c2 : Nat) (x y : Int) (w : World) (h1 : w.cell? ⟨b, o, none⟩ = some (.int .u8 x)) (h2 : w.cell? ⟨b2, o2, none⟩ = some (.int .u8 y)) (hm : 0 < m) (hmn : m ≤ n) (hn : n ≤ 1000) (hxy : (x == y) = false) :
    Calls Tryz.prog 79 #[.slice (some ⟨b, o, none⟩) n c, .slice (some ⟨b2, o2, none⟩) m c2] w fun e w' => e = .returned (.bool false) ∧ Below w.heap.size w w' := by
  have hmI : ¬ (n : Int) < (m : Int) := by omega
  have hmN : decide (n < m) = false := decide_eq_false (by omega)
  have h0 : (0 : Int) < (m : Int) := by omega
  have hxy2 : (x != y) = true := by rw [bne, hxy]; rfl
  have hn0 : (0 : Int) < (n : Int) := by omega
  have hnn : 0 < n := by omega
  clear hmn hxy
  go_enter Tryz.func79, Tryz.ntmps79
  go_wp2
  go_loop [5] (fun i => i = .int .i64 0) (fun _ => 0)
  case atStart => rfl
  case round =>
    subst hrel
    go_wp2
    go_quiet (fail)
    go_wp2
    go_ret
    exact ⟨rfl, below_drewN (Below.refl _ _) _⟩
set_option maxRecDepth 100000 in
set_option maxHeartbeats 4000000 in
theorem Form_T (b c : Nat) (w : World) (hb : b < w.heap.size) (hB : BytesAt w b exT) :
    Calls Tryz.prog 51 #[.slice (some ⟨b, 0, none⟩) 7 c] w fun e w' => e = .returned (.tuple #[.int .i64 1, .int .i64 0]) ∧ Below w.heap.size w w' := by
  have b0 : Hid (∀ W, Below w.heap.size w W → W.cell? ⟨b, 0, none⟩ = some (.int .u8 38) ∧ W.cell? ⟨b, 1, none⟩ = some (.int .u8 97)) := fun W hW => ⟨(hW.cell (p := ⟨b, 0, none⟩) hb).trans (hB 0 (by decide)), (hW.cell (p := ⟨b, 1, none⟩) hb).trans (hB 1 (by decide))⟩
  have HR : Hid (Below w.heap.size w w) := Below.refl _ _
  have HIs : Hid (∀ (W : World) (y : Int) (n0 m c2 : Nat), Below w.heap.size w W → W.cell? ⟨n0, 0, none⟩ = some (.int .u8 y) → 0 < m → m ≤ 7 → ((38 : Int) == y) = false → Calls Tryz.prog 79 #[.slice (some ⟨b, 0, none⟩) 7 c, .slice (some ⟨n0, 0, none⟩) m c2] W fun e w' => e = .returned (.bool false) ∧ Below w.heap.size w w') := fun W y n0 m c2 hW h h0 h7 hy => (is_no b 0 7 c n0 0 m c2 38 y W (b0.out W hW).1 h h0 h7 (by omega) hy).mono fun e w' h => ⟨h.1, hW.trans (h.2.mono hW.size)⟩
  clear hB
  obtain ⟨c0, c1⟩ := b0.out w (Below.refl _ _)
  have HL : Hid (∀ W, Below w.heap.size w W → W.cell? ⟨b, 0, none⟩ = some (.int .u8 38) ∧ W.cell? ⟨b, 1, none⟩ = some (.int .u8 97)) := b0.out
  go_enter Tryz.func51, Tryz.ntmps51
  go_wp2_with (first
    | (go_at_call 79; (with_reducible refine (HIs.out (World.alloc _ (.cells #[.int .u8 0, .int .u8 0, .int .u8 254, .int .u8 255] 5)) 0 _ 4 _ ((HR.out).alloc HR.out.size _) (by simp) (by omega) (by omega) (by decide)).mono ?_); rintro e w' ⟨rfl, hb'⟩; clear HR; have HR := Lib.hid hb'; clear hb')
    | (go_at_call 79; (with_reducible refine (HIs.out (World.alloc _ (.cells #[.int .u8 255, .int .u8 254, .int .u8 0, .int .u8 0] 5)) 255 _ 4 _ ((HR.out).alloc HR.out.size _) (by simp) (by omega) (by omega) (by decide)).mono ?_); rintro e w' ⟨rfl, hb'⟩; clear HR; have HR := Lib.hid hb'; clear hb')
    | (go_at_call 79; (with_reducible refine (HIs.out (World.alloc _ (.cells #[.int .u8 254, .int .u8 255] 5)) 254 _ 2 _ ((HR.out).alloc HR.out.size _) (by simp) (by omega) (by omega) (by decide)).mono ?_); rintro e w' ⟨rfl, hb'⟩; clear HR; have HR := Lib.hid hb'; clear hb')
    | (go_at_call 79; (with_reducible refine (HIs.out (World.alloc _ (.cells #[.int .u8 255, .int .u8 254] 5)) 255 _ 2 _ ((HR.out).alloc HR.out.size _) (by simp) (by omega) (by omega) (by decide)).mono ?_); rintro e w' ⟨rfl, hb'⟩; clear HR; have HR := Lib.hid hb'; clear hb')
    | (go_at_call 79; (with_reducible refine (HIs.out (World.alloc _ (.cells #[.int .u8 239, .int .u8 187, .int .u8 191] 5)) 239 _ 3 _ ((HR.out).alloc HR.out.size _) (by simp) (by omega) (by omega) (by decide)).mono ?_); rintro e w5 ⟨rfl, hb'⟩; clear HR; have HR := Lib.hid hb'; obtain ⟨d0, d1⟩ := HL.out w5 hb'; clear hb'))
  go_ret2
  exact ⟨rfl, HR.out⟩
/-- What Text tells: the code points, and whether the text is valid. -/
def TextC (s : ByteArray) (w : World) (e : Ending) (w' : World) : Prop := ∃ u v, e = .returned (.tuple #[u, .bool v]) ∧ v = Lib.validD s.data.toList ∧ (v = true → ∃ A' c l, u = .slice A' l.length c ∧ l.length ≤ c ∧ Dec s s.size l ∧ IntsAt w' w'.heap.size A' l) ∧ Below w.heap.size w w'
set_option maxRecDepth 100000 in
set_option maxHeartbeats 2000000 in
theorem small_cap (s : ByteArray) (A : Option Addr) (cap : Nat) (w : World) (hs : s.size ≤ 2000000) (hcap : s.size ≤ cap) (hA : 0 < s.size → ∃ b, A = some ⟨b, 0, none⟩ ∧ b < w.heap.size ∧ BytesAt w b s) :
    Calls Tryz.prog 52 #[.slice A s.size cap] w (TextC s w) := by
  have Hs := Lib.hid hs
  have HA := Lib.hid hA
  clear hA
  go_enter Tryz.func52, Tryz.ntmps52
  go_wp2_with fail
  go_loopw [4, 5] (fun out i wr => ∃ (k : Nat) (l : List Int), k ≤ s.size ∧ i = .int .i64 (k : Int) ∧ ZOwn wr w.heap.size out l ∧ Hid (Dec s k l) ∧ Below w.heap.size w wr) (fun _ i _ => s.size - (intOf i).toNat)
  case atStart => exact ⟨0, [], Nat.zero_le _, rfl, .empty _ _, .nil, Below.refl _ _⟩
  case round =>
    obtain ⟨k, l, hk, rfl, hz, hd, hb⟩ := hrel
    by_cases hks : k < s.size
    · have hks' : (k : Int) < (s.size : Int) := by omega
      obtain ⟨b, rfl, hbl, hB⟩ := HA.out (by omega)
      have hBr : BytesAt wr b s := fun j hj => (hb.cell (p := ⟨b, j, none⟩) hbl).trans (hB j hj)
      have HP : Hid (Calls Tryz.prog 80 #[.slice (some ⟨b, k, none⟩) (s.size - k) (cap - k)] wr fun e w' => e = .returned (.tuple #[.int .i64 ((ptAt s k).1 : Nat), .int .i64 ((ptAt s k).2 : Nat)]) ∧ wr = w') := point_any s k (cap - k) b wr (by omega) hks hBr
      have hkc : k < cap := by omega
      have hdv := hd.out.valid
      have HBad : Hid ((ptAt s k).2 = 0 → Lib.validD s.data.toList = false) := fun h => hd.out.bad hks h
      have HNext : Hid ((ptAt s k).2 ≠ 0 → Dec s (k + (ptAt s k).2) (l ++ [((ptAt s k).1 : Int)])) := fun h => .step hd.out hks h
      have hll : l.length ≤ 1000000000 := by omega
      obtain ⟨c, hc⟩ : ∃ c, (ptAt s k).1 = c := ⟨_, rfl⟩
      obtain ⟨n, hn⟩ : ∃ n, (ptAt s k).2 = n := ⟨_, rfl⟩
      rw [hc, hn] at HP HNext
      rw [hn] at HBad
      have Hb := Lib.hid hb
      have hsz := hb.size
      have Hhk := Lib.hid hks
      clear hc hn hBr hB hbl hdv HA hd hb hk hs
      by_cases h0 : n = 0
      · subst h0
        have HV := Lib.hid (HBad.out rfl)
        clear HBad HNext
        go_wp2_with (go_at_call 80; refine HP.out.mono ?_; rintro e w' ⟨rfl, rfl⟩)
        go_ret2
        exact ⟨_, _, rfl, HV.out.symm, fun h => (by cases h), Hb.out⟩
      · have h0' : ((n : Int) == 0) = false := beq_eq_false_iff_ne.2 (by omega)
        have HD := Lib.hid (HNext.out h0)
        have hv := HD.out.valid.1
        have HV := Lib.hid hv
        have H0 := Lib.hid h0
        have HW : Hid (wrap64 ((k : Int) + (n : Int)) = k + n) := IntWalk.wrap64_in _ (by have := HV.out; have := Hs.out; omega)
        have hmz : ∀ z : Int, z = k + n → s.size - (intOf (.int .i64 z)).toNat < s.size - (intOf (.int .i64 (k : Int))).toNat := by intro z hz; subst hz; have := H0.out; have := Hhk.out; simp only [intOf]; omega
        clear HBad HNext hv h0
        go_wp2_with (first
          | (at_builtin; refine wpList_appZ rfl _ _ _ rfl rfl w.heap.size u4 l c rfl hz _ rfl rfl hll hsz ?_; intro v' w' hz' hb'; have Hb' := Lib.hid hb'; clear hb')
          | (go_at_call 80; refine HP.out.mono ?_; rintro e w' ⟨rfl, rfl⟩))
        exact ⟨⟨k + n, l ++ [(c : Int)], HV.out, congrArg (Value.int .i64) (HW.out.trans (by simp)), hz', HD, Hb.out.trans Hb'.out⟩, hmz _ HW.out⟩
    · obtain rfl : k = s.size := by omega
      have hks' : ¬ (s.size : Int) < (s.size : Int) := by omega
      have HV := Lib.hid hd.out.full
      obtain ⟨A', c', rfl, h1, h2, h3⟩ := hz.form
      have H2 := Lib.hid h2
      have Hb := Lib.hid hb
      clear h2 hb
      go_wp2_with fail
      go_ret2
      exact ⟨.slice A' l.length c', true, rfl, HV.out.symm, fun _ => ⟨A', c', l, rfl, h1, hd.out, H2.out⟩, Hb.out⟩
def PtsR (w : World) (e : Ending) (w' : World) : Prop := ∃ A c, e = .returned (.tuple #[.slice A 7 c, .int .i64 0]) ∧ 7 ≤ c ∧ IntsAt w' w'.heap.size A listT ∧ Below w.heap.size w w'
set_option maxRecDepth 100000 in
set_option maxHeartbeats 4000000 in
theorem Points_T (b c : Nat) (w : World) (hb : b < w.heap.size) (hc : 7 ≤ c) (hB : BytesAt w b exT) :
    Calls Tryz.prog 30 #[.slice (some ⟨b, 0, none⟩) 7 c] w (PtsR w) := by
  have HF := Lib.hid (Form_T b c w hb hB)
  have HS : Hid (∀ W, Below w.heap.size w W → Calls Tryz.prog 52 #[.slice (some ⟨b, 0, none⟩) 7 c] W fun e w' => ∃ A c', e = .returned (.tuple #[.slice A 7 c', .bool true]) ∧ 7 ≤ c' ∧ IntsAt w' w'.heap.size A listT ∧ Below w.heap.size w w') := fun W hW => by
    have h := small_cap exT (some ⟨b, 0, none⟩) c W (by decide) hc (fun _ => ⟨b, rfl, Nat.lt_of_lt_of_le hb hW.size, fun k hk => (hW.cell (p := ⟨b, k, none⟩) hb).trans (hB k hk)⟩)
    refine Calls.mono h ?_
    rintro e w' ⟨u, v, rfl, hv, hl, hbe⟩
    have hv2 : v = true := by rw [hv, dec_T.full]
    obtain ⟨A, c', l, rfl, hcl, hd, hI⟩ := hl hv2
    obtain rfl := hd.one dec_T
    exact ⟨A, c', by rw [hv2]; rfl, hcl, hI, hW.trans (hbe.mono hW.size)⟩
  have hcc : 7 ≤ c := hc
  clear hB
  go_enter Tryz.func30, Tryz.ntmps30
  go_wp2_with (first
    | (go_at_call 51; refine HF.out.mono ?_; rintro e w1 ⟨rfl, hb1⟩; have Hb1 := Lib.hid hb1; clear hb1)
    | (go_at_call 52; refine (HS.out w1 Hb1.out).mono ?_; rintro e w2 ⟨A, c', rfl, hcl, hI, hb2⟩; have HE := Lib.hid (And.intro hcl (And.intro hI hb2)); clear hI hb2 hcl))
  go_ret2
  exact ⟨A, c', rfl, HE.out.1, HE.out.2.1, HE.out.2.2⟩
theorem zown_cap {w : World} {B : Nat} {v : Value} {l : List Int} (h : ZOwn w B v l) (h0 : 0 < l.length) : ∃ b c, v = .slice (some ⟨b, 0, none⟩) l.length c ∧ l.length ≤ c ∧ b < w.heap.size ∧ B ≤ b ∧ ∀ k, k < l.length → w.cell? ⟨b, k, none⟩ = some (.int .i64 (nth l k)) := by
  rcases h.own.2 with ⟨rfl, h1⟩ | ⟨g, cap, cur, rfl, hB, hg, hc, _⟩
  · omega
  · refine ⟨g, cap, rfl, hc, (Array.getElem?_eq_some_iff.1 hg).1, hB, fun k hk => ?_⟩
    have := h.own.cells (g := g) rfl k (.int .i64 (nth l k)) (by simp [zcells, nth, hk])
    simpa [Addr.add_lit] using this
/-- A row of the example's points. -/
def RowT (W : World) (b o c : Nat) : Prop := b < W.heap.size ∧ 7 ≤ c ∧ ∀ k, k < 7 → W.cell? ⟨b, o + k, none⟩ = some (.int .i64 (nth listT k))
theorem RowT.below {W W' : World} {b o c : Nat} (h : RowT W b o c) (hb : Below W.heap.size W W') : RowT W' b o c := ⟨Nat.lt_of_lt_of_le h.1 hb.size, h.2.1, fun k hk => (hb.cell (p := ⟨b, o + k, none⟩) h.1).trans (h.2.2 k hk)⟩
theorem RowT.ints {W : World} {b o c : Nat} (h : RowT W b o c) : IntsAt W W.heap.size (some ⟨b, o, none⟩) listT := fun _ => ⟨b, o, rfl, h.1, h.2.2⟩
def LineR (w : World) (e : Ending) (w' : World) : Prop := ∃ b c, e = .returned (.agg #[.int .i64 0, .slice (some ⟨b, 0, none⟩) 7 c]) ∧ RowT w' b 0 c ∧ Below w.heap.size w w'
set_option maxRecDepth 100000 in
set_option maxHeartbeats 4000000 in
theorem line_T (b o c : Nat) (w : World) (hR : RowT w b o c) :
    Calls Tryz.prog 57 #[.slice (some ⟨b, o, none⟩) 7 c] w (LineR w) := by
  obtain ⟨V, hV, hbV, hrV, hsV⟩ : ∃ V, w.alloc (.cells #[.int .i64 0, .slice none 0 0] 64) = V ∧ Below w.heap.size w V ∧ V.heap[w.heap.size]? = some (.cells #[.int .i64 0, .slice none 0 0] 64 (0, 0)) ∧ V.heap.size = w.heap.size + 1 :=
    ⟨_, rfl, (Below.refl _ w).alloc (Nat.le_refl _) _, heap_alloc_new w _, by simp⟩
  have hRV := hR.below hbV
  have h7 : 7 ≤ c := hR.2.1
  have c0 : V.cell? ⟨b, o, none⟩ = some (.int .i64 38) := hRV.2.2 0 (by omega)
  have HI := hRV.ints
  have hVs : w.heap.size ≤ V.heap.size := by omega
  have HbV := Lib.hid hbV
  have HrV := Lib.hid hrV
  have HsV := Lib.hid hsV
  have hz0 : ZOwn V V.heap.size (.slice none 0 0) [] := ZOwn.empty _ _
  clear hR hRV hbV hrV hsV
  go_enter Tryz.func57, Tryz.ntmps57
  go_wp2_with fail
  go_loop [3] (fun i => i = .int .i64 0) (fun _ => 0)
  case atStart => rfl
  case round =>
    subst hrel
    go_wp2_with (at_builtin; refine wpList_appZs rfl _ _ _ rfl Tryz.underlying26 V.heap.size (.slice none 0 0) [] rfl hz0 (some ⟨b, o, none⟩) listT 7 c rfl rfl HI (by decide) (Nat.le_refl _) ?_; intro v' w' hz' hb'; obtain ⟨g, c', hv', hcl, hgl, hgB, hcells⟩ := zown_cap hz' (by decide); subst hv'; have hr' := (hb'.block w.heap.size (by have := HsV.out; omega)).trans HrV.out; have q0 := Lib.cell_of_heap hr' 0; have q1 := Lib.cell_of_heap hr' 1; have f0 := Go.Joins.unfrozen_of_block hr' 0; have f1 := Go.Joins.unfrozen_of_block hr' 1; have hw9 := Go.Joins.block_setCell (i := 1) (Go.Joins.block_setCell (i := 0) hr' (.int .i64 0)) (.slice (some ⟨g, 0, none⟩) 7 c'); have HR9 : Hid (w.heap.size < g ∧ RowT w' g 0 c' ∧ Below w.heap.size w w') := ⟨by have := HsV.out; omega, ⟨hgl, hcl, fun k hk => by rw [Nat.zero_add]; exact hcells k hk⟩, HbV.out.trans (hb'.mono (by have := HsV.out; omega))⟩; have Hw9 := Lib.hid hw9; clear hz' hb' hcl hgl hgB hcells hr' hw9)
    refine bodyPost_ret (results_cell_row rfl _ _ w.heap.size _ _ (0, 0) _ rfl Hw9.out Tryz.underlying64 rfl (by kernel_rfl)) rfl ?_
    obtain ⟨r1, r2, r3⟩ := HR9.out
    refine ⟨g, c', rfl, ⟨by simpa using r2.1, r2.2.1, fun k hk => ?_⟩, (r3.setCell (p := ⟨w.heap.size, 0, none⟩) (Nat.le_refl _) _).setCell (p := ⟨w.heap.size, 1, none⟩) (Nat.le_refl _) _⟩
    refine (World.cell?_of_block ?_).trans (r2.2.2 k hk)
    exact (Below.heap_setCell _ ⟨w.heap.size, 1, none⟩ _ g (by show g ≠ w.heap.size; omega)).trans (Below.heap_setCell w' ⟨w.heap.size, 0, none⟩ _ g (by show g ≠ w.heap.size; omega))
/-- 'append' of one thing of some cells to nil. -/
theorem wpList_app0 {wr : World} {ops : Array Oper} {rest : List Oper} {o : Oper} {a : Act} {Q : Exit → Act → World → Prop} (hgd : o.guard = none) (s x : Operand) (t e : TypeId) (i0 : TypeInfo) (z : Value) (sz bytes : Nat)
    (ho : o.op = .call { callee := .builtin .append, args := #[s, x], argTypes := #[t, t] }) (ht : Tryz.prog.underlying t = some (.slice e)) (hi : Tryz.prog.info? e = some i0) (hz0 : i0.zero = some z) (hz1 : i0.size = sz) (hz2 : i0.bytes = bytes) (hzc : z.cells.size = sz) (hsz : 0 < sz) (hby : bytes ≤ 1000000)
    (cs : List Value) (hcs : cs.length = sz) (hone : ∀ u ∈ cs, u.oneCell' = true) (hs : a.eval s = .slice none 0 0) (n0 : Nat) (hn0 : n0 = wr.heap.size) (hx : a.eval x = .slice (some ⟨n0, 0, none⟩) 1 1)
    (k : ∀ g c w', 1 ≤ c → wr.heap.size ≤ g → g < w'.heap.size → (∃ cur, w'.heap[g]? = some (.cells cur e (0, 0))) → (∀ j u, cs[j]? = some u → w'.cell? ⟨g, j, none⟩ = some u) → Below wr.heap.size wr w' → wpList Tryz.prog ops Q rest (a.put o.dst (.slice (some ⟨g, 0, none⟩) 1 c)) w') : wpList Tryz.prog ops Q (o :: rest) a (wr.alloc (.cells cs.toArray e)) := by
  refine wpList_append_own_at _ hgd s x t ho wr.heap.size _ i0 z sz bytes ht hi hz0 hz1 hz2 hzc hsz (.slice none 0 0) 0 [] hs ⟨by simp, .inl ⟨rfl, rfl⟩⟩ ⟨n0, 0, none⟩ 1 1 cs hx (by simp [hcs]) ?_ hone (by unfold maxLen; omega) (by omega) (by simp) ?_
  · intro j u hj
    subst hn0
    rw [Addr.add_lit, Nat.zero_add, Lib.cell_of_heap (heap_alloc_new wr _) j]
    simpa using hj
  · intro v' w' h1 h2 _ _
    have h1' := h1
    rcases h1.2 with ⟨_, h3⟩ | ⟨g, cap, cur, rfl, hB, hg, hcp, _⟩
    · omega
    · refine k g cap w' (by omega) hB (Array.getElem?_eq_some_iff.1 hg).1 ⟨cur, hg⟩ (fun j u hj => ?_) ?_
      · have := h1'.cells (g := g) rfl j u (by simpa using hj)
        simpa [Addr.add_lit] using this
      · exact Below.grown ((Below.refl _ wr).alloc (Nat.le_refl _) _) h2 (by simp) fun _ hj => by cases hj
theorem T_facts : ∀ z ∈ listT, printB z = true ∧ (z == 65279) = false ∧ (z != 10) = true ∧ (z != 13) = true := by decide
theorem Tryz.infoLine : (Tryz.prog.info? 64).map (fun i => (i.zero, i.size, i.bytes)) = some (some (.agg #[.int .i64 0, .slice none 0 0]), 2, 32) := by kernel_rfl
/-- The one line. -/
def LnT (W : World) (lb lo xb xc : Nat) : Prop := lb < W.heap.size ∧ W.cell? ⟨lb, lo, none⟩ = some (.int .i64 0) ∧ W.cell? ⟨lb, lo + 1, none⟩ = some (.slice (some ⟨xb, 0, none⟩) 7 xc) ∧ RowT W xb 0 xc
theorem LnT.below {W W' : World} {lb lo xb xc : Nat} (h : LnT W lb lo xb xc) (hb : Below W.heap.size W W') : LnT W' lb lo xb xc :=
  ⟨Nat.lt_of_lt_of_le h.1 hb.size, (hb.cell (p := ⟨lb, lo, none⟩) h.1).trans h.2.1, (hb.cell (p := ⟨lb, lo + 1, none⟩) h.1).trans h.2.2.1, h.2.2.2.below hb⟩
def LnsR (w : World) (e : Ending) (w' : World) : Prop := ∃ lb lc xb xc, e = .returned (.tuple #[.slice (some ⟨lb, 0, none⟩) 1 lc, .int .i64 0]) ∧ 1 ≤ lc ∧ LnT w' lb 0 xb xc ∧ Below w.heap.size w w'
set_option maxRecDepth 100000 in
set_option maxHeartbeats 4000000 in
theorem Lines_T (b o c : Nat) (w : World) (hR : RowT w b o c) :
    Calls Tryz.prog 31 #[.slice (some ⟨b, o, none⟩) 7 c] w (LnsR w) := by
  have HR := Lib.hid hR
  have h7 : 7 ≤ c := hR.2.1
  have HLi := Lib.hid (line_T b o c w hR)
  have HPr : Hid (∀ z, printB z = true → ∀ w, Calls Tryz.prog 56 #[.int .i64 z] w fun e w' => e = .returned (.bool true) ∧ w = w') := fun z hz w => by rw [← hz]; exact RPrint_any z w
  clear hR
  go_enter Tryz.func31, Tryz.ntmps31
  go_wp2_with fail
  go_loop [6] (fun i => ∃ k : Nat, k ≤ 7 ∧ i = .int .i64 (k : Int)) (fun i => 7 - (intOf i).toNat)
  case atStart => exact ⟨0, by omega, rfl⟩
  case round =>
    obtain ⟨k, hk, rfl⟩ := hrel
    by_cases hlt : k < 7
    · have hck := HR.out.2.2 k hlt
      obtain ⟨f1, f2, _, _⟩ := T_facts (nth listT k) (nth_mem hlt)
      obtain ⟨z, hz⟩ : ∃ z, nth listT k = z := ⟨_, rfl⟩
      rw [hz] at hck f1 f2
      have HP := Lib.hid (HPr.out z f1)
      have hlt' : (k : Int) < 7 := by omega
      have Hlt := Lib.hid hlt
      have hmz : ∀ y : Int, y = k + 1 → 7 - (intOf (.int .i64 y)).toNat < 7 - (intOf (.int .i64 (k : Int))).toNat := by intro y hy; subst hy; have := Hlt.out; simp only [intOf]; omega
      have HW : Hid (wrap64 ((k : Int) + 1) = k + 1) := IntWalk.wrap64_in _ (by have := Hlt.out; omega)
      clear hz f1 hlt hk
      go_wp2_with (go_at_call 56; refine (HP.out _).mono ?_; rintro e w' ⟨rfl, rfl⟩)
      first
        | exact ⟨⟨k + 1, Hlt.out, by simp⟩, hmz _ rfl⟩
        | exact ⟨⟨k + 1, Hlt.out, congrArg (Value.int .i64) (HW.out.trans (by simp))⟩, hmz _ HW.out⟩
    · obtain rfl : k = 7 := by omega
      clear hlt hk
      go_wp2_with fail
      go_loop [4, 5, 7] (fun out fr i => ∃ k : Nat, k ≤ 7 ∧ out = .slice none 0 0 ∧ fr = .int .i64 0 ∧ i = .int .i64 (k : Int)) (fun _ _ i => 7 - (intOf i).toNat)
      case atStart => exact ⟨0, by omega, rfl, rfl, rfl⟩
      case round =>
        obtain ⟨k, hk, rfl, rfl, rfl⟩ := hrel
        by_cases hlt : k < 7
        · have hck := HR.out.2.2 k hlt
          obtain ⟨_, _, f1, f2⟩ := T_facts (nth listT k) (nth_mem hlt)
          obtain ⟨z, hz⟩ : ∃ z, nth listT k = z := ⟨_, rfl⟩
          rw [hz] at hck f1 f2
          have hlt' : (k : Int) < 7 := by omega
          have Hlt := Lib.hid hlt
          have hmz : ∀ y : Int, y = k + 1 → 7 - (intOf (.int .i64 y)).toNat < 7 - (intOf (.int .i64 (k : Int))).toNat := by intro y hy; subst hy; have := Hlt.out; simp only [intOf]; omega
          have HW : Hid (wrap64 ((k : Int) + 1) = k + 1) := IntWalk.wrap64_in _ (by have := Hlt.out; omega)
          clear hz hlt hk
          go_wp2_with fail
          first
            | exact ⟨⟨k + 1, Hlt.out, rfl, rfl, by simp⟩, hmz _ rfl⟩
            | exact ⟨⟨k + 1, Hlt.out, rfl, rfl, congrArg (Value.int .i64) (HW.out.trans (by simp))⟩, hmz _ HW.out⟩
        · obtain rfl : k = 7 := by omega
          clear hlt hk
          obtain ⟨i0, hi, hz0, hz1, hz2⟩ := info_parts Tryz.infoLine
          go_wp2_with (first
            | (go_at_call 57; refine HLi.out.mono ?_; rintro e w1 ⟨g, c1, rfl, hr1, hb1⟩; have HR1 := Lib.hid hr1; have Hb1 := Lib.hid hb1; clear hr1 hb1)
            | (at_builtin; refine wpList_app0 rfl _ _ _ _ i0 _ 2 32 rfl Tryz.underlying50 hi hz0 hz1 hz2 rfl (by decide) (by decide) [.int .i64 0, .slice (some ⟨g, 0, none⟩) 7 c1] rfl (by intro u hu; simp at hu; rcases hu with rfl | rfl <;> rfl) (by rfl) w1.heap.size rfl (by rfl) ?_; intro lb lc w2 hlc hl1 hl2 _ hl3 hl4; have HE : Hid (1 ≤ lc ∧ LnT w2 lb 0 g c1 ∧ Below w.heap.size w w2) := ⟨hlc, ⟨hl2, hl3 0 _ rfl, hl3 1 _ rfl, HR1.out.below hl4⟩, below_then Hb1.out hl4⟩; clear hlc hl1 hl2 hl3 hl4))
          go_ret2
          exact ⟨lb, lc, g, c1, rfl, HE.out⟩
theorem Calls.mono' {P : Program} {f : FuncId} {args : Array Value} {w : World} {Q R : Ending → World → Prop} (h : Calls P f args w Q) (k : ∀ e w', Q e w' → R e w') : Calls P f args w R := h.mono k
def LnsS (w : World) (e : Ending) (w' : World) : Prop := ∃ lb lc xb xc, e = .returned (.slice (some ⟨lb, 0, none⟩) 1 lc) ∧ 1 ≤ lc ∧ LnT w' lb 0 xb xc ∧ Below w.heap.size w w'
set_option maxRecDepth 100000 in
set_option maxHeartbeats 4000000 in
theorem LnsS_T (w : World) : Calls Tryz.prog 17 #[.string ⟨#[38, 97, 32, 91, 42, 97, 93]⟩] w (LnsS w) := by
  have hcv := Lib.run_convert_string_bytes (P := Tryz.prog) w 9 82 5 exT Tryz.underlying9 Tryz.underlying82 Tryz.underlying5
  obtain ⟨W, hW, hbW, hsW, hB⟩ := bytes_newT w exT
  rw [hW] at hcv
  obtain ⟨cp, hcp⟩ : ∃ cp, grownCap w exT.size 0 5 = cp := ⟨_, rfl⟩
  have h7 : 7 ≤ cp := by rw [← hcp]; exact grownCap_ge w exT.size 0 5
  rw [hcp] at hcv
  have hcv' : (convert 9 82 (.string ⟨#[38, 97, 32, 91, 42, 97, 93]⟩)).run Tryz.prog w = .ok (.slice (some ⟨w.heap.size, 0, none⟩) 7 cp) W := hcv
  have HP := Lib.hid (Points_T w.heap.size cp W (by omega) h7 hB)
  have HbW := Lib.hid hbW
  clear hW hbW hsW hB hcv hcp h7
  go_enter Tryz.func17, Tryz.ntmps17
  go_wp2_with (first
    | (go_at_call 30; refine HP.out.mono ?_; rintro e w1 ⟨A, c, rfl, h7, hI, hb1⟩; obtain ⟨b, o, hA, hbl, hcc⟩ := hI (by decide); subst hA; have HR1 : Hid (RowT w1 b o c) := ⟨hbl, h7, hcc⟩; have Hb1 := Lib.hid (below_then HbW.out hb1); clear h7 hI hb1 hbl hcc)
    | (go_at_call 31; refine (Lines_T b o c w1 HR1.out).mono ?_; rintro e w2 ⟨lb, lc, xb, xc, rfl, hlc, hln, hb2⟩; have HE := Lib.hid (And.intro hlc (And.intro hln (below_then Hb1.out hb2))); clear hlc hln hb2))
  go_ret
  exact ⟨lb, lc, xb, xc, rfl, HE.out⟩
end Go.Proofs.YtiblamapjekdeaaGreat
