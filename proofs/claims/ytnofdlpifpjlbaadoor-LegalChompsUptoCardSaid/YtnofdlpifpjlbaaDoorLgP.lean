/- How a text may be written: plain functions of its numbers, and what holds of lines that may be folded. Plain Lean, no condition. -/
import Derived.Test.YtnofdlpifpjlbaaDoorPlainP
import Derived.Test.YtnofdlpifpjlbaaDoorUtf2
namespace Go.Proofs.YtnofdlpifpjlbaaDoor
open Go.Lib
/-- A text's bytes, as numbers. -/
def bytesI (s : ByteArray) : List Int := s.data.toList.map fun b => (b.toNat : Int)
theorem bytesI_len (s : ByteArray) : (bytesI s).length = s.size := by rw [bytesI, List.length_map, Array.length_toList]; rfl
theorem bytesI_take (s : ByteArray) {k : Nat} (h : k < s.size) : (bytesI s).take (k + 1) = (bytesI s).take k ++ [(s[k].toNat : Int)] := by
  have hk : k < (bytesI s).length := by rw [bytesI_len]; exact h
  rw [List.take_succ_eq_append_getElem hk]
  congr 2
  simp [bytesI, ByteArray.getElem_eq_getElem_data]
theorem pt_ascii {s : ByteArray} {i : Nat} (h : (s.get! i).toNat < 128) : ptAt s i = ((s.get! i).toNat, 1) := by
  rw [ptAt, decode_at, dec1 h, if_neg (by simp; omega)]
theorem pt_small {s : ByteArray} {i : Nat} (hn : (ptAt s i).2 ≠ 0) (h : (ptAt s i).1 < 128) : (s.get! i).toNat < 128 := by
  obtain ⟨g1, g2⟩ := pt_good hn
  rw [g2, decode_at] at h
  rw [decode_at] at g1
  rcases decodeN_shape (s.size - i) (s.get! i).toNat (s.get! (i + 1)).toNat (s.get! (i + 2)).toNat (s.get! (i + 3)).toNat with ⟨c, e⟩ | ⟨c1, c2, c3, cv, e⟩ | ⟨c1, c2, c3, c4, cv, cs, e⟩ | ⟨c1, c2, c3, c4, c5, cv, cw, e⟩ | e
  · exact c
  · rw [e] at h; simp only at h; omega
  · rw [e] at h; simp only at h; omega
  · rw [e] at h; simp only at h; omega
  · exact absurd e g1
theorem bytesI_get {s : ByteArray} {k : Nat} (h : k < s.size) : s[k].toNat = (s.get! k).toNat := by
  have h2 : k < s.data.size := h
  show s.data[k].toNat = _
  simp [ByteArray.get!, getElem!_def]
  rw [Array.getElem?_eq_getElem h2]
def okSign (c : Int) : Bool := printB c && c != 10 && c != 13 && c != 65279
def singleB (l : List Int) : Bool := l.all okSign
def okLit (c : Int) : Bool := printB c && c != 13 && c != 65279
def literalB (l : List Int) (flow : Bool) : Bool := l.all okLit && !flow && decide (0 < l.length)
/-- May a line's place stand in a line that is folded? -/
def bad1 (t : List Int) (i : Nat) : Bool := blankB (nth t i) && (i == 0 || i + 1 == t.length || blankB (nth t (i + 1)))
def foldsB (t : List Int) : Bool := (List.range t.length).all fun i => !bad1 t i
def bad2 (l : List Int) (i : Nat) : Bool := blankB (nth l i) && (i == 0 || nth l (i - 1) == 10 || i + 1 == l.length || nth l (i + 1) == 10 || blankB (nth l (i + 1)))
def foldableB (l : List Int) : Bool := (List.range l.length).all fun i => !bad2 l i
inductive Fo | st | bl | ot | no
deriving DecidableEq
def Fo.step : Fo → Int → Fo
  | .st, c => if blankB c then .no else if c = 10 then .st else .ot
  | .bl, c => if blankB c then .no else if c = 10 then .no else .ot
  | .ot, c => if blankB c then .bl else if c = 10 then .st else .ot
  | .no, _ => .no
def Fo.fin : Fo → Bool
  | .st => true
  | .ot => true
  | _ => false
def foRun (s : Fo) (l : List Int) : Fo := l.foldl Fo.step s
theorem foRun_cons (s : Fo) (c : Int) (l : List Int) : foRun s (c :: l) = foRun (s.step c) l := rfl
theorem foRun_app (s : Fo) (l m : List Int) : foRun s (l ++ m) = foRun (foRun s l) m := by simp [foRun]
theorem foRun_no (l : List Int) : foRun .no l = .no := by
  induction l with
  | nil => rfl
  | cons c l ih => rw [foRun_cons]; exact ih
theorem blank10 {c : Int} (h : blankB c = true) : c ≠ 10 := by
  rw [blankB_iff] at h; omega
theorem nth_app {l m : List Int} {k : Nat} : nth (l ++ m) (l.length + k) = nth m k := by
  unfold nth
  rw [List.getD_eq_getElem?_getD, List.getD_eq_getElem?_getD, List.getElem?_append_right (by omega), Nat.add_sub_cancel_left]
theorem nth_app' {l m : List Int} {k : Nat} (h : k < l.length) : nth (l ++ m) k = nth l k := by
  simp [nth, List.getElem?_append_left h]
theorem last_st {pre : List Int} (h : foRun .st pre = .st) : pre = [] ∨ nth pre (pre.length - 1) = 10 := by
  rcases List.eq_nil_or_concat pre with rfl | ⟨p, c, rfl⟩
  · exact .inl rfl
  · right
    rw [List.concat_eq_append, foRun_app] at h
    have hc : c = 10 := by
      have h' : (foRun .st p).step c = .st := h
      cases hp : foRun .st p with
      | st => rw [hp] at h'; simp only [Fo.step] at h'; split at h' <;> (try split at h') <;> first | assumption | simp at h'
      | bl => rw [hp] at h'; simp only [Fo.step] at h'; split at h' <;> (try split at h') <;> first | assumption | simp at h'
      | ot => rw [hp] at h'; simp only [Fo.step] at h'; split at h' <;> (try split at h') <;> first | assumption | simp at h'
      | no => rw [hp] at h'; simp [Fo.step] at h'
    simp [nth, hc]
theorem last_ot {pre : List Int} (h : foRun .st pre = .ot) : pre ≠ [] ∧ nth pre (pre.length - 1) ≠ 10 := by
  rcases List.eq_nil_or_concat pre with rfl | ⟨p, c, rfl⟩
  · cases h
  · refine ⟨by simp, ?_⟩
    rw [List.concat_eq_append, foRun_app] at h
    have hc : c ≠ 10 := by
      have h' : (foRun .st p).step c = .ot := h
      intro e
      subst e
      cases hp : foRun .st p <;> rw [hp] at h' <;> simp [Fo.step, blankB] at h'
    simpa [nth] using hc
theorem fold_run : ∀ (suf pre : List Int), foRun .st pre ≠ .no →
    ((foRun (foRun .st pre) suf).fin = true ↔ (foRun .st pre = .bl → ∃ c t, suf = c :: t ∧ blankB c = false ∧ c ≠ 10) ∧ ∀ k, k < suf.length → bad2 (pre ++ suf) (pre.length + k) = false) := by
  intro suf
  induction suf with
  | nil =>
    intro pre hne
    constructor
    · intro h
      refine ⟨fun e => ?_, fun k hk => by simp at hk⟩
      rw [e] at h; cases h
    · rintro ⟨h, _⟩
      show (foRun .st pre).fin = true
      cases hp : foRun .st pre with
      | st => rfl
      | ot => rfl
      | bl => obtain ⟨c, t, e, _⟩ := h hp; cases e
      | no => exact absurd hp hne
  | cons c t ih =>
    intro pre hne
    rw [foRun_cons]
    have happ : pre ++ c :: t = (pre ++ [c]) ++ t := by simp
    have hpre : foRun .st (pre ++ [c]) = (foRun .st pre).step c := by rw [foRun_app]; rfl
    have h0 : nth (pre ++ c :: t) pre.length = c := by simp [nth]
    have h1 : nth (pre ++ c :: t) (pre.length + 1) = nth t 0 := by
      rw [happ, show pre.length + 1 = (pre ++ [c]).length + 0 by simp, nth_app]
    have hm : pre.length ≠ 0 → nth (pre ++ c :: t) (pre.length - 1) = nth pre (pre.length - 1) := fun h => nth_app' (by omega)
    have hlen : (pre ++ c :: t).length = pre.length + 1 + t.length := by simp; omega
    by_cases hst : (foRun .st pre).step c = .no
    · rw [hst, foRun_no]
      constructor
      · intro h; cases h
      · rintro ⟨ha, hb⟩
        exfalso
        cases hp : foRun .st pre with
        | no => exact hne hp
        | st =>
          rw [hp] at hst
          have hbl : blankB c = true := by
            by_cases e : blankB c = true
            · exact e
            · simp only [Fo.step, if_neg e] at hst; split at hst <;> cases hst
          have := hb 0 (by simp)
          rw [Nat.add_zero] at this
          unfold bad2 at this
          rw [h0, hbl, Bool.true_and] at this
          rcases last_st hp with rfl | h10
          · simp at this
          · by_cases hz : pre.length = 0
            · simp [hz] at this
            · rw [hm hz, h10] at this; simp at this
        | bl =>
          obtain ⟨c', t', e, hb1, hb2⟩ := ha hp
          cases e
          rw [hp] at hst
          simp [Fo.step, hb1, hb2] at hst
        | ot =>
          rw [hp] at hst
          simp only [Fo.step] at hst
          split at hst
          · cases hst
          · split at hst <;> cases hst
    · have hih := ih (pre ++ [c]) (by rw [hpre]; exact hst)
      rw [hpre, ← happ] at hih
      rw [hih]
      have hshift : (∀ k, k < (c :: t).length → bad2 (pre ++ c :: t) (pre.length + k) = false) ↔ bad2 (pre ++ c :: t) pre.length = false ∧ ∀ k, k < t.length → bad2 (pre ++ c :: t) ((pre ++ [c]).length + k) = false := by
        constructor
        · intro h
          refine ⟨by simpa using h 0 (by simp), fun k hk => ?_⟩
          have := h (k + 1) (by simp; omega)
          rw [show (pre ++ [c]).length + k = pre.length + (k + 1) by simp; omega]
          exact this
        · rintro ⟨h, h'⟩ k hk
          cases k with
          | zero => simpa using h
          | succ k =>
            have := h' k (by simpa using hk)
            rw [show pre.length + (k + 1) = (pre ++ [c]).length + k by simp; omega]
            exact this
      rw [hshift]
      by_cases hbl : blankB c = true
      · have hp : foRun .st pre = .ot := by
          cases hp : foRun .st pre with
          | no => exact absurd hp hne
          | ot => rfl
          | st => rw [hp] at hst; simp [Fo.step, hbl] at hst
          | bl => rw [hp] at hst; simp [Fo.step, hbl] at hst
        obtain ⟨q1, q2⟩ := last_ot hp
        have hz : pre.length ≠ 0 := fun e => q1 (List.length_eq_zero_iff.1 e)
        have hs : (foRun .st pre).step c = .bl := by rw [hp]; simp [Fo.step, hbl]
        have hbad : bad2 (pre ++ c :: t) pre.length = false ↔ ∃ c' t', t = c' :: t' ∧ blankB c' = false ∧ c' ≠ 10 := by
          unfold bad2
          rw [h0, hbl, h1, hm hz, hlen]
          cases t with
          | nil => simp
          | cons c' t' =>
            have e1 : (pre.length == 0) = false := beq_eq_false_iff_ne.2 hz
            have e2 : (nth pre (pre.length - 1) == 10) = false := beq_eq_false_iff_ne.2 q2
            have e3 : (pre.length + 1 == pre.length + 1 + (c' :: t').length) = false := beq_eq_false_iff_ne.2 (by simp)
            have e4 : nth (c' :: t') 0 = c' := rfl
            rw [e1, e2, e3, e4]
            simp only [Bool.true_and, Bool.false_or, Bool.or_eq_false_iff, beq_eq_false_iff_ne]
            constructor
            · intro h; exact ⟨c', t', rfl, h.2, h.1⟩
            · rintro ⟨_, _, e, h, h'⟩; cases e; exact ⟨h', h⟩
        rw [hbad, hs, hp]
        simp
      · have hbl' : blankB c = false := by simpa using hbl
        have hs : (foRun .st pre).step c ≠ .bl := by
          have h2 : ¬ blankB c = true := hbl
          cases hp : foRun .st pre with
          | st => simp only [Fo.step, if_neg h2]; split <;> simp
          | bl => simp only [Fo.step, if_neg h2]; split <;> simp
          | ot => simp only [Fo.step, if_neg h2]; split <;> simp
          | no => simp [Fo.step]
        have hbad : bad2 (pre ++ c :: t) pre.length = false := by
          unfold bad2; rw [h0, hbl']; rfl
        constructor
        · rintro ⟨_, h⟩
          refine ⟨fun e => ⟨c, t, rfl, hbl', fun e10 => hst ?_⟩, hbad, h⟩
          rw [e, e10]; simp [Fo.step]
        · rintro ⟨_, _, h⟩
          exact ⟨fun e => absurd e hs, h⟩
theorem foldable_run (l : List Int) : foldableB l = (foRun .st l).fin := by
  have h := fold_run l [] (by simp [foRun])
  have h2 : foldableB l = true ↔ ∀ k, k < l.length → bad2 l k = false := by
    simp [foldableB]
  rw [Bool.eq_iff_iff, h2]
  have h3 : foRun .st ([] : List Int) = .st := rfl
  rw [h3] at h
  rw [h]
  simp
theorem folds_line {p : List Int} (h : (10 : Int) ∉ p) : foldsB p = foldableB p := by
  have hn : ∀ k, k < p.length → nth p k ≠ 10 := fun k hk e => h (by rw [← e]; exact nth_mem hk)
  unfold foldsB foldableB
  rw [Bool.eq_iff_iff, List.all_eq_true, List.all_eq_true]
  have : ∀ i, i < p.length → bad1 p i = bad2 p i := fun i hi => by
    unfold bad1 bad2
    have a1 : (nth p (i - 1) == 10) = false := beq_eq_false_iff_ne.2 (hn _ (by omega))
    rw [a1]
    by_cases e : i + 1 = p.length
    · simp [e]
    · have a2 : (nth p (i + 1) == 10) = false := beq_eq_false_iff_ne.2 (hn _ (by omega))
      rw [a2]; simp
  constructor
  · intro hh i hi
    rw [← this i (by simpa using hi)]; exact hh i hi
  · intro hh i hi
    rw [this i (by simpa using hi)]; exact hh i hi
theorem fold_cut {p r : List Int} (h : (10 : Int) ∉ p) : foldableB (p ++ 10 :: r) = (foldsB p && foldableB r) := by
  rw [folds_line h, foldable_run, foldable_run, foldable_run, foRun_app, foRun_cons]
  cases hp : foRun .st p with
  | st => simp [Fo.step, Fo.fin, blankB]
  | ot => simp [Fo.step, Fo.fin, blankB]
  | bl => simp [Fo.step, Fo.fin, blankB, foRun_no]
  | no => simp [Fo.step, Fo.fin, foRun_no]
/-- Bytes of code points from 128 on: one sign that is neither a blank nor a line's end. -/
def bigs (l : List Int) : Prop := l ≠ [] ∧ ∀ x ∈ l, 128 ≤ x
theorem step_big (s : Fo) {x : Int} (h : 128 ≤ x) : s.step x = (match s with | .no => .no | _ => .ot) := by
  have h1 : blankB x = false := by
    rw [Bool.eq_false_iff]; intro e; rw [blankB_iff] at e; omega
  have h2 : ¬ x = 10 := by omega
  cases s <;> simp [Fo.step, h1, h2]
theorem run_bigs : ∀ (l : List Int) (s : Fo), bigs l → foRun s l = (match s with | .no => .no | _ => .ot) := by
  intro l
  induction l with
  | nil => intro s h; exact absurd rfl h.1
  | cons x l ih =>
    intro s h
    have hx := h.2 x List.mem_cons_self
    rw [foRun_cons, step_big s hx]
    cases l with
    | nil => cases s <;> rfl
    | cons y l =>
      rw [ih _ ⟨by simp, fun z hz => h.2 z (List.mem_cons_of_mem _ hz)⟩]
      cases s <;> rfl
/-- The bytes that a code point from 128 on stands for. -/
theorem pt_bytes {s : ByteArray} {i : Nat} (hn : (ptAt s i).2 ≠ 0) (h : 128 ≤ (ptAt s i).1) : ∀ k, k < (ptAt s i).2 → 128 ≤ (s.get! (i + k)).toNat := by
  obtain ⟨g1, g2⟩ := pt_good hn
  rw [g2] at h ⊢
  rw [decode_at] at g1 h ⊢
  have hb0 : 128 ≤ (s.get! i).toNat := by
    by_cases e : (s.get! i).toNat < 128
    · rw [dec1 e] at h; simp only at h; omega
    · omega
  by_cases c2 : 194 ≤ (s.get! i).toNat ∧ (s.get! i).toNat < 224
  · rw [dec2 c2] at g1 ⊢
    split
    · next q =>
      split
      · intro k hk
        rcases (by simp at hk; omega : k = 0 ∨ k = 1) with rfl | rfl
        · exact hb0
        · omega
      · next q' => rw [if_pos q, if_neg q'] at g1; exact absurd rfl g1
    · next q => rw [if_neg q] at g1; exact absurd rfl g1
  · by_cases c3 : 224 ≤ (s.get! i).toNat ∧ (s.get! i).toNat < 240
    · rw [dec3 c3] at g1 ⊢
      split
      · next q =>
        split
        · intro k hk
          rcases (by simp at hk; omega : k = 0 ∨ k = 1 ∨ k = 2) with rfl | rfl | rfl
          · exact hb0
          · omega
          · omega
        · next q' => rw [if_pos q, if_neg q'] at g1; exact absurd rfl g1
      · next q => rw [if_neg q] at g1; exact absurd rfl g1
    · by_cases c4 : 240 ≤ (s.get! i).toNat ∧ (s.get! i).toNat < 245
      · rw [dec4 c4] at g1 ⊢
        split
        · next q =>
          split
          · intro k hk
            rcases (by simp at hk; omega : k = 0 ∨ k = 1 ∨ k = 2 ∨ k = 3) with rfl | rfl | rfl | rfl
            · exact hb0
            · omega
            · omega
            · omega
          · next q' => rw [if_pos q, if_neg q'] at g1; exact absurd rfl g1
        · next q => rw [if_neg q] at g1; exact absurd rfl g1
      · have hlt := (s.get! i).toNat_lt
        rw [dec0 (by omega) (by omega)] at g1
        exact absurd rfl g1
theorem bytesI_take_add (s : ByteArray) (i n : Nat) (h : i + n ≤ s.size) : (bytesI s).take (i + n) = (bytesI s).take i ++ (List.range n).map fun k => ((s.get! (i + k)).toNat : Int) := by
  induction n with
  | zero => simp
  | succ n ih =>
    rw [← Nat.add_assoc, bytesI_take s (show i + n < s.size by omega), ih (by omega), List.range_succ, bytesI_get (by omega)]
    simp
/-- Whether a text's lines may be folded is told by its bytes as by its code points. -/
theorem Dec.run {s : ByteArray} {i : Nat} {l : List Int} (h : Dec s i l) : foRun .st ((bytesI s).take i) = foRun .st l := by
  induction h with
  | nil => simp
  | @step i l hd hi hn ih =>
    have hle := (Dec.step hd hi hn).valid.1
    rw [foRun_app, bytesI_take_add s i _ hle, foRun_app, ih]
    by_cases hb : (s.get! i).toNat < 128
    · rw [pt_ascii hb]
      simp [foRun]
    · have h128 : 128 ≤ (ptAt s i).1 := by
        by_cases e : (ptAt s i).1 < 128
        · exact absurd (pt_small hn e) hb
        · omega
      have hbig : bigs ((List.range (ptAt s i).2).map fun k => ((s.get! (i + k)).toNat : Int)) := by
        refine ⟨fun e => hn (by simpa using e), fun x hx => ?_⟩
        obtain ⟨k, hk, rfl⟩ := List.mem_map.1 hx
        have := pt_bytes hn h128 k (by simpa using hk)
        omega
      rw [run_bigs _ _ hbig]
      show _ = (foRun .st l).step _
      rw [step_big _ (by omega)]
theorem fold_bytes {s : ByteArray} {l : List Int} (h : Dec s s.size l) : foldableB (bytesI s) = foldableB l := by
  rw [foldable_run, foldable_run, ← h.run, List.take_of_length_le (by rw [bytesI_len]; exact Nat.le_refl _)]
/-- A text has one row of code points. -/
def codesFrom (s : ByteArray) : Nat → Nat → List Int
  | 0, _ => []
  | f + 1, i => if i < s.size ∧ (ptAt s i).2 ≠ 0 then ((ptAt s i).1 : Int) :: codesFrom s f (i + (ptAt s i).2) else []
theorem Dec.codes {s : ByteArray} {i : Nat} {l : List Int} (h : Dec s i l) : ∀ f, l.length ≤ f → codesFrom s f 0 = l ++ codesFrom s (f - l.length) i := by
  induction h with
  | nil => intro f _; simp
  | @step i l hd hi hn ih =>
    intro f hf
    rw [List.length_append, List.length_singleton] at hf
    rw [ih f (by omega)]
    obtain ⟨g, hg⟩ : ∃ g, f - l.length = g + 1 := ⟨f - l.length - 1, by omega⟩
    rw [hg, codesFrom, if_pos ⟨hi, hn⟩, List.length_append, List.length_singleton, show f - (l.length + 1) = g by omega]
    simp
theorem Dec.one {s : ByteArray} {l m : List Int} (h : Dec s s.size l) (h' : Dec s s.size m) : l = m := by
  have h1 := h.codes (l.length + m.length) (by omega)
  have h2 := h'.codes (l.length + m.length) (by omega)
  have hz : ∀ f, codesFrom s f s.size = [] := fun f => by
    cases f with
    | zero => rfl
    | succ f => rw [codesFrom, if_neg (by omega)]
  rw [hz, List.append_nil] at h1 h2
  rw [← h1, h2]
/-- How a text may be written, of its bytes and code points. -/
def startsB (s : ByteArray) (p : List UInt8) : Bool := p.isPrefixOf s.data.toList
def mayB (style : Int) (s : ByteArray) (l : List Int) (flow : Bool) : Bool :=
  if style = 1 then begB l true && decide (endN l true = l.length) && singleB l && !startsB s [45, 45, 45] && !startsB s [46, 46, 46]
  else if style = 2 then singleB l
  else if style = 3 then true
  else if style = 4 then literalB l flow
  else if style = 5 then literalB l flow && foldableB l
  else false
theorem may_less {style : Int} {s : ByteArray} {l : List Int} (h : mayB style s l true = true) : mayB style s l false = true := by
  unfold mayB at h ⊢
  split
  · next e => rw [if_pos e] at h; exact h
  · next e =>
    rw [if_neg e] at h
    split
    · next e => rw [if_pos e] at h; exact h
    · next e =>
      rw [if_neg e] at h
      split
      · rfl
      · next e =>
        rw [if_neg e] at h
        split
        · next e => rw [if_pos e] at h; simp [literalB] at h
        · next e =>
          rw [if_neg e] at h
          split
          · next e => rw [if_pos e] at h; simp [literalB] at h
          · next e => rw [if_neg e] at h; exact h
theorem may_folded {s : ByteArray} {l : List Int} (flow : Bool) (h : mayB 5 s l flow = true) : mayB 4 s l flow = true := by
  have h' : (literalB l flow && foldableB l) = true := h
  rw [Bool.and_eq_true] at h'
  exact h'.1
theorem may_plain {s : ByteArray} {l : List Int} (flow : Bool) (h : mayB 1 s l flow = true) : mayB 2 s l flow = true := by
  have h' : (begB l true && decide (endN l true = l.length) && singleB l && !startsB s [45, 45, 45] && !startsB s [46, 46, 46]) = true := h
  simp only [Bool.and_eq_true] at h'
  exact h'.1.1.2
end Go.Proofs.YtnofdlpifpjlbaaDoor
