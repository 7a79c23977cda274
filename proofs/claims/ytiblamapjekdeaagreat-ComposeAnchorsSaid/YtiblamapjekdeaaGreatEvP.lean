/- The reference's paired on a whole node. Condition: a row of at most 100000 events. -/
import Derived.Test.YtiblamapjekdeaaGreatEvQ
import Derived.Test.YtiblamapjekdeaaGreatEvE
namespace Go.Proofs.YtiblamapjekdeaaGreat
open Go.RowKit
theorem own_ne {w : World} {B : Nat} {e e' : TypeId} {s s' : Nat} {v v' : Value} {n n' : Nat} {xs xs' : List Value} (h : w.ownsRow B e s v n xs) (h' : w.ownsRow B e' s' v' n' xs') (hne : e ≠ e') : v.ownBlock = none ∨ v.ownBlock ≠ v'.ownBlock := by
  rcases h.2 with ⟨rfl, _⟩ | ⟨g, cap, cur, rfl, _, hg, _⟩
  · exact .inl rfl
  · refine .inr fun hq => ?_
    rcases h'.2 with ⟨rfl, _⟩ | ⟨g', cap', cur', rfl, _, hg', _⟩
    · cases hq
    · simp only [Value.ownBlock, Option.some.injEq] at hq
      subst hq
      rw [hg] at hg'
      cases hg'
      exact hne rfl
theorem cell_one_new (w : World) (a : Value) (t : TypeId) : ∀ j u, [a][j]? = some u → (w.alloc (.cells #[a] t)).cell? ((⟨w.heap.size, 0, none⟩ : Addr).add j) = some u := by
  intro j u hj
  match j, hj with
  | 0, hj => simp at hj; subst hj; simp [Addr.add]
  | j + 1, hj => simp at hj
theorem cell_one_at (w : World) (a : Value) (t : TypeId) {n : Nat} (hn : n = w.heap.size) : ∀ j u, [a][j]? = some u → (w.alloc (.cells #[a] t)).cell? ((⟨n, 0, none⟩ : Addr).add j) = some u := by
  subst hn; exact cell_one_new w a t
/-- A stack's row: the outermost first. -/
def flat1 {α : Type} (f : α → Value) : List α → List Value
  | [] => []
  | p :: r => flat1 f r ++ [f p]
theorem flat1_length {α : Type} (f : α → Value) : ∀ l : List α, (flat1 f l).length = l.length
  | [] => rfl
  | p :: r => by simp [flat1, flat1_length f r]
theorem flat1_top {α : Type} (f : α → Value) (p : α) (r : List α) : (flat1 f (p :: r))[r.length]? = some (f p) := by
  rw [← flat1_length f r]; simp [flat1]
theorem flat1_pop {α : Type} {f : α → Value} {w : World} {B : Nat} {e : TypeId} {g cap : Nat} {p : α} {r : List α} (h : w.ownsRow B e 1 (.slice (some ⟨g, 0, none⟩) (r.length + 1) cap) (r.length + 1) (flat1 f (p :: r))) :
    w.ownsRow B e 1 (.slice (some ⟨g, 0, none⟩) r.length cap) r.length (flat1 f r) := ownsRow_pop (by rw [flat1_length]; omega) h
theorem flat1_set {α : Type} {f : α → Value} {w : World} {B : Nat} {e : TypeId} {g cap : Nat} {p q : α} {r : List α} {u : Value} (h : w.ownsRow B e 1 (.slice (some ⟨g, 0, none⟩) (r.length + 1) cap) (r.length + 1) (flat1 f (p :: r))) (hu : u = f q) :
    (w.setCell ⟨g, r.length, none⟩ u).ownsRow B e 1 (.slice (some ⟨g, 0, none⟩) (r.length + 1) cap) (r.length + 1) (flat1 f (q :: r)) := by
  have h2 := (h.stored r.length u).1
  have e : (flat1 f (p :: r)).set r.length u = flat1 f (q :: r) := by
    rw [← flat1_length f r]
    simp [flat1, hu]
  rwa [e] at h2
/-- What the loop over a whole node knows at a place: how deep it stands, and what is left. -/
structure PairInv (L : List Ev) (k : Nat) (st : List (Nat × Bool)) : Prop where
  scan : k < L.length → ∃ op : List Int, op.length = st.length ∧ Ev.scan2 ((kinds L).drop k) op = some (L.length - k)
  res : Ev.paired (kinds L) [] = Ev.paired ((kinds L).drop k) st
  small : ∀ p ∈ st, p.1 ≤ k
theorem PairInv.start {L : List Ev} (h : Ev.scan2 (kinds L) [] = some L.length) : PairInv L 0 [] := ⟨fun _ => ⟨[], rfl, h⟩, rfl, fun _ h => by cases h⟩
theorem after_some {L : List Ev} {k : Nat} {st : List (Nat × Bool)} (h : PairInv L k st) (hk : k < L.length) : ∃ op op', op.length = st.length ∧ Ev.after (evs L k).kind op = some op' ∧
    (k + 1 < L.length → Ev.scan2 ((kinds L).drop (k + 1)) op' = some (L.length - (k + 1))) := by
  obtain ⟨op, ho, hs⟩ := h.scan hk
  rw [kinds_drop hk, Ev.scan2] at hs
  cases ha : Ev.after (evs L k).kind op with
  | none => rw [ha] at hs; cases hs
  | some o =>
    refine ⟨op, o, ho, ha, fun hlt => ?_⟩
    rw [ha] at hs
    cases o with
    | nil => simp only [Option.some.injEq] at hs; omega
    | cons c o =>
      simp only [Option.map_eq_some_iff] at hs
      obtain ⟨m, hm, he⟩ := hs
      rw [hm]; congr 1; omega
theorem PairInv.kind {L : List Ev} {k : Nat} {st : List (Nat × Bool)} (h : PairInv L k st) (hk : k < L.length) : 3 ≤ (evs L k).kind ∧ (evs L k).kind ≤ 8 := by
  obtain ⟨op, op', _, ha, _⟩ := after_some h hk
  unfold Ev.after at ha
  by_cases h1 : Ev.leaf (evs L k).kind = true
  · simp only [Ev.leaf, Bool.or_eq_true, beq_iff_eq] at h1; omega
  · by_cases h2 : Ev.opens (evs L k).kind = true
    · simp only [Ev.opens, Bool.or_eq_true, beq_iff_eq] at h2; omega
    · by_cases h3 : Ev.closes (evs L k).kind = true
      · simp only [Ev.closes, Bool.or_eq_true, beq_iff_eq] at h3; omega
      · simp [h1, h2, h3] at ha
theorem PairInv.bump {L : List Ev} {k : Nat} {st : List (Nat × Bool)} (h : PairInv L k st) (hk : k < L.length) (hx : (evs L k).kind = 7 ∨ (evs L k).kind = 8) : PairInv L (k + 1) (Ev.bump2 st) := by
  obtain ⟨op, op', ho, ha, hs⟩ := after_some h hk
  have hl : Ev.leaf (evs L k).kind = true := by rcases hx with e | e <;> rw [e] <;> rfl
  have hc : ¬ Ev.closes (evs L k).kind = true := by rcases hx with e | e <;> rw [e] <;> decide
  have hn : ¬ Ev.opens (evs L k).kind = true := by rcases hx with e | e <;> rw [e] <;> decide
  rw [Ev.after.eq_def] at ha
  simp only [if_pos hl, Option.some.injEq] at ha
  subst ha
  refine ⟨fun hlt => ⟨op, ?_, hs hlt⟩, ?_, ?_⟩
  · rw [ho]; cases st with
    | nil => rfl
    | cons p st => obtain ⟨n, m⟩ := p; rfl
  · rw [h.res, kinds_drop hk, Ev.paired.eq_def]
    simp only [if_neg hc, if_neg hn]
  · cases st with
    | nil => exact fun _ h => by cases h
    | cons p st =>
      obtain ⟨n, m⟩ := p
      intro q hq
      rcases List.mem_cons.1 hq with rfl | hq
      · exact Nat.succ_le_succ (h.small (n, m) (by simp))
      · exact Nat.le_succ_of_le (h.small _ (List.mem_cons_of_mem _ hq))
theorem PairInv.push {L : List Ev} {k : Nat} {st : List (Nat × Bool)} (h : PairInv L k st) (hk : k < L.length) (hx : (evs L k).kind = 3 ∨ (evs L k).kind = 5) : PairInv L (k + 1) ((0, (evs L k).kind == 5) :: Ev.bump2 st) := by
  obtain ⟨op, op', ho, ha, hs⟩ := after_some h hk
  have hl : ¬ Ev.leaf (evs L k).kind = true := by rcases hx with e | e <;> rw [e] <;> decide
  have hc : ¬ Ev.closes (evs L k).kind = true := by rcases hx with e | e <;> rw [e] <;> decide
  have hn : Ev.opens (evs L k).kind = true := by rcases hx with e | e <;> rw [e] <;> rfl
  rw [Ev.after.eq_def] at ha
  simp only [if_neg hl, if_pos hn, Option.some.injEq] at ha
  subst ha
  refine ⟨fun hlt => ⟨_, ?_, hs hlt⟩, ?_, ?_⟩
  · simp only [List.length_cons, ho]; cases st with
    | nil => rfl
    | cons p st => obtain ⟨n, m⟩ := p; rfl
  · rw [h.res, kinds_drop hk, Ev.paired.eq_def]
    simp only [if_neg hc, if_pos hn]
  · intro q hq
    rcases List.mem_cons.1 hq with rfl | hq
    · exact Nat.zero_le _
    · cases st with
      | nil => cases hq
      | cons p st =>
        obtain ⟨n, m⟩ := p
        rcases List.mem_cons.1 hq with rfl | hq
        · exact Nat.succ_le_succ (h.small (n, m) (by simp))
        · exact Nat.le_succ_of_le (h.small _ (List.mem_cons_of_mem _ hq))
theorem PairInv.open {L : List Ev} {k : Nat} {st : List (Nat × Bool)} (h : PairInv L k st) (hk : k < L.length) (hx : (evs L k).kind = 4 ∨ (evs L k).kind = 6) : st ≠ [] := by
  obtain ⟨op, op', ho, ha, _⟩ := after_some h hk
  have hl : ¬ Ev.leaf (evs L k).kind = true := by rcases hx with e | e <;> rw [e] <;> decide
  have hc : Ev.closes (evs L k).kind = true := by rcases hx with e | e <;> rw [e] <;> rfl
  have hn : ¬ Ev.opens (evs L k).kind = true := by rcases hx with e | e <;> rw [e] <;> decide
  rw [Ev.after.eq_def] at ha
  simp only [if_neg hl, if_neg hn, if_pos hc] at ha
  rintro rfl
  cases op with
  | nil => cases ha
  | cons c op => simp at ho
theorem PairInv.pop {L : List Ev} {k : Nat} {p : Nat × Bool} {st : List (Nat × Bool)} (h : PairInv L k (p :: st)) (hk : k < L.length) (hx : (evs L k).kind = 4 ∨ (evs L k).kind = 6) (hp : (p.2 && p.1 % 2 == 1) = false) : PairInv L (k + 1) st := by
  obtain ⟨op, op', ho, ha, hs⟩ := after_some h hk
  have hl : ¬ Ev.leaf (evs L k).kind = true := by rcases hx with e | e <;> rw [e] <;> decide
  have hc : Ev.closes (evs L k).kind = true := by rcases hx with e | e <;> rw [e] <;> rfl
  have hn : ¬ Ev.opens (evs L k).kind = true := by rcases hx with e | e <;> rw [e] <;> decide
  rw [Ev.after.eq_def] at ha
  simp only [if_neg hl, if_neg hn, if_pos hc] at ha
  refine ⟨fun hlt => ⟨op', ?_, hs hlt⟩, ?_, fun q hq => Nat.le_succ_of_le (h.small _ (List.mem_cons_of_mem _ hq))⟩
  · cases op with
    | nil => cases ha
    | cons c op =>
      simp only at ha
      split at ha
      · cases ha; simpa using ho
      · cases ha
  · obtain ⟨n, m⟩ := p
    rw [h.res, kinds_drop hk, Ev.paired.eq_def]
    simp only [if_pos hc]
    simp only at hp
    rw [hp]; rfl
theorem PairInv.bad {L : List Ev} {k : Nat} {p : Nat × Bool} {st : List (Nat × Bool)} (h : PairInv L k (p :: st)) (hk : k < L.length) (hx : (evs L k).kind = 4 ∨ (evs L k).kind = 6) (hp : (p.2 && p.1 % 2 == 1) = true) : Ev.paired (kinds L) [] = false := by
  have hc : Ev.closes (evs L k).kind = true := by rcases hx with e | e <;> rw [e] <;> rfl
  obtain ⟨n, m⟩ := p
  rw [h.res, kinds_drop hk, Ev.paired.eq_def]
  simp only [if_pos hc]
  simp only at hp
  rw [hp]; rfl
theorem PairInv.over {L : List Ev} {k : Nat} {st : List (Nat × Bool)} (h : PairInv L k st) (hk : L.length ≤ k) : Ev.paired (kinds L) [] = true := by
  rw [h.res, kinds_end hk, Ev.paired.eq_def]
theorem Tryz.infoInt : (Tryz.prog.info? 3).map (fun i => (i.zero, i.size, i.bytes)) = some (some (.int .i64 0), 1, 8) := by kernel_rfl
theorem Tryz.infoBool : (Tryz.prog.info? 4).map (fun i => (i.zero, i.size, i.bytes)) = some (some (.bool false), 1, 1) := by kernel_rfl
theorem bool_no' {b : Bool} : b = false ↔ ¬ b = true := by cases b <;> simp
def cntV (p : Nat × Bool) : Value := .int .i64 (p.1 : Int)
def mapV (p : Nat × Bool) : Value := .bool p.2
theorem own_nil {w : World} {B : Nat} {e : TypeId} {s : Nat} {v : Value} {xs : List Value} (h : w.ownsRow B e s v 0 xs) : ∃ A c, v = .slice A 0 c := by
  rcases h.2 with ⟨rfl, _⟩ | ⟨g, cap, cur, rfl, _⟩
  · exact ⟨_, _, rfl⟩
  · exact ⟨_, _, rfl⟩
theorem own_cons {w : World} {B : Nat} {e : TypeId} {s n : Nat} {v : Value} {xs : List Value} (h : w.ownsRow B e s v (n + 1) xs) : ∃ g cap, v = .slice (some ⟨g, 0, none⟩) (n + 1) cap ∧ B ≤ g ∧ g < w.heap.size ∧ n + 1 ≤ cap := by
  rcases h.2 with ⟨_, h0⟩ | ⟨g, cap, cur, rfl, hb, hg, hc, _⟩
  · omega
  · exact ⟨_, _, rfl, hb, (Array.getElem?_eq_some_iff.1 hg).1, hc⟩
theorem other_grown {w w1 : World} {B : Nat} {e e' : TypeId} {s s' n n' : Nat} {v v' : Value} {xs xs' : List Value} {o : Obj} (hM : w.ownsRow B e' s' v' n' xs') (hC : w.ownsRow B e s v n xs) (hg : (w.alloc o).grownBy w1 v.ownBlock) (hne : e' ≠ e) : w1.ownsRow B e' s' v' n' xs' :=
  (hM.alloc o).kept hg (own_ne (hM.alloc o) (hC.alloc o) hne)
theorem grown_below {w0 w w1 : World} {B : Nat} {e : TypeId} {s n : Nat} {v : Value} {xs : List Value} {o : Obj} (hb : Below B w0 w) (hC : w.ownsRow B e s v n xs) (hg : (w.alloc o).grownBy w1 v.ownBlock) (hs : B ≤ w.heap.size) : Below B w0 w1 :=
  Below.grown (hb.alloc hs o) hg (by simp; omega) fun _ hj => ((hC.alloc o).lt _ hj).1
set_option maxRecDepth 100000 in
set_option maxHeartbeats 2000000 in
theorem RPaired_any (A : Option Addr) (c : Nat) (L : List Ev) (w : World) (hl : L.length ≤ 1500000) (hE : EvsAt w w.heap.size A L) (hs : Ev.scan2 (kinds L) [] = some L.length) :
    Calls Tryz.prog 40 #[.slice A L.length c] w fun e w' => e = .returned (.bool (Ev.paired (kinds L) [])) ∧ Below w.heap.size w w' := by
  obtain ⟨i0, hi, hz0, hz1, hz2⟩ := info_parts Tryz.infoInt
  obtain ⟨j0, hj, hy0, hy1, hy2⟩ := info_parts Tryz.infoBool
  have HS := Lib.hid hs
  clear hs
  go_enter Tryz.func40, Tryz.ntmps40
  go_wp2
  go_loopw [3, 4, 5] (fun cv mv i wr => ∃ (k : Nat) (st : List (Nat × Bool)), k ≤ L.length ∧ i = .int .i64 k ∧ wr.ownsRow w.heap.size 3 1 cv st.length (flat1 cntV st) ∧ wr.ownsRow w.heap.size 4 1 mv st.length (flat1 mapV st) ∧ Below w.heap.size w wr ∧ st.length ≤ k ∧ PairInv L k st) (fun _ _ i _ => L.length - (intOf i).toNat)
  case atStart => exact ⟨0, [], Nat.zero_le _, rfl, World.ownsRow_nil _ _ _ _, World.ownsRow_nil _ _ _ _, Below.refl _ _, by simp, PairInv.start HS.out⟩
  case round =>
    obtain ⟨k, st, hk, rfl, hown, hownM, hbl, hst, HI⟩ := hrel
    by_cases hlt : k < L.length
    · obtain ⟨b, off, rfl, hbw, hc⟩ := hE (by omega)
      have hlt' : (k : Int) < (L.length : Int) := by omega
      have c0 := ((hc k hlt).below hbl hbw).c0
      have CW := Lib.hid (hc k hlt).c0
      have hsz := hbl.size
      have HB := HI.kind hlt
      clear hc
      obtain ⟨x, hx⟩ : ∃ x, (evs L k).kind = x := ⟨_, rfl⟩
      rw [hx] at c0 HB CW
      have hx6 : (x = 7 ∨ x = 8) ∨ (x = 3 ∨ x = 5) ∨ (x = 4 ∨ x = 6) := by omega
      clear HB
      rcases hx6 with h7 | h3 | h4
      · have HSM := HI.small
        have HI2 := HI.bump hlt (hx ▸ h7)
        clear HI
        have HI3 := Lib.hid HI2
        clear HI2 hx
        cases st with
        | nil =>
          obtain ⟨a1, c1, rfl⟩ := own_nil hown
          simp only [List.length_nil] at hown hownM hst ⊢
          rcases h7 with rfl | rfl
          all_goals
            go_wp2
            go_roundw
            case rel => exact ⟨k + 1, [], by omega, by go_num, hown, hownM, hbl, by simp, HI3.out⟩
            case measure => simp [intOf]; omega
        | cons p r =>
          obtain ⟨pn, pm⟩ := p
          have hpn : pn ≤ k := HSM (pn, pm) (by simp)
          obtain ⟨g, cap, rfl, hgb, hglt, hcap⟩ := own_cons hown
          simp only [List.length_cons] at hown hownM hst ⊢
          have ct0 := (hown.cellAt r.length (by omega)).trans (flat1_top cntV (pn, pm) r)
          simp only [cntV] at ct0
          have fz0 := hown.frozenAt r.length
          have hix1 : (r.length : Int) < (r.length : Int) + 1 := by omega
          have hix3 : r.length < r.length + 1 := by omega
          have hix0 : (0 : Int) ≤ (r.length : Int) := by omega
          have hwr : IntKind.i64.wrap (r.length : Int) = (r.length : Int) := by rw [IntKind.wrap_i64]; omega
          have hpos : (0 : Int) < (r.length : Int) + 1 := by omega
          have hown2 : World.ownsRow _ _ _ _ _ _ (flat1 cntV ((pn + 1, pm) :: r)) := flat1_set hown (q := (pn + 1, pm)) (u := .int .i64 ((pn : Int) + 1)) rfl
          have hownM2 := ownsRow_setCell_other hownM (a := ⟨g, r.length, none⟩) ((own_ne hownM hown (by decide)).elim (fun h => by rw [h]; simp) (fun h => h)) (.int .i64 ((pn : Int) + 1))
          have hbl2 := hbl.setCell (p := ⟨g, r.length, none⟩) hgb (.int .i64 ((pn : Int) + 1))
          rcases h7 with rfl | rfl
          all_goals
            go_wp2
            go_roundw
            case rel => exact ⟨k + 1, (pn + 1, pm) :: r, by omega, by go_num, hown2, hownM2, hbl2, by simp; omega, HI3.out⟩
            case measure => simp [intOf]; omega
      · have HSM := HI.small
        have HI2 := HI.push hlt (hx ▸ h3)
        clear HI
        have HI3 := Lib.hid HI2
        clear HI2
        rw [hx] at HI3
        clear hx
        cases st with
        | nil =>
          obtain ⟨a1, c1, rfl⟩ := own_nil hown
          simp only [List.length_nil] at hown hownM hst ⊢
          rcases h3 with rfl | rfl
          all_goals
            go_wp2_with (first
              | (at_builtin; refine wpList_append_own _ rfl _ _ 26 rfl w.heap.size 3 i0 (.int .i64 0) 1 8 Tryz.underlying26 hi hz0 hz1 hz2 rfl (by decide) _ _ _ rfl (hown.alloc _) ⟨wr.heap.size, 0, none⟩ 1 1 [_] rfl rfl (cell_one_new _ _ _) (fun x hx => by simp at hx; subst hx; rfl) (by unfold maxLen; omega) (by omega) (by first | omega | (simp; omega)) ?_; intro v1 w1 hown1 hgrow1 hnil1; have hownM1 := other_grown hownM hown hgrow1 (by decide); have hb1 := grown_below hbl hown hgrow1 (by first | omega | (simp; omega)); clear hgrow1 hnil1; have hsz1 := hb1.size; have d0 := (hb1.cell (p := ⟨b, off + k * 6, none⟩) hbw).trans CW.out)
              | (at_builtin; refine wpList_append_own _ rfl _ _ 122 rfl w.heap.size 4 j0 (.bool false) 1 1 Tryz.underlying122 hj hy0 hy1 hy2 rfl (by decide) _ _ _ rfl (hownM1.alloc _) ⟨w1.heap.size, 0, none⟩ 1 1 [_] rfl rfl (cell_one_new _ _ _) (fun x hx => by simp at hx; subst hx; rfl) (by unfold maxLen; omega) (by omega) (by first | omega | (simp; omega)) ?_; intro v2 w2 hownM3 hgrow2 hnil2; have hown3 := other_grown hown1 hownM1 hgrow2 (by decide); have hb2 := grown_below hb1 hownM1 hgrow2 (by omega); clear hgrow2 hnil2))
            go_roundw
            case rel => exact ⟨k + 1, (0, _) :: [], by omega, by go_num, hown3, hownM3, hb2, by simp, HI3.out⟩
            case measure => simp [intOf]; omega
        | cons p r =>
          obtain ⟨pn, pm⟩ := p
          have hpn : pn ≤ k := HSM (pn, pm) (by simp)
          obtain ⟨g, cap, rfl, hgb, hglt, hcap⟩ := own_cons hown
          simp only [List.length_cons] at hown hownM hst ⊢
          have ct0 := (hown.cellAt r.length (by omega)).trans (flat1_top cntV (pn, pm) r)
          simp only [cntV] at ct0
          have fz0 := hown.frozenAt r.length
          have hix1 : (r.length : Int) < (r.length : Int) + 1 := by omega
          have hix3 : r.length < r.length + 1 := by omega
          have hix0 : (0 : Int) ≤ (r.length : Int) := by omega
          have hwr : IntKind.i64.wrap (r.length : Int) = (r.length : Int) := by rw [IntKind.wrap_i64]; omega
          have hpos : (0 : Int) < (r.length : Int) + 1 := by omega
          have hown2 : World.ownsRow _ _ _ _ _ _ (flat1 cntV ((pn + 1, pm) :: r)) := flat1_set hown (q := (pn + 1, pm)) (u := .int .i64 ((pn : Int) + 1)) rfl
          have hownM2 := ownsRow_setCell_other hownM (a := ⟨g, r.length, none⟩) ((own_ne hownM hown (by decide)).elim (fun h => by rw [h]; simp) (fun h => h)) (.int .i64 ((pn : Int) + 1))
          have hbl2 := hbl.setCell (p := ⟨g, r.length, none⟩) hgb (.int .i64 ((pn : Int) + 1))
          have hWs : (wr.setCell ⟨g, r.length, none⟩ (.int .i64 ((pn : Int) + 1))).heap.size = wr.heap.size := by simp
          clear hown hownM HSM
          rcases h3 with rfl | rfl
          all_goals
            go_wp2_with (first
              | (at_builtin; refine wpList_append_own _ rfl _ _ 26 rfl w.heap.size 3 i0 (.int .i64 0) 1 8 Tryz.underlying26 hi hz0 hz1 hz2 rfl (by decide) _ _ _ rfl (hown2.alloc _) ⟨wr.heap.size, 0, none⟩ 1 1 [_] rfl rfl (cell_one_at _ _ _ (by simp)) (fun x hx => by simp at hx; subst hx; rfl) (by unfold maxLen; omega) (by omega) (by first | omega | (simp; omega)) ?_; intro v1 w1 hown1 hgrow1 hnil1; have hownM1 := other_grown hownM2 hown2 hgrow1 (by decide); have hb1 := grown_below hbl2 hown2 hgrow1 (by first | omega | (simp; omega)); clear hgrow1 hnil1; have hsz1 := hb1.size; have d0 := (hb1.cell (p := ⟨b, off + k * 6, none⟩) hbw).trans CW.out)
              | (at_builtin; refine wpList_append_own _ rfl _ _ 122 rfl w.heap.size 4 j0 (.bool false) 1 1 Tryz.underlying122 hj hy0 hy1 hy2 rfl (by decide) _ _ _ rfl (hownM1.alloc _) ⟨w1.heap.size, 0, none⟩ 1 1 [_] rfl rfl (cell_one_new _ _ _) (fun x hx => by simp at hx; subst hx; rfl) (by unfold maxLen; omega) (by omega) (by first | omega | (simp; omega)) ?_; intro v2 w2 hownM3 hgrow2 hnil2; have hown3 := other_grown hown1 hownM1 hgrow2 (by decide); have hb2 := grown_below hb1 hownM1 hgrow2 (by omega); clear hgrow2 hnil2))
            go_roundw
            case rel => exact ⟨k + 1, (0, _) :: (pn + 1, pm) :: r, by omega, by go_num, hown3, hownM3, hb2, by simp; omega, HI3.out⟩
            case measure => simp [intOf]; omega
      · cases st with
        | nil => exact (HI.open hlt (hx ▸ h4) rfl).elim
        | cons p r =>
          obtain ⟨pn, pm⟩ := p
          have hpn : pn ≤ k := HI.small (pn, pm) (by simp)
          obtain ⟨g, cap, rfl, hgb, hglt, hcap⟩ := own_cons hown
          obtain ⟨g2, cap2, rfl, hgb2, hglt2, hcap2⟩ := own_cons hownM
          simp only [List.length_cons] at hown hownM hst ⊢
          have ct0 := (hown.cellAt r.length (by omega)).trans (flat1_top cntV (pn, pm) r)
          have cm0 := (hownM.cellAt r.length (by omega)).trans (flat1_top mapV (pn, pm) r)
          simp only [cntV] at ct0
          simp only [mapV] at cm0
          have hix1 : (r.length : Int) < (r.length : Int) + 1 := by omega
          have hix3 : r.length < r.length + 1 := by omega
          have hix0 : (0 : Int) ≤ (r.length : Int) := by omega
          have hwr : IntKind.i64.wrap (r.length : Int) = (r.length : Int) := by rw [IntKind.wrap_i64]; omega
          have hownP := flat1_pop hown
          have hownMP := flat1_pop hownM
          by_cases hb : (pm && pn % 2 == 1) = true
          · have HX := Lib.hid (HI.bad hlt (hx ▸ h4) hb)
            have hpm : pm = true := by cases pm <;> simp_all
            subst hpm
            have hpar : ((pn : Int) % 2 == 1) = true := by simp at hb ⊢; omega
            have hpar2 : (pn : Int) % 2 = 1 := by simpa using hpar
            clear HI hx hb
            rcases h4 with rfl | rfl
            all_goals
              go_wp2
              go_ret
              exact ⟨ret_bool HX.out.symm, hbl⟩
          · have hb' := bool_no'.2 hb
            have HX := Lib.hid (HI.pop hlt (hx ▸ h4) hb')
            cases pm with
            | false =>
              clear HI hx hb hb'
              rcases h4 with rfl | rfl
              all_goals
                go_wp2
                go_roundw
                case rel => exact ⟨k + 1, r, by omega, by go_num, hownP, hownMP, hbl, by omega, HX.out⟩
                case measure => simp [intOf]; omega
            | true =>
              have hpar : ((pn : Int) % 2 == 1) = false := by simp at hb ⊢; omega
              have hpar2 : ¬ (pn : Int) % 2 = 1 := by simpa using hpar
              clear HI hx hb hb'
              rcases h4 with rfl | rfl
              all_goals
                go_wp2
                go_roundw
                case rel => exact ⟨k + 1, r, by omega, by go_num, hownP, hownMP, hbl, by omega, HX.out⟩
                case measure => simp [intOf]; omega
    · have e := HI.over (by omega)
      go_wp2
      go_ret
      exact ⟨ret_bool e.symm, hbl⟩
end Go.Proofs.YtiblamapjekdeaaGreat
