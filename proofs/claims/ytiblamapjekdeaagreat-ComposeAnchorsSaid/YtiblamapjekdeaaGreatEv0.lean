/- Rows of kinds of events as plain lists: the two scans are one; what stands behind a node; rows of documents; depth. No condition. -/
import Derived.Test.YtiblamapjekdeaaGreatAux
namespace Go.Proofs.YtiblamapjekdeaaGreat
namespace Ev
def opens (k : Int) : Bool := k == 3 || k == 5
def closes (k : Int) : Bool := k == 4 || k == 6
def leaf (k : Int) : Bool := k == 7 || k == 8
def bump : List (Int × Nat) → List (Int × Nat)
  | [] => []
  | (k, n) :: st => (k, n + 1) :: st
/-- The program's scan: how many events there are up to the one that closes all that is open. -/
def scan1 : List Int → List (Int × Nat) → Option Nat
  | [], _ => none
  | x :: r, st =>
    if opens x then (scan1 r ((x, 0) :: st)).map (· + 1)
    else if leaf x then (scan1 r (bump st)).map (· + 1)
    else match st with
      | [] => none
      | (k, n) :: st' =>
        if x = k + 1 ∧ (k = 3 ∨ n % 2 = 0) then (match st' with | [] => some 1 | p :: s => (scan1 r (bump (p :: s))).map (· + 1))
        else none
/-- The reference's step on the stack of what must close. -/
def after (x : Int) (op : List Int) : Option (List Int) :=
  if leaf x then some op
  else if opens x then some ((x + 1) :: op)
  else if closes x then (match op with | [] => none | c :: op' => if c = x then some op' else none)
  else none
def scan2 : List Int → List Int → Option Nat
  | [], _ => none
  | x :: r, op => match after x op with
    | none => none
    | some [] => some 1
    | some (c :: op') => (scan2 r (c :: op')).map (· + 1)
def bump2 : List (Nat × Bool) → List (Nat × Bool)
  | [] => []
  | (n, m) :: st => (n + 1, m) :: st
def paired : List Int → List (Nat × Bool) → Bool
  | [], _ => true
  | x :: r, st =>
    if closes x then (match st with
      | [] => true
      | (n, m) :: st' => if m && n % 2 == 1 then false else paired r st')
    else if opens x then paired r ((0, x == 5) :: bump2 st)
    else paired r (bump2 st)
/-- The reference's counts, of the program's: of what is open but for the innermost one they are one more. -/
def under : List (Int × Nat) → List (Nat × Bool)
  | [] => []
  | (k, n) :: st => (n + 1, k == 5) :: under st
def pst : List (Int × Nat) → List (Nat × Bool)
  | [] => []
  | (k, n) :: st => (n, k == 5) :: under st
theorem bump2_pst (st : List (Int × Nat)) : bump2 (pst st) = under st := by
  cases st with
  | nil => rfl
  | cons p st => obtain ⟨k, n⟩ := p; rfl
theorem under_bump (st : List (Int × Nat)) : under st = pst (bump st) := by
  cases st with
  | nil => rfl
  | cons p st => obtain ⟨k, n⟩ := p; rfl
def Good (st : List (Int × Nat)) : Prop := ∀ p ∈ st, p.1 = 3 ∨ p.1 = 5
theorem Good.bump {st : List (Int × Nat)} (h : Good st) : Good (bump st) := by
  cases st with
  | nil => exact h
  | cons p st =>
    intro q hq
    simp only [Ev.bump, List.mem_cons] at hq
    rcases hq with rfl | hq
    · exact h p (by simp)
    · exact h q (by simp [hq])
def ops (st : List (Int × Nat)) : List Int := st.map (·.1 + 1)
theorem ops_bump (st : List (Int × Nat)) : ops (bump st) = ops st := by
  cases st with
  | nil => rfl
  | cons p st => rfl
def both (r : List Int) (st : List (Int × Nat)) : Option Nat :=
  match scan2 r (ops st) with
  | none => none
  | some m => if paired (r.take m) (pst st) then some m else none
theorem both_step {x : Int} {r : List Int} {st st' : List (Int × Nat)} (hne : st' ≠ []) (ha : after x (ops st) = some (ops st')) (hp : ∀ t, paired (x :: t) (pst st) = paired t (pst st')) :
    both (x :: r) st = (both r st').map (· + 1) := by
  unfold both
  rw [show scan2 (x :: r) (ops st) = (scan2 r (ops st')).map (· + 1) from by
    simp only [scan2, ha]
    match st', hne with
    | p :: s, _ => rfl]
  cases h : scan2 r (ops st') with
  | none => rfl
  | some m =>
    simp only [Option.map_some, List.take_succ_cons, hp]
    split <;> rfl
theorem scan_both (r : List Int) : ∀ st, st ≠ [] → Good st → scan1 r st = both r st := by
  induction r with
  | nil => intro st _ _; rfl
  | cons x r ih =>
    intro st hne hg
    by_cases ho : opens x = true
    · have hx : x = 3 ∨ x = 5 := by simpa [opens] using ho
      have hl : leaf x = false := by rcases hx with rfl | rfl <;> rfl
      have hc : closes x = false := by rcases hx with rfl | rfl <;> rfl
      rw [both_step (st' := (x, 0) :: st) (by simp) (by simp [after, hl, ho, ops]) (fun t => by
        simp only [paired, hc, ho, bump2_pst, Bool.false_eq_true, if_false, if_true]; rfl)]
      rw [← ih _ (by simp) (fun p hp => by rcases List.mem_cons.1 hp with rfl | hp; exact hx; exact hg p hp)]
      simp [scan1, ho]
    · by_cases hl : leaf x = true
      · have hc : closes x = false := by
          have : x = 7 ∨ x = 8 := by simpa [leaf] using hl
          rcases this with rfl | rfl <;> rfl
        have hb : bump st ≠ [] := by cases st with | nil => exact absurd rfl hne | cons p s => simp [bump]
        rw [both_step (st' := bump st) hb (by simp [after, hl, ops_bump]) (fun t => by
          simp only [paired, hc, Bool.not_eq_true _ ▸ ho, Bool.false_eq_true, if_false, bump2_pst, under_bump])]
        rw [← ih _ hb hg.bump]
        simp [scan1, ho, hl]
      · match st, hne, hg with
        | (k, n) :: st', _, hg =>
          have hk : k = 3 ∨ k = 5 := hg (k, n) (by simp)
          simp only [scan1, ho, hl, Bool.false_eq_true, if_false]
          by_cases hx : x = k + 1
          · have hc : closes x = true := by rcases hk with rfl | rfl <;> subst hx <;> rfl
            by_cases hpar : k = 3 ∨ n % 2 = 0
            · rw [if_pos ⟨hx, hpar⟩]
              have hm : ((k == 5) && n % 2 == 1) = false := by
                rcases hk with rfl | rfl
                · rfl
                · rcases hpar with h | h
                  · omega
                  · simp [h]
              match st' with
              | [] =>
                unfold both
                simp [scan2, after, hl, ho, hc, ops, hx.symm, paired, pst, hm]
              | p :: s =>
                have hg' : Good (p :: s) := fun q hq => hg q (by simp [List.mem_cons.1 hq])
                rw [both_step (st' := bump (p :: s)) (by obtain ⟨a, b⟩ := p; simp [bump]) (by rw [ops_bump]; simp [after, hl, ho, hc, ops, hx.symm]) (fun t => by
                  simp only [paired, hc, if_true, pst, hm, Bool.false_eq_true, if_false]
                  rw [under_bump]; rfl)]
                rw [← ih _ (by obtain ⟨a, b⟩ := p; simp [bump]) hg'.bump]
            · rw [if_neg (fun h => hpar h.2)]
              have h5 : k = 5 := by rcases hk with h | h; exact absurd (.inl h) hpar; exact h
              have hn : n % 2 = 1 := by omega
              unfold both
              cases hs : scan2 (x :: r) (ops ((k, n) :: st')) with
              | none => rfl
              | some m =>
                match m, hs with
                | 0, hs =>
                  exfalso
                  simp only [scan2] at hs
                  split at hs
                  · cases hs
                  · cases hs
                  · simp at hs
                | m + 1, _ => simp [paired, hc, pst, h5, hn]
          · rw [if_neg (fun h => hx h.1)]
            unfold both
            have : after x (ops ((k, n) :: st')) = none := by
              have hx' : ¬ k + 1 = x := fun h => hx h.symm
              simp [after, hl, ho, ops, hx']
            simp [scan2, this]
end Ev
namespace Ev
/-- The place behind a node that begins at the list's head: so many events; none: no node begins there. -/
def node1 (l : List Int) : Option Nat :=
  match l with
  | [] => none
  | x :: r => if leaf x then some 1 else if opens x then (scan1 r [(x, 0)]).map (· + 1) else none
def node2 (l : List Int) : Option Nat :=
  match scan2 l [] with
  | none => none
  | some m => if paired (l.take m) [] then some m else none
theorem node_eq (l : List Int) : node1 l = node2 l := by
  match l with
  | [] => rfl
  | x :: r =>
    unfold node1 node2
    by_cases hl : leaf x = true
    · have h78 : x = 7 ∨ x = 8 := by simpa [leaf] using hl
      have hc : closes x = false := by rcases h78 with rfl | rfl <;> rfl
      have ho : opens x = false := by rcases h78 with rfl | rfl <;> rfl
      simp [hl, scan2, after, paired, hc, ho]
    · by_cases ho : opens x = true
      · have hx : x = 3 ∨ x = 5 := by simpa [opens] using ho
        have hc : closes x = false := by rcases hx with rfl | rfl <;> rfl
        have hp : ∀ t, paired (x :: t) [] = paired t (pst [(x, 0)]) := fun t => by simp [paired, hc, ho, bump2, pst, under]
        have hs : scan2 (x :: r) [] = (scan2 r (ops [(x, 0)])).map (· + 1) := by simp [scan2, after, hl, ho, ops]
        simp only [hl, ho, Bool.false_eq_true, if_false, if_true]
        rw [scan_both r [(x, 0)] (by simp) (fun p hp => by rcases List.mem_cons.1 hp with rfl | hp; exact hx; cases hp), hs]
        unfold both
        cases h : scan2 r (ops [(x, 0)]) with
        | none => rfl
        | some m =>
          simp only [Option.map_some, List.take_succ_cons, hp]
          split <;> rfl
      · have : after x [] = none := by
          simp only [after, hl, ho, Bool.false_eq_true, if_false]
          split <;> rfl
        simp [hl, ho, scan2, this]
theorem scan2_le (l : List Int) : ∀ op m, scan2 l op = some m → 1 ≤ m ∧ m ≤ l.length := by
  induction l with
  | nil => intro op m h; cases h
  | cons x r ih =>
    intro op m h
    simp only [scan2] at h
    split at h
    · cases h
    · cases h; simp
    · rw [Option.map_eq_some_iff] at h
      obtain ⟨k, hk, rfl⟩ := h
      have := ih _ _ hk
      simp; omega
/-- A scan with more open below goes as the scan alone. -/
theorem scan1_more (r : List Int) : ∀ (st : List (Int × Nat)) (below : List (Int × Nat)) (m : Nat), st ≠ [] → scan1 r st = some m → below ≠ [] →
    ∀ t, scan1 (r.take m ++ t) (st ++ below) = (scan1 t (bump below)).map (· + m) := by
  induction r with
  | nil => intro st below m _ h; cases h
  | cons x r ih =>
    intro st below m hne h hb t
    by_cases ho : opens x = true
    · simp only [scan1, ho, if_true, Option.map_eq_some_iff] at h
      obtain ⟨k, hk, rfl⟩ := h
      simp only [List.take_succ_cons, List.cons_append, scan1, ho, if_true]
      rw [← List.cons_append, ih _ below k (by simp) hk hb t, Option.map_map]
      rfl
    · by_cases hl : leaf x = true
      · simp only [scan1, ho, hl, if_true, if_false, Bool.false_eq_true, Option.map_eq_some_iff] at h
        obtain ⟨k, hk, rfl⟩ := h
        have hne' : bump st ≠ [] := by cases st with | nil => exact absurd rfl hne | cons p s => simp [bump]
        have hap : bump (st ++ below) = bump st ++ below := by cases st with | nil => exact absurd rfl hne | cons p s => rfl
        simp only [List.take_succ_cons, List.cons_append, scan1, ho, hl, if_true, if_false, Bool.false_eq_true]
        rw [hap, ih _ below k hne' hk hb t, Option.map_map]
        rfl
      · match st, hne with
        | (k, n) :: st', _ =>
          simp only [scan1, ho, hl, if_false, Bool.false_eq_true] at h
          split at h
          · rename_i hc
            match st', h with
            | [], h =>
              cases h
              simp only [List.take_succ_cons, List.take_zero, List.cons_append, List.nil_append, scan1, ho, hl, if_false, Bool.false_eq_true, if_pos hc]
              match below, hb with
              | q :: s, _ => rfl
            | p :: s, h =>
              simp only [Option.map_eq_some_iff] at h
              obtain ⟨j, hj, rfl⟩ := h
              simp only [List.take_succ_cons, List.cons_append, scan1, ho, hl, if_false, Bool.false_eq_true, if_pos hc]
              have hap : bump (p :: (s ++ below)) = bump (p :: s) ++ below := rfl
              rw [hap, ih _ below j (by obtain ⟨a, b⟩ := p; simp [bump]) hj hb t, Option.map_map]
              rfl
          · cases h
end Ev
namespace Ev
/-- A scan that has ended looks no further. -/
theorem scan1_self {r : List Int} : ∀ {st : List (Int × Nat)} {m : Nat}, scan1 r st = some m → ∀ {t : List Int}, scan1 (r.take m ++ t) st = some m := by
  induction r with
  | nil => intro st m h; cases h
  | cons x r ih =>
    intro st m h t
    by_cases ho : opens x = true
    · simp only [scan1, ho, if_true, Option.map_eq_some_iff] at h
      obtain ⟨k, hk, rfl⟩ := h
      simp only [List.take_succ_cons, List.cons_append, scan1, ho, if_true]
      rw [ih hk]; rfl
    · by_cases hl : leaf x = true
      · simp only [scan1, ho, hl, if_true, if_false, Bool.false_eq_true, Option.map_eq_some_iff] at h
        obtain ⟨k, hk, rfl⟩ := h
        simp only [List.take_succ_cons, List.cons_append, scan1, ho, hl, if_true, if_false, Bool.false_eq_true]
        rw [ih hk]; rfl
      · match st with
        | [] => simp [scan1, ho, hl] at h
        | (k, n) :: st' =>
          simp only [scan1, ho, hl, if_false, Bool.false_eq_true] at h
          split at h
          · rename_i hc
            match st', h with
            | [], h =>
              cases h
              simp only [List.take_succ_cons, List.take_zero, List.cons_append, List.nil_append, scan1, ho, hl, if_false, Bool.false_eq_true, if_pos hc]
            | p :: s, h =>
              simp only [Option.map_eq_some_iff] at h
              obtain ⟨j, hj, rfl⟩ := h
              simp only [List.take_succ_cons, List.cons_append, scan1, ho, hl, if_false, Bool.false_eq_true, if_pos hc]
              rw [ih hj]; rfl
          · cases h
/-- A row of documents: each its mark, a node, its end. -/
def docsF : Nat → List Int → Bool
  | _, [] => true
  | 0, _ :: _ => false
  | f + 1, x :: r => x == 1 && match node1 r with
    | none => false
    | some m => match r.drop m with
      | [] => false
      | y :: r' => y == 2 && docsF f r'
def docs (l : List Int) : Bool := docsF l.length l
theorem node1_le {l : List Int} {m : Nat} (h : node1 l = some m) : 1 ≤ m ∧ m ≤ l.length := by
  rw [node_eq] at h
  unfold node2 at h
  split at h
  · cases h
  · rename_i k hk
    split at h
    · cases h; exact scan2_le _ _ _ hk
    · cases h
theorem docsF_more : ∀ (f : Nat) (l : List Int), l.length ≤ f → docsF f l = docsF l.length l := by
  intro f
  induction f using Nat.strongRecOn with
  | ind f ih =>
    intro l hl
    match l, f, hl with
    | [], f, _ => cases f <;> rfl
    | x :: r, f + 1, hl =>
      simp only [List.length_cons, docsF]
      congr 1
      cases hn : node1 r with
      | none => rfl
      | some m =>
        have hm := node1_le hn
        cases hd : r.drop m with
        | nil => simp only [hd]
        | cons y r' =>
          have hlen : r'.length < r.length := by
            have := congrArg List.length hd
            simp at this; omega
          simp only [hd]
          simp only [List.length_cons] at hl
          rw [ih f (by omega) r' (by omega), ih r.length (by omega) r' (by omega)]
theorem docs_cons (x : Int) (r : List Int) : docs (x :: r) = (x == 1 && match node1 r with
    | none => false
    | some m => match r.drop m with
      | [] => false
      | y :: r' => y == 2 && docs r') := by
  unfold docs
  simp only [List.length_cons, docsF]
  congr 1
  cases hn : node1 r with
  | none => rfl
  | some m =>
    have hm := node1_le hn
    cases hd : r.drop m with
    | nil => simp only [hd]
    | cons y r' =>
      have hlen : r'.length < r.length := by
        have := congrArg List.length hd
        simp at this; omega
      simp only [hd]
      rw [docsF_more _ r' (by omega)]
theorem node1_prefix {l : List Int} {m : Nat} (h : node1 l = some m) (t : List Int) : node1 (l.take m ++ t) = some m := by
  match l, h with
  | x :: r, h =>
    unfold node1 at h
    by_cases hl : leaf x = true
    · simp only [hl, if_true, Option.some.injEq] at h
      subst h
      simp [node1, hl]
    · by_cases ho : opens x = true
      · simp only [hl, ho, if_true, if_false, Bool.false_eq_true, Option.map_eq_some_iff] at h
        obtain ⟨k, hk, rfl⟩ := h
        simp only [List.take_succ_cons, List.cons_append, node1, hl, ho, if_true, if_false, Bool.false_eq_true]
        rw [scan1_self hk]
        rfl
      · simp [hl, ho] at h
end Ev
namespace Ev
theorem docs_append : ∀ (n : Nat) (a b : List Int), a.length ≤ n → docs a = true → docs b = true → docs (a ++ b) = true := by
  intro n
  induction n using Nat.strongRecOn with
  | ind n ih =>
    intro a b hn ha hb
    match a, hn, ha with
    | [], _, _ => simpa using hb
    | x :: r, hn, ha =>
      rw [docs_cons] at ha
      cases hm : node1 r with
      | none => simp [hm] at ha
      | some m =>
        have hle := node1_le hm
        cases hd : r.drop m with
        | nil => simp [hm, hd] at ha
        | cons y r' =>
          simp only [hm, hd, Bool.and_eq_true, beq_iff_eq] at ha
          obtain ⟨rfl, rfl, hr'⟩ := ha
          have hr : r = r.take m ++ (2 :: r') := by rw [← hd, List.take_append_drop]
          have hlen : r'.length < r.length := by
            have := congrArg List.length hd
            simp at this; omega
          have h1 : node1 (r ++ b) = some m := by
            rw [hr, List.append_assoc]
            exact node1_prefix hm _
          have h2 : (r ++ b).drop m = 2 :: (r' ++ b) := by
            rw [List.drop_append_of_le_length hle.2, hd]; rfl
          rw [List.cons_append, docs_cons]
          simp only [h1, h2, beq_self_eq_true, Bool.true_and]
          simp only [List.length_cons] at hn
          exact ih r'.length (by omega) r' b (Nat.le_refl _) hr' hb
def step (d x : Int) : Int := if opens x then d + 1 else if closes x then d - 1 else d
/-- How many stand open behind events, of d ahead of them. -/
def lev (d : Int) : List Int → Int
  | [] => d
  | x :: r => lev (step d x) r
/-- The most that ever stand open. -/
def top (d : Int) : List Int → Int
  | [] => d
  | x :: r => max d (top (step d x) r)
theorem lev_append (a b : List Int) : ∀ d, lev d (a ++ b) = lev (lev d a) b := by
  induction a with
  | nil => intro d; rfl
  | cons x a ih => intro d; exact ih _
theorem top_ge (a : List Int) : ∀ d, d ≤ top d a := by
  cases a with
  | nil => intro d; exact Int.le_refl _
  | cons x a => intro d; simp only [top]; omega
theorem top_append (a b : List Int) : ∀ d, top d (a ++ b) = max (top d a) (top (lev d a) b) := by
  induction a with
  | nil => intro d; have := top_ge b d; simp only [List.nil_append, top, lev]; omega
  | cons x a ih => intro d; simp only [List.cons_append, top, lev, ih]; omega
theorem step_add (d c x : Int) : step (d + c) x = step d x + c := by
  unfold step; split
  · omega
  · split <;> omega
theorem lev_add (a : List Int) : ∀ d c, lev (d + c) a = lev d a + c := by
  induction a with
  | nil => intro d c; rfl
  | cons x a ih => intro d c; simp only [lev, step_add, ih]
theorem top_add (a : List Int) : ∀ d c, top (d + c) a = top d a + c := by
  induction a with
  | nil => intro d c; rfl
  | cons x a ih => intro d c; simp only [top, step_add, ih]; omega
theorem top_snoc (a : List Int) (x : Int) : top 0 (a ++ [x]) = max (top 0 a) (if opens x then lev 0 a + 1 else lev 0 a) := by
  have h1 := top_append a [x] 0
  rw [h1]
  have h2 : ∀ d, lev d a ≤ top d a := by
    clear h1
    induction a with
    | nil => intro d; exact Int.le_refl _
    | cons y a ih => intro d; simp only [lev, top]; have := ih (step d y); omega
  have := h2 0
  simp only [top, step]
  split
  · omega
  · split <;> omega
theorem top_snoc' (a : List Int) (x : Int) : top 0 (a ++ [x]) = max (top 0 a) (lev 0 (a ++ [x])) := by
  rw [top_append, lev_append]
  have h2 : ∀ d, lev d a ≤ top d a := by
    induction a with
    | nil => intro d; exact Int.le_refl _
    | cons y a ih => intro d; simp only [lev, top]; have := ih (step d y); omega
  have := h2 0
  simp only [top, lev]
  omega
theorem scan1_lev (r : List Int) : ∀ (st : List (Int × Nat)) (m : Nat), st ≠ [] → Good st → scan1 r st = some m → ∀ d, lev d (r.take m) = d - st.length := by
  induction r with
  | nil => intro st m _ _ h; cases h
  | cons x r ih =>
    intro st m hne hg h d
    by_cases ho : opens x = true
    · simp only [scan1, ho, if_true, Option.map_eq_some_iff] at h
      obtain ⟨k, hk, rfl⟩ := h
      have hx : x = 3 ∨ x = 5 := by simpa [opens] using ho
      simp only [List.take_succ_cons, lev, step, ho, if_true]
      rw [ih _ k (by simp) (fun p hp => by rcases List.mem_cons.1 hp with rfl | hp; exact hx; exact hg p hp) hk]
      simp; omega
    · by_cases hl : leaf x = true
      · simp only [scan1, ho, hl, if_true, if_false, Bool.false_eq_true, Option.map_eq_some_iff] at h
        obtain ⟨k, hk, rfl⟩ := h
        have hc : closes x = false := by
          have : x = 7 ∨ x = 8 := by simpa [leaf] using hl
          rcases this with rfl | rfl <;> rfl
        have hne' : bump st ≠ [] := by cases st with | nil => exact absurd rfl hne | cons p s => simp [bump]
        have hbl : (bump st).length = st.length := by cases st with | nil => rfl | cons p s => rfl
        simp only [List.take_succ_cons, lev, step, ho, hc, if_false, Bool.false_eq_true]
        rw [ih _ k hne' hg.bump hk, hbl]
      · match st, hne, hg with
        | (k, n) :: st', _, hg =>
          have hk : k = 3 ∨ k = 5 := hg (k, n) (by simp)
          simp only [scan1, ho, hl, if_false, Bool.false_eq_true] at h
          split at h
          · rename_i hc
            have hcl : closes x = true := by rcases hk with rfl | rfl <;> (rw [hc.1]; rfl)
            match st', hg, h with
            | [], _, h =>
              cases h
              simp [lev, step, ho, hcl]
            | p :: s, hg, h =>
              simp only [Option.map_eq_some_iff] at h
              obtain ⟨j, hj, rfl⟩ := h
              have hg' : Good (p :: s) := fun q hq => hg q (by simp [List.mem_cons.1 hq])
              simp only [List.take_succ_cons, lev, step, ho, hcl, if_false, if_true, Bool.false_eq_true]
              rw [ih _ j (by obtain ⟨a, b⟩ := p; simp [bump]) hg'.bump hj]
              obtain ⟨a, b⟩ := p
              simp [bump]; omega
          · cases h
theorem node1_lev {l : List Int} {m : Nat} (h : node1 l = some m) (d : Int) : lev d (l.take m) = d := by
  match l, h with
  | x :: r, h =>
    unfold node1 at h
    by_cases hl : leaf x = true
    · simp only [hl, if_true, Option.some.injEq] at h
      subst h
      have : x = 7 ∨ x = 8 := by simpa [leaf] using hl
      rcases this with rfl | rfl <;> simp [lev, step, opens, closes]
    · by_cases ho : opens x = true
      · simp only [hl, ho, if_true, if_false, Bool.false_eq_true, Option.map_eq_some_iff] at h
        obtain ⟨k, hk, rfl⟩ := h
        have hx : x = 3 ∨ x = 5 := by simpa [opens] using ho
        simp only [List.take_succ_cons, lev, step, ho, if_true]
        rw [scan1_lev r _ k (by simp) (fun p hp => by rcases List.mem_cons.1 hp with rfl | hp; exact hx; cases hp) hk]
        simp
      · simp [hl, ho] at h
theorem docs_lev : ∀ (n : Nat) (a : List Int), a.length ≤ n → docs a = true → ∀ d, lev d a = d := by
  intro n
  induction n using Nat.strongRecOn with
  | ind n ih =>
    intro a hn ha d
    match a, hn, ha with
    | [], _, _ => rfl
    | x :: r, hn, ha =>
      rw [docs_cons] at ha
      cases hm : node1 r with
      | none => simp [hm] at ha
      | some m =>
        cases hd : r.drop m with
        | nil => simp [hm, hd] at ha
        | cons y r' =>
          simp only [hm, hd, Bool.and_eq_true, beq_iff_eq] at ha
          obtain ⟨rfl, rfl, hr'⟩ := ha
          have hr : r = r.take m ++ (2 :: r') := by rw [← hd, List.take_append_drop]
          have hlen : r'.length < r.length := by
            have := congrArg List.length hd
            simp at this; omega
          simp only [List.length_cons] at hn
          have h1 : lev d (1 :: r) = lev d r := rfl
          rw [h1, hr, lev_append, node1_lev hm]
          exact ih r'.length (by omega) r' (Nat.le_refl _) hr' d
/-- A node within what is open: passed over whole, one more there. -/
theorem scan1_node {l : List Int} {m : Nat} (h : node1 l = some m) (below : List (Int × Nat)) (hb : below ≠ []) (t : List Int) :
    scan1 (l.take m ++ t) below = (scan1 t (bump below)).map (· + m) := by
  match l, h with
  | x :: r, h =>
    unfold node1 at h
    by_cases hl : leaf x = true
    · simp only [hl, if_true, Option.some.injEq] at h
      subst h
      have ho : opens x = false := by
        have : x = 7 ∨ x = 8 := by simpa [leaf] using hl
        rcases this with rfl | rfl <;> rfl
      simp [scan1, ho, hl]
    · by_cases ho : opens x = true
      · simp only [hl, ho, if_true, if_false, Bool.false_eq_true, Option.map_eq_some_iff] at h
        obtain ⟨k, hk, rfl⟩ := h
        simp only [List.take_succ_cons, List.cons_append, scan1, ho, if_true]
        have := scan1_more r [(x, 0)] below k (by simp) hk hb t
        simp only [List.cons_append, List.nil_append] at this
        rw [this, Option.map_map]
        rfl
      · simp [hl, ho] at h
section wrap
variable {nd : List Int} (h : node1 (nd ++ [2]) = some nd.length)
include h
theorem wrap_node (k : Int) (hk : k = 3 ∨ k = 5) : node1 ([k] ++ nd ++ nd ++ [k + 1, 2]) = some (nd.length + nd.length + 2) := by
  have ho : opens k = true := by rcases hk with rfl | rfl <;> rfl
  have hl : leaf k = false := by rcases hk with rfl | rfl <;> rfl
  have ht : (nd ++ [2]).take nd.length = nd := by simp
  have h1 := scan1_node h [(k, 0)] (by simp) (nd ++ [k + 1, 2])
  have h2 := scan1_node h [(k, 1)] (by simp) [k + 1, 2]
  rw [ht] at h1 h2
  have ho' : opens (k + 1) = false := by rcases hk with rfl | rfl <;> rfl
  have hl' : leaf (k + 1) = false := by rcases hk with rfl | rfl <;> rfl
  have h3 : scan1 [k + 1, 2] [(k, 2)] = some 1 := by simp [scan1, ho', hl']
  simp only [List.append_assoc, List.cons_append, List.nil_append, node1, hl, ho, if_true, if_false, Bool.false_eq_true]
  rw [h1]
  simp only [bump]
  rw [h2]
  simp only [bump]
  rw [h3]
  simp; omega
theorem wrap_docs (k : Int) (hk : k = 3 ∨ k = 5) : docs ([1, k] ++ nd ++ nd ++ [k + 1, 2]) = true := by
  have := wrap_node h k hk
  simp only [List.append_assoc, List.cons_append, List.nil_append] at this ⊢
  rw [docs_cons]
  simp only [this, beq_self_eq_true, Bool.true_and]
  have hd : (k :: (nd ++ (nd ++ [k + 1, 2]))).drop (nd.length + nd.length + 2) = [2] := by
    rw [List.drop_succ_cons, ← List.append_assoc, List.drop_append]
    simp
  simp [hd, docs, docsF]
theorem wrap_odd : docs ([1, 5] ++ nd ++ [6, 2]) = false := by
  have ht : (nd ++ [2]).take nd.length = nd := by simp
  have h1 := scan1_node h [(5, 0)] (by simp) [6, 2]
  rw [ht] at h1
  have h3 : scan1 [6, 2] [(5, 1)] = none := by simp [scan1, opens, leaf]
  simp only [List.cons_append, List.nil_append]
  rw [docs_cons]
  have : node1 (5 :: (nd ++ [6, 2])) = none := by
    simp only [node1, leaf, opens]
    rw [h1]
    simp only [bump]
    rw [h3]
    simp
  simp [this]
theorem wrap_top (k : Int) (hk : k = 3 ∨ k = 5) : top 0 ([1, k] ++ nd ++ nd ++ [k + 1, 2]) = top 0 ([1] ++ nd ++ [2]) + 1 := by
  have ht : (nd ++ [2]).take nd.length = nd := by simp
  have hv := fun d => node1_lev h d
  rw [ht] at hv
  have e1 : top 1 nd = top 0 nd + 1 := by simpa using top_add nd 0 1
  have g0 := top_ge nd 0
  have s1 : step 0 1 = 0 := rfl
  have s2 : step 0 2 = 0 := rfl
  have sk : step 0 k = 1 := by rcases hk with rfl | rfl <;> rfl
  have sk1 : step 1 (k + 1) = 0 := by rcases hk with rfl | rfl <;> rfl
  have e2 : top 0 ([1] ++ nd ++ [2]) = top 0 nd := by
    rw [List.append_assoc, List.cons_append, List.nil_append]
    simp only [top, s1]
    rw [top_append, hv]
    simp only [top, s2]; omega
  have e3 : top 0 ([1, k] ++ nd ++ nd ++ [k + 1, 2]) = top 1 nd := by
    simp only [List.append_assoc, List.cons_append, List.nil_append, top, s1, sk]
    rw [top_append, hv, top_append, hv]
    simp only [top, sk1, s2]; omega
  rw [e2, e3, e1]
end wrap
end Ev

end Go.Proofs.YtiblamapjekdeaaGreat
