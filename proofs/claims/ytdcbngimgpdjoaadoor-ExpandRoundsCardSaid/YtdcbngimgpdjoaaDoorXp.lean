/- What a graph unfolds to: plain Lean. No condition. -/
import Derived.Test.YtdcbngimgpdjoaaDoorKn
namespace Go.Proofs.YtdcbngimgpdjoaaDoor
/-- A value for each node out of those of its Kids: the equation holds wherever no way goes on for ever. -/
noncomputable def recA {β : Type} (kids : Nat → List Nat) (F : Nat → List β → β) (d : β) (x : Nat) : β :=
  open Classical in
  if h : Acc (edge kids) x then Acc.rec (motive := fun _ _ => β) (fun x _ ih => F x ((kids x).attach.map fun y => ih y.1 y.2)) h else d
theorem recA_eq {β : Type} (kids : Nat → List Nat) (F : Nat → List β → β) (d : β) {x : Nat} (h : Acc (edge kids) x) : recA kids F d x = F x ((kids x).map (recA kids F d)) := by
  have h1 : recA kids F d x = Acc.rec (motive := fun _ _ => β) (fun x _ ih => F x ((kids x).attach.map fun y => ih y.1 y.2)) h := by
    unfold recA; rw [dif_pos h]
  rw [h1]
  cases h with
  | intro x hx =>
    have e : (kids x).map (recA kids F d) = (kids x).attach.map fun y => recA kids F d y.1 := by
      conv => lhs; rw [← List.attach_map_subtype_val (kids x)]
      rw [List.map_map]; rfl
    rw [e]
    refine congrArg (F x) (List.map_congr_left fun y _ => ?_)
    unfold recA
    rw [dif_pos (hx y.1 y.2)]
/-- The greatest size that is told. -/
abbrev great : Nat := 4611686018427387904
/-- A sum that is at most the greatest. -/
def sumN (a b : Nat) : Nat := min (a + b) great
noncomputable def sizeA (kids : Nat → List Nat) : Nat → Nat := recA kids (fun _ l => l.foldl sumN 1) 0
noncomputable def deepA (kids : Nat → List Nat) : Nat → Nat := recA kids (fun _ l => l.foldl (fun m d => max m (d + 1)) 1) 0
theorem sizeA_eq {kids : Nat → List Nat} {x : Nat} (h : Acc (edge kids) x) : sizeA kids x = ((kids x).map (sizeA kids)).foldl sumN 1 := recA_eq kids _ _ h
theorem deepA_eq {kids : Nat → List Nat} {x : Nat} (h : Acc (edge kids) x) : deepA kids x = ((kids x).map (deepA kids)).foldl (fun m d => max m (d + 1)) 1 := recA_eq kids _ _ h
theorem sumN_le (a b : Nat) : sumN a b ≤ great := Nat.min_le_right _ _
theorem foldl_le : ∀ (l : List Nat) (a : Nat), a ≤ great → l.foldl sumN a ≤ great := by
  intro l
  induction l with
  | nil => intro a h; exact h
  | cons c l ih => intro a _; exact ih _ (sumN_le _ _)
theorem sizeA_le {kids : Nat → List Nat} {x : Nat} (h : Acc (edge kids) x) : sizeA kids x ≤ great := by rw [sizeA_eq h]; exact foldl_le _ _ (by unfold great; omega)
/-- The sums over the first j Kids. -/
noncomputable def sF (kids : Nat → List Nat) (ks : List Nat) (j : Nat) : Nat := ((ks.take j).map (sizeA kids)).foldl sumN 1
noncomputable def dF (kids : Nat → List Nat) (ks : List Nat) (j : Nat) : Nat := ((ks.take j).map (deepA kids)).foldl (fun m d => max m (d + 1)) 1
theorem sF_le (kids : Nat → List Nat) (ks : List Nat) (j : Nat) : sF kids ks j ≤ great := foldl_le _ _ (by unfold great; omega)
theorem sF_zero (kids : Nat → List Nat) (ks : List Nat) : sF kids ks 0 = 1 := rfl
theorem dF_zero (kids : Nat → List Nat) (ks : List Nat) : dF kids ks 0 = 1 := rfl
theorem sF_succ (kids : Nat → List Nat) {ks : List Nat} {j : Nat} (h : j < ks.length) : sF kids ks (j + 1) = sumN (sF kids ks j) (sizeA kids ks[j]) := by
  unfold sF
  rw [List.take_succ_eq_append_getElem h, List.map_append, List.foldl_append]; rfl
theorem dF_succ (kids : Nat → List Nat) {ks : List Nat} {j : Nat} (h : j < ks.length) : dF kids ks (j + 1) = max (dF kids ks j) (deepA kids ks[j] + 1) := by
  unfold dF
  rw [List.take_succ_eq_append_getElem h, List.map_append, List.foldl_append]; rfl
theorem sF_end {kids : Nat → List Nat} {x : Nat} (h : Acc (edge kids) x) : sF kids (kids x) (kids x).length = sizeA kids x := by
  rw [sizeA_eq h]; unfold sF; rw [List.take_length]
theorem dF_end {kids : Nat → List Nat} {x : Nat} (h : Acc (edge kids) x) : dF kids (kids x) (kids x).length = deepA kids x := by
  rw [deepA_eq h]; unfold dF; rw [List.take_length]
/-- Trees. -/
inductive Tr where
  | mk (kind : Int) (tag text : ByteArray) (kids : List Tr)
instance : Inhabited Tr := ⟨.mk 0 ⟨#[]⟩ ⟨#[]⟩ []⟩
def Tr.kids : Tr → List Tr
  | .mk _ _ _ l => l
def Tr.kind : Tr → Int
  | .mk k _ _ _ => k
def Tr.tag : Tr → ByteArray
  | .mk _ t _ _ => t
def Tr.text : Tr → ByteArray
  | .mk _ _ t _ => t
mutual
/-- A tree's nodes. -/
def Tr.count : Tr → Nat
  | .mk _ _ _ l => 1 + Tr.counts l
def Tr.counts : List Tr → Nat
  | [] => 0
  | t :: l => t.count + Tr.counts l
end
theorem Tr.counts_append (a b : List Tr) : Tr.counts (a ++ b) = Tr.counts a + Tr.counts b := by
  induction a with
  | nil => simp [Tr.counts]
  | cons x a ih => simp [Tr.counts, ih]; omega
theorem Tr.counts_eq (l : List Tr) : Tr.counts l = (l.map Tr.count).sum := by
  induction l with
  | nil => simp [Tr.counts]
  | cons x a ih => simp [Tr.counts, ih]
theorem le_sum_x : ∀ (l : List Nat) (x : Nat), x ∈ l → x ≤ l.sum := by
  intro l
  induction l with
  | nil => simp
  | cons a l ih =>
    intro x hx
    rw [List.sum_cons]
    rcases List.mem_cons.1 hx with rfl | h
    · omega
    · have := ih x h; omega
theorem Tr.count_pos (t : Tr) : 1 ≤ t.count := by cases t; simp [Tr.count]
theorem Tr.count_kid {t u : Tr} (h : u ∈ t.kids) : u.count < t.count := by
  cases t with
  | mk k a b l =>
    have h1 : u.count ≤ Tr.counts l := by
      rw [Tr.counts_eq]
      exact le_sum_x _ _ (List.mem_map.2 ⟨u, h, rfl⟩)
    simp only [Tr.count]; omega
theorem Tr.kids_len (t : Tr) : t.kids.length < t.count := by
  cases t with
  | mk k a b l =>
    have h1 : l.length ≤ Tr.counts l := by
      induction l with
      | nil => simp
      | cons x l ih => have := x.count_pos; simp only [Tr.counts, List.length_cons]; omega
    simp only [Tr.kids, Tr.count]; omega
/-- What a node unfolds to. -/
noncomputable def treeA (G : Gr) : Nat → Tr := recA (kidN G) (fun x l => .mk (nd G.nodes x).kind (nd G.nodes x).tag (nd G.nodes x).text l) default
theorem treeA_eq {G : Gr} {x : Nat} (h : Acc (edge (kidN G)) x) : treeA G x = .mk (nd G.nodes x).kind (nd G.nodes x).tag (nd G.nodes x).text ((kidN G x).map (treeA G)) := recA_eq (kidN G) _ _ h
theorem foldl_sum : ∀ (l : List Nat) (a : Nat), a ≤ great → (l.map fun c => min c great).foldl sumN a = min (a + l.sum) great := by
  intro l
  induction l with
  | nil => intro a ha; simp; omega
  | cons c l ih =>
    intro a ha
    simp only [List.map_cons, List.foldl_cons, List.sum_cons]
    rw [ih (sumN a (min c great)) (Nat.min_le_right _ _)]
    unfold sumN
    have := Nat.zero_le l.sum
    omega
/-- The size is the tree's count, if that is not too great. -/
theorem size_count {G : Gr} {x : Nat} (h : Acc (edge (kidN G)) x) : sizeA (kidN G) x = min (treeA G x).count great := by
  induction h with
  | intro x hx ih =>
    have ha : Acc (edge (kidN G)) x := ⟨_, hx⟩
    rw [sizeA_eq ha, treeA_eq ha]
    have h1 : (kidN G x).map (sizeA (kidN G)) = (((kidN G x).map (treeA G)).map Tr.count).map fun c => min c great := by
      rw [List.map_map, List.map_map]
      exact List.map_congr_left fun y hy => ih y hy
    rw [h1, foldl_sum _ 1 (by unfold great; omega)]
    simp only [Tr.count, Tr.counts_eq]
theorem foldl_deep : ∀ (l : List Nat) (a b : Nat), (∀ c ∈ l, c + 1 ≤ b) → a ≤ b → l.foldl (fun m d => max m (d + 1)) a ≤ b := by
  intro l
  induction l with
  | nil => intro a b _ h; exact h
  | cons c l ih =>
    intro a b hl ha
    rw [List.foldl_cons]
    exact ih _ b (fun x hx => hl x (List.mem_cons_of_mem _ hx)) (by have := hl c List.mem_cons_self; omega)
theorem dF_le {kids : Nat → List Nat} {ks : List Nat} {b : Nat} (h : ∀ y ∈ ks, deepA kids y + 1 ≤ b) (h1 : 1 ≤ b) (j : Nat) : dF kids ks j ≤ b := by
  refine foldl_deep _ _ _ (fun c hc => ?_) h1
  obtain ⟨y, hy, rfl⟩ := List.mem_map.1 hc
  exact h y (List.mem_of_mem_take hy)
/-- No tree is deeper than it has nodes. -/
theorem deep_count {G : Gr} {x : Nat} (h : Acc (edge (kidN G)) x) : deepA (kidN G) x ≤ (treeA G x).count := by
  induction h with
  | intro x hx ih =>
    have ha : Acc (edge (kidN G)) x := ⟨_, hx⟩
    rw [deepA_eq ha]
    refine foldl_deep _ _ _ (fun c hc => ?_) (Tr.count_pos _)
    obtain ⟨y, hy, rfl⟩ := List.mem_map.1 hc
    have h1 := ih y hy
    have h2 : (treeA G y).count < (treeA G x).count := Tr.count_kid (by rw [treeA_eq ha]; exact List.mem_map.2 ⟨y, hy, rfl⟩)
    omega
theorem foldl_max (l : List Nat) (a : Nat) : l.foldl (fun m d => max m (d + 1)) (a + 1) = l.foldl max a + 1 := by
  induction l generalizing a with
  | nil => rfl
  | cons c l ih =>
    simp only [List.foldl_cons]
    rw [← ih]
    congr 1
    omega
theorem Kn.perm {kids : Nat → List Nat} {L R f f' : List Nat} {lf : Nat → Nat} (h : Kn kids L R f lf) (hp : f.Perm f') : Kn kids L R f' lf := by
  have hq : (R ++ f).Perm (R ++ f') := hp.append_left R
  exact ⟨hq.nodup_iff.1 h.nd, fun x hx => h.sub x (hq.mem_iff.2 hx), h.left, fun u hu => (h.zero u hu).trans hq.mem_iff, h.acc⟩
theorem Ki.perm {kids : Nat → List Nat} {L R f f' : List Nat} {k j : Nat} {lf : Nat → Nat} (h : Ki kids L R f k j lf) (hp : f.Perm f') : Ki kids L R f' k j lf := by
  have hq : (R ++ k :: f).Perm (R ++ k :: f') := (hp.cons k).append_left R
  exact ⟨hq.nodup_iff.1 h.nd, fun x hx => h.sub x (hq.mem_iff.2 hx), h.left, fun u hu => (h.zero u hu).trans hq.mem_iff, h.acc⟩
/-- What is taken away has all its Kids taken away ahead of it. -/
theorem Ki.kids {kids : Nat → List Nat} {L R free : List Nat} {k : Nat} {lf : Nat → Nat} (h : Ki kids L R free k 0 lf) : ∀ y ∈ kids k, y ∈ R := fun y hy => by
  have hL := h.sub k (by simp)
  have h0 := (h.zero k hL).2 (by simp)
  have h1 := h.left k hL
  simp only [List.take_zero, List.count_nil, Nat.add_zero] at h1
  rw [h0] at h1
  unfold leftN at h1
  have h2 := List.filter_eq_nil_iff.1 (List.eq_nil_of_length_eq_zero h1.symm) y hy
  simpa using h2
/-- At the end, all that does not go round is taken away. -/
theorem Kn.all {kids : Nat → List Nat} {L R : List Nat} {lf : Nat → Nat} (hL : ∀ x ∈ L, ∀ y ∈ kids x, y ∈ L) (h : Kn kids L R [] lf) : ∀ x ∈ L, Acc (edge kids) x → x ∈ R := fun x hx ha => by
  induction ha with
  | intro x _ ih =>
    have h0 : lf x = 0 := by
      rw [h.left x hx]
      unfold leftN
      rw [List.filter_eq_nil_iff.2 (fun y hy => by simpa using ih y hy (hL x hx y hy))]
      rfl
    simpa using (h.zero x hx).1 h0
end Go.Proofs.YtdcbngimgpdjoaaDoor
