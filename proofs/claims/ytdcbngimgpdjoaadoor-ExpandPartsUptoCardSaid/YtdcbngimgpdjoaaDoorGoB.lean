/- What a graph's bulk says of its sizes. No condition. -/
import Derived.Test.YtdcbngimgpdjoaaDoorGoG
import Derived.Test.YtdcbngimgpdjoaaDoorRows
import Derived.Test.YtdcbngimgpdjoaaDoorGb
namespace Go.Proofs.YtdcbngimgpdjoaaDoor
open Go.ChangeShapes Go.RowKit
section
variable {H : Type}
theorem bulk_one (d : DataW H) : 1 ≤ Rows.uptoBulk d := by
  cases d with
  | lit l => cases l <;> simp [Rows.uptoBulk]
  | nil => simp [Rows.uptoBulk]
  | ptr d => simp [Rows.uptoBulk]
  | slice elems spare => simp [Rows.uptoBulk]
  | agg parts => simp [Rows.uptoBulk]
  | iface t d => simp [Rows.uptoBulk]
  | map entries => simp [Rows.uptoBulk]
  | held h => simp [Rows.uptoBulk]
theorem bulk_part {d : DataW H} {l : List (DataW H)} (h : d ∈ l) : Rows.uptoBulk d ≤ Rows.uptoBulkAll l := by
  induction l with
  | nil => cases h
  | cons x r ih =>
    simp only [Rows.uptoBulkAll]
    cases List.mem_cons.1 h with
    | inl e => subst e; omega
    | inr e => have := ih e; omega
theorem bulk_length (l : List (DataW H)) : l.length ≤ Rows.uptoBulkAll l := by
  induction l with
  | nil => simp [Rows.uptoBulkAll]
  | cons x r ih => have := bulk_one x; simp only [Rows.uptoBulkAll, List.length_cons]; omega
theorem bulk_slice (elems spare : List (DataW H)) : Rows.uptoBulkAll elems + 1 ≤ Rows.uptoBulk (.slice elems spare) := by
  simp only [Rows.uptoBulk]
  omega
theorem bulk_agg (l : List (DataW H)) : Rows.uptoBulkAll l ≤ Rows.uptoBulk (.agg l) := by
  simp only [Rows.uptoBulk]
  omega
theorem bulk_string (bytes : List UInt8) : Rows.uptoBulk (DataW.lit (H := H) (.string bytes)) = bytes.length + 1 := by simp [Rows.uptoBulk]
theorem node_bulk {n : Nd} {d : DataW H} (h : nodeD n d) : n.tag.size ≤ Rows.uptoBulk d ∧ n.text.size ≤ Rows.uptoBulk d ∧ n.kids.length ≤ Rows.uptoBulk d := by
  obtain ⟨k, rfl, hk⟩ := h
  have ha := bulk_agg (H := H) [.lit (.int .i64 n.kind), .lit (.string n.tag.data.toList), .lit (.string n.text.data.toList), k, .lit (.bool n.plain)]
  have h1 := bulk_part (H := H) (d := .lit (.string n.tag.data.toList)) (l := [.lit (.int .i64 n.kind), .lit (.string n.tag.data.toList), .lit (.string n.text.data.toList), k, .lit (.bool n.plain)]) (by simp)
  have h2 := bulk_part (H := H) (d := .lit (.string n.text.data.toList)) (l := [.lit (.int .i64 n.kind), .lit (.string n.tag.data.toList), .lit (.string n.text.data.toList), k, .lit (.bool n.plain)]) (by simp)
  have h3 := bulk_part (H := H) (d := k) (l := [.lit (.int .i64 n.kind), .lit (.string n.tag.data.toList), .lit (.string n.text.data.toList), k, .lit (.bool n.plain)]) (by simp)
  rw [bulk_string, Array.length_toList] at h1 h2
  have e1 : n.tag.data.size = n.tag.size := rfl
  have e2 : n.text.data.size = n.text.size := rfl
  refine ⟨by omega, by omega, ?_⟩
  rcases hk with hk | ⟨spare, hk⟩
  · rw [hk]; simp
  · have h4 := bulk_slice (H := H) (lits .i64 n.kids) (lits .i64 spare)
    have h5 := bulk_length (H := H) (lits .i64 n.kids)
    have h6 : (lits (H := H) .i64 n.kids).length = n.kids.length := by simp [lits]
    rw [← hk] at h4
    omega
/-- The bulk's bound gives what the walks ask. -/
theorem graph_small {G : Gr} {d dn dr : DataW H} (hd : d = .agg [dn, dr]) (hn : G.nodes = [] ∨ ∃ ds spare, dn = .slice ds spare ∧ List.length ds = List.length G.nodes ∧ ∀ n ∈ G.nodes, ∃ x ∈ ds, nodeD (H := H) n x) (hr : G.roots = [] ∨ ∃ spare, dr = .slice (lits .i64 G.roots) (lits .i64 spare))
    (hok : ∀ n ∈ G.nodes, Nd.ok n) (hb : Rows.uptoBulk d ≤ 1048576) : G.ok ∧ G.okB := by
  subst hd
  have ha := bulk_agg (H := H) [dn, dr]
  have h1 := bulk_part (H := H) (d := dn) (l := [dn, dr]) (by simp)
  have h2 := bulk_part (H := H) (d := dr) (l := [dn, dr]) (by simp)
  have hns : G.nodes.length ≤ 1048576 ∧ ∀ n ∈ G.nodes, n.tag.size ≤ 1048576 ∧ n.text.size ≤ 1048576 ∧ n.kids.length ≤ 1048576 := by
    rcases hn with hn | ⟨ds, spare, rfl, hl, hx⟩
    · rw [hn]; simp
    · have h4 := bulk_slice (H := H) ds spare
      have h5 := bulk_length (H := H) ds
      refine ⟨by omega, fun n hn => ?_⟩
      obtain ⟨x, hx1, hx2⟩ := hx n hn
      have h6 := bulk_part hx1
      obtain ⟨q1, q2, q3⟩ := node_bulk hx2
      exact ⟨by omega, by omega, by omega⟩
  have hrs : G.roots.length ≤ 1048576 := by
    rcases hr with hr | ⟨spare, rfl⟩
    · rw [hr]; simp
    · have h4 := bulk_slice (H := H) (lits .i64 G.roots) (lits .i64 spare)
      have h5 := bulk_length (H := H) (lits .i64 G.roots)
      have h6 : (lits (H := H) .i64 G.roots).length = G.roots.length := by simp [lits]
      omega
  obtain ⟨hn1, hn2⟩ := hns
  refine ⟨⟨by unfold maxLen; omega, by unfold maxLen; omega, hok, fun e he => ?_⟩, ⟨by omega, by omega, fun e he => ?_, fun e he => ?_, fun e he => ?_⟩⟩
  · have := (hn2 e he).2.2; omega
  · have := (hn2 e he).1; omega
  · have := (hn2 e he).2.1; omega
  · have := (hn2 e he).2.2; omega
end
end Go.Proofs.YtdcbngimgpdjoaaDoor
