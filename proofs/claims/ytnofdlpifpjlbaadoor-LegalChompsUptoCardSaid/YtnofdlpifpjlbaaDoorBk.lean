/- What the bulk of data says of a text's size. No condition. -/
import Derived.Test.YtnofdlpifpjlbaaDoorRows
import Derived.Test.YtnofdlpifpjlbaaDoorOpen
import Derived.Deep.DeepHandedRow
namespace Go.Proofs.YtnofdlpifpjlbaaDoor
open Go.ChangeShapes Go.RowKit
theorem bulk_part {H : Type} {d : DataW H} {l : List (DataW H)} (h : d ∈ l) : Rows.uptoBulk d ≤ Rows.uptoBulkAll l := by
  induction l with
  | nil => cases h
  | cons x r ih =>
    simp only [Rows.uptoBulkAll]
    cases List.mem_cons.1 h with
    | inl e => subst e; omega
    | inr e => have := ih e; omega
theorem bulk_string {H : Type} (bytes : List UInt8) : Rows.uptoBulk (DataW.lit (H := H) (.string bytes)) = bytes.length + 1 := by simp [Rows.uptoBulk]
end Go.Proofs.YtnofdlpifpjlbaaDoor
