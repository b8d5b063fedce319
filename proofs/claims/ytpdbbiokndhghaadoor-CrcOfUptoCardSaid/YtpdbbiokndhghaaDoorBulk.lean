/-
  WHAT THE SECOND FORM's BOUND GIVES: a slice's elements are no more than its bulk. No condition.
-/
import Derived.Test.YtpdbbiokndhghaaDoorRows
namespace Go.Proofs.YtpdbbiokndhghaaDoor
open Go Go.Proofs

theorem bulk_one {H : Type} (d : DataW H) : 1 ≤ Rows.uptoBulk d := by
  cases d with
  | lit l => cases l <;> simp [Rows.uptoBulk]
  | _ => simp [Rows.uptoBulk]
theorem bulk_length {H : Type} (l : List (DataW H)) : l.length ≤ Rows.uptoBulkAll l := by
  induction l with
  | nil => simp
  | cons x r ih => have := bulk_one x; simp only [Rows.uptoBulkAll, List.length_cons]; omega
theorem bulk_slice {H : Type} (elems spare : List (DataW H)) : elems.length ≤ Rows.uptoBulk (.slice elems spare) := by
  have := bulk_length elems
  simp only [Rows.uptoBulk]
  omega
end Go.Proofs.YtpdbbiokndhghaaDoor
