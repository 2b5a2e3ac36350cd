/- The count of the statements' second form, as XKinds wants it. -/
import Derived.Test.YtaedmafmflohiaaKinds
import Derived.Test.YtaedmafmflohiaaRows
namespace Go.Proofs.Ytaedmafmflohiaa
open Go.RowKit

theorem bulkAll_eq {H : Type} : ∀ l : List (DataW H), Rows.uptoBulkAll l = (l.map Rows.uptoBulk).sum
  | [] => by simp [Rows.uptoBulkAll]
  | x :: r => by simp only [Rows.uptoBulkAll, List.map_cons, List.sum_cons, bulkAll_eq r]
theorem bulkLike (H : Type) : BulkLike (Rows.uptoBulk (H := H)) where
  one d := by
    cases d with
    | lit l => cases l <;> simp [Rows.uptoBulk]
    | nil => simp [Rows.uptoBulk]
    | ptr d => simp [Rows.uptoBulk]
    | slice elems spare => simp [Rows.uptoBulk]
    | agg parts => simp [Rows.uptoBulk]
    | iface t d => simp [Rows.uptoBulk]
    | map entries => simp [Rows.uptoBulk]
    | held h => simp [Rows.uptoBulk]
  str l := by simp [Rows.uptoBulk]
  slice e s := by simp only [Rows.uptoBulk, bulkAll_eq]; omega
  agg e := by simp only [Rows.uptoBulk, bulkAll_eq]; omega
theorem bulk_of {H : Type} {l : List (DataW H)} (hk : Rows.uptoSmall H l = true) : (l.map Rows.uptoBulk).sum ≤ 1048576 := by
  rw [← bulkAll_eq]
  exact of_decide_eq_true hk
end Go.Proofs.Ytaedmafmflohiaa
