/- A nil reader gives nothing. -/
import Derived.Test.YtaedmafmflohiaaDoorQMergeAll8
namespace Go.Proofs.YtaedmafmflohiaaDoor
open Go.RowKit

theorem next_nil (w : World) : Calls Tryd.prog 13 #[.pointer none] w fun r w' => r = .returned (.tuple #[zeroE.val, .bool false]) ∧ Keeps [] w w' := by
  obtain ⟨gz, hgz⟩ : ∃ gz, gz = w.heap.size := ⟨_, rfl⟩
  obtain ⟨W0, hW0⟩ : ∃ W0, W0 = w.alloc (.cells #[.string ⟨#[]⟩, .string ⟨#[]⟩, .bool false] 39) := ⟨_, rfl⟩
  have H0 := Lib.hid (show W0.heap[gz]? = some (.cells #[.string ⟨#[]⟩, .string ⟨#[]⟩, .bool false] 39 (0, 0)) ∧ Keeps [] w W0 ∧ gz = w.heap.size from by
    have hka : Keeps [] w W0 := by rw [hW0]; exact (Keeps.refl [] w).alloc _
    exact ⟨by rw [hW0, hgz]; exact heap_alloc_new _ _, hka, hgz⟩)
  have HW0 := Lib.hid (And.intro hW0 hgz)
  clear hgz hW0
  go_enter Tryd.func13, Tryd.ntmps13
  go_upto_region 1 with fail
  rw [← HW0.out.1, ← HW0.out.2]
  go_wp2_with fail
  go_loopw [3] (fun s3 wr => s3 = .bool false ∧ Hid (wr = W0)) (fun _ _ => 0)
  case atStart => exact ⟨rfl, rfl⟩
  case round =>
    obtain ⟨rfl, HX⟩ := hrel
    obtain rfl := HX.out
    have z0 : wr.cell? ⟨gz, 0, none⟩ = some (.string ⟨#[]⟩) := by rw [cell_of_row _ _ _ _ _ _ H0.out.1]; rfl
    have z1 : wr.cell? ⟨gz, 1, none⟩ = some (.string ⟨#[]⟩) := by rw [cell_of_row _ _ _ _ _ _ H0.out.1]; rfl
    have z2 : wr.cell? ⟨gz, 2, none⟩ = some (.bool false) := by rw [cell_of_row _ _ _ _ _ _ H0.out.1]; rfl
    have fz : ∀ j, wr.frozen? ⟨gz, j, none⟩ = false := fun j => frozen_of_row wr _ j _ _ H0.out.1
    go_wp2_with fail
    have hs := set3 H0.out.1 (.string ⟨#[]⟩) (.string ⟨#[]⟩) (.bool false)
    refine bodyPost_ret (v := .tuple #[.agg #[.string ⟨#[]⟩, .string ⟨#[]⟩, .bool false], .bool false]) (results_cell_tmp2 Tryd.results13 _ _ gz 39 _ (0, 0) _ _ rfl rfl hs.1 Tryd.underlying39 rfl infoEn3) rfl ?_
    exact ⟨rfl, H0.out.2.1.trans hs.2 (fun t ht => .inr (by simp at ht; have := H0.out.2.2; omega))⟩
end Go.Proofs.YtaedmafmflohiaaDoor
