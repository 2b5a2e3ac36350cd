/- The law's num: an error's number. -/
import Derived.Test.YthppbefemfkccaaDoorAs
import Derived.Test.YthppbefemfkccaaDoorErrV
namespace Go.Proofs.YthppbefemfkccaaDoor
open Go.RowKit

theorem num_nil (w : World) : Calls Tryd.prog 8 #[.nilIface] w fun e w' => e = .returned (.int .i64 0) ∧ Keeps [] w w' := by
  go_enter Tryd.func8, Tryd.ntmps8
  go_wp2_with fail
  go_ret
  exact ⟨rfl, (Keeps.refl [] w).alloc _⟩

theorem num_err (n : Int) (w : World) (hg : HT w) : Calls Tryd.prog 8 #[.iface 55 (.int .i64 n)] w fun e w' => e = .returned (.int .i64 n) ∧ Keeps [] w w' := by
  have hg1 := Lib.hid (hg.keeps ((Keeps.refl [] w).alloc (.cells #[.int .i64 0] 55)) (by simp))
  clear hg
  go_enter Tryd.func8, Tryd.ntmps8
  go_wp2_with fail
  refine (as_hit n ⟨w.heap.size, 0, none⟩ (.int .i64 0) _ hg1.out (by simp) (by simp)).mono ?_
  rintro e w' ⟨rfl, rfl⟩
  go_wp2_with fail
  go_ret
  refine ⟨rfl, ?_⟩
  exact (((((Keeps.refl [] w).alloc _).alloc _).alloc _).alloc _).alloc _
theorem num_any (n : Int) (w : World) (hg : HT w) : Calls Tryd.prog 8 #[errV n] w fun e w' => e = .returned (.int .i64 n) ∧ Keeps [] w w' := by
  by_cases h : n = 0
  · subst h
    exact num_nil w
  · rw [errV_other h]
    exact num_err n w hg
end Go.Proofs.YthppbefemfkccaaDoor
