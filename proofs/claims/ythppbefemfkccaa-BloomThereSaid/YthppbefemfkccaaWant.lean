/- An operation under a guard that is met is as one without a guard. No program is named here. -/
import Derived.Test.YthppbefemfkccaaArr
namespace Go.Proofs.Ythppbefemfkccaa
open Go.RowKit
theorem wpList_unguard {P : Program} {ops : Array Oper} {Q : Exit → Act → World → Prop} {a : Act} {w : World} {rest : List Oper} {o : Oper} (hw : Region.wanted o (yielded ops a.tmps) = true)
    (h : wpList P ops Q ({ o with guard := none } :: rest) a w) : wpList P ops Q (o :: rest) a w := by
  unfold wpList at h ⊢
  rw [if_pos hw]
  have h1 : Region.wanted { o with guard := none } (yielded ops a.tmps) = true := by simp [Region.wanted]
  rw [if_pos h1] at h
  exact h
end Go.Proofs.Ythppbefemfkccaa
