/- Prints held against one another, and a row in a block as a range. -/
import Derived.Test.YtomleanoofoejaaDoorProg
import Derived.Test.YtomleanoofoejaaDoorArr
import Derived.Test.YtomleanoofoejaaDoorRegion
import Derived.Test.YtomleanoofoejaaDoorSec
namespace Go.Proofs.YtomleanoofoejaaDoor
open Go.RowKit

theorem some_u8 : (Tryd.prog.info? 5).isSome = true := by kernel_rfl
theorem cells_u8 : Tryd.prog.cellsOf 5 = 1 := by kernel_rfl
theorem guard_pr : Tryd.prog.eqGuardType Tryd.prog.depth 25 = false := by kernel_rfl
theorem eq_print (w : World) (x : List UInt8) (hx : x.length = 32) : (binOp .eql 25 (.agg (encB x).toArray) (.agg (encB x).toArray)).run Tryd.prog w = .ok (.bool true) w := by
  rw [run_eql_arrB w Tryd.underlying25 Tryd.underlying5 some_u8 cells_u8 x x hx hx]
  simp
theorem ne_print (w : World) (x : List UInt8) (hx : x.length = 32) : (binOp .neq 25 (.agg (encB x).toArray) (.agg (encB x).toArray)).run Tryd.prog w = .ok (.bool false) w := by
  rw [run_neq_arrB w Tryd.underlying25 Tryd.underlying5 some_u8 cells_u8 x x hx hx]
  simp

/-- 'x == y' in a region that draws, where its run is known. -/
theorem yieldsIf_eqv {P : Program} {ops : Array Oper} {S : World → Prop} {op : Oper} {a : Act} (hw : Region.wanted op (yielded ops a.tmps) = true) (t : TypeId) (x y : Operand) (ho : op.op = .binOp .eql t x y t)
    (v u r : Value) (hx : a.eval x = v) (hy : a.eval y = u) (hr : ∀ w, (binOp .eql t v u).run P w = .ok r w) (hg : ∀ y1 y2 w, (eqGuard .eql t y1 y2 v u).run P w = .ok () w) : YieldsIf P ops S op r a :=
  .inl ⟨hw, fun w _ => by
    unfold execOp
    simp only [ho, hx, hy, Sem.run_bind, hr, hg, Result.andThen_ok, Sem.run_pure]⟩
/-- The whole of an array behind a pointer, as a slice, in a region that draws. -/
theorem yieldsIf_allArr {P : Program} {ops : Array Oper} {S : World → Prop} {o : Oper} {a : Act} (hw : Region.wanted o (yielded ops a.tmps) = true) (t : TypeId) (x : Operand) (ho : o.op = .slice t x none none none) {e : TypeId} {n size : Nat}
    (ht : P.underlying t = some (.array n e)) (hi : (P.info? e).map (·.size) = some size) (ad : Addr) (hx : a.eval x = .pointer (some ad)) : YieldsIf P ops S o (.slice (some ad) n n) a :=
  .inl ⟨hw, fun w _ => by
    have hr : (Instr.sliceAt t (.pointer (some ad)) none none none).run P w = .ok (.slice (some ad) n n) w := by
      cases hq : P.info? e with
      | none => rw [hq] at hi; cases hi
      | some i =>
        have hs : i.size = size := by rw [hq] at hi; simpa using hi
        unfold Instr.sliceAt Instr.sliceBounds
        simp only [Sem.run_bind, run_underlying ht, Result.andThen_ok, Instr.sureAddr, Sem.run_pure]
        simp [sizeOf, typeInfo, hq, hs]
        try (simp [Addr.add])
    unfold execOp
    simp only [ho, hx, Sem.run_bind, Option.map_none, hr, Result.andThen_ok, Sem.run_pure]⟩
theorem rangeAt_row2 {w : World} {g : Nat} {cs : List Value} {t : TypeId} {fr : Nat × Nat} (h : w.heap[g]? = some (.cells cs.toArray t fr)) : w.rangeAt g 0 cs := fun j v hj => by
  rw [Nat.zero_add, cell_of_row _ _ _ _ _ _ h, List.getElem?_toArray]; exact hj

end Go.Proofs.YtomleanoofoejaaDoor
