/- An array's or a text's place, by value. No program is named here. -/
import Derived.Test.YtomleanoofoejaaDoorArr
import Derived.Test.YtomleanoofoejaaDoorRegion
namespace Go.Proofs.YtomleanoofoejaaDoor
open Go.RowKit
section
variable {P : Program} {ops : Array Oper} {rest : List Oper} {o : Oper} {a : Act} {w : World} {Q : Exit → Act → World → Prop} {S : World → Prop}

def oneD : TypeDesc → Bool
  | .struct _ => false
  | .array _ _ => false
  | _ => true
theorem run_idxA (w : World) {t e : TypeId} {n : Nat} (hu : P.underlying t = some (.array n e)) {d : TypeDesc} (he : P.underlying e = some d) (hd : oneD d = true) (hi : (P.info? e).map (·.size) = some 1)
    (cs : Array Value) (k : IntKind) (i : Nat) (hlt : i < n) (v : Value) (hv : cs[i]? = some v) : (Instr.index t (.agg cs) (.int k i)).run P w = .ok v w := by
  have hp := run_part_one (P := P) (w := w) he (by cases d <;> first | rfl | cases hd) cs i v hv
  cases hq : P.info? e with
  | none => rw [hq] at hi; cases hi
  | some q =>
    have hs : q.size = 1 := by rw [hq] at hi; simpa using hi
    unfold Instr.index
    simp only [asIntOf, Sem.run_bind, Sem.run_pure, Result.andThen_ok, run_underlying hu]
    rw [if_pos ⟨by omega, by omega⟩]
    simp only [sizeOf, typeInfo, Sem.run_bind, Sem.run_pure]
    simp [hq, hs, hp]
theorem run_idxS (w : World) {t : TypeId} (hu : P.underlying t = some .string) (l : List UInt8) (k : IntKind) (i : Nat) (hlt : i < l.length) : (Instr.index t (.string (strB l)) (.int k i)).run P w = .ok (.int .u8 ((l.getD i 0).toNat : Int)) w := by
  have h : 0 ≤ (i : Int) ∧ (i : Int) < ((strB l).size : Int) := ⟨by omega, by have : (strB l).size = l.length := rfl; omega⟩
  rw [run_index_string w t (strB l) k i hu, dif_pos h]
  have : (strB l)[(i : Int).toNat]'(by have := h.2; omega) = l.getD i 0 := by
    show l.toArray[(i : Int).toNat]'(by simpa using hlt) = _
    simp [List.getD_eq_getElem?_getD, List.getElem?_eq_getElem hlt]
  rw [this]
theorem wpList_idxA (hgd : o.guard = none) (t : TypeId) (x y : Operand) (ho : o.op = .index t x y) {e : TypeId} {n : Nat} (hu : P.underlying t = some (.array n e)) {d : TypeDesc} (he : P.underlying e = some d) (hd : oneD d = true) (hi : (P.info? e).map (·.size) = some 1)
    (cs : Array Value) (k : IntKind) (i : Nat) (hx : a.eval x = .agg cs) (hy : a.eval y = .int k i) (hlt : i < n) (v : Value) (hv : cs[i]? = some v) (h : wpList P ops Q rest (a.put o.dst v) w) : wpList P ops Q (o :: rest) a w := by
  refine wpList_plain hgd fun K hK => ?_
  unfold Oper.wp execOp
  simp only [ho, hx, hy, Sem.run_bind, Sem.run_pure, Result.andThen_ok, run_idxA w hu he hd hi cs k i hlt v hv]
  exact hK _ _ h
theorem wpList_idxS (hgd : o.guard = none) (t : TypeId) (x y : Operand) (ho : o.op = .index t x y) (hu : P.underlying t = some .string)
    (l : List UInt8) (k : IntKind) (i : Nat) (hx : a.eval x = .string (strB l)) (hy : a.eval y = .int k i) (hlt : i < l.length) (h : wpList P ops Q rest (a.put o.dst (.int .u8 ((l.getD i 0).toNat : Int))) w) : wpList P ops Q (o :: rest) a w := by
  refine wpList_plain hgd fun K hK => ?_
  unfold Oper.wp execOp
  simp only [ho, hx, hy, Sem.run_bind, Sem.run_pure, Result.andThen_ok, run_idxS w hu l k i hlt]
  exact hK _ _ h
theorem yieldsIf_idxS (hw : Region.wanted o (yielded ops a.tmps) = true) (t : TypeId) (x y : Operand) (ho : o.op = .index t x y) (hu : P.underlying t = some .string)
    (l : List UInt8) (k : IntKind) (i : Nat) (hx : a.eval x = .string (strB l)) (hy : a.eval y = .int k i) (hlt : i < l.length) (v : Value) (hv : v = .int .u8 ((l.getD i 0).toNat : Int)) : YieldsIf P ops S o v a :=
  .inl ⟨hw, fun w _ => by
    subst hv
    unfold execOp
    simp only [ho, hx, hy, Sem.run_bind, Sem.run_pure, Result.andThen_ok, run_idxS w hu l k i hlt]⟩
theorem strB_extract (l : List UInt8) (i j : Nat) : (strB l).extract i j = strB ((l.drop i).take (j - i)) := ByteArray.extract_mk l i j
theorem yieldsIf_slcS (hw : Region.wanted o (yielded ops a.tmps) = true) (t : TypeId) (x lo hi : Operand) (ho : o.op = .slice t x (some lo) (some hi) none) (hu : P.underlying t = some .string)
    (l : List UInt8) (k k' : IntKind) (i j : Nat) (hx : a.eval x = .string (strB l)) (h1 : a.eval lo = .int k i) (h2 : a.eval hi = .int k' j) (hij : i ≤ j) (hj : j ≤ l.length) (v : Value) (hv : v = .string (strB ((l.drop i).take (j - i)))) : YieldsIf P ops S o v a :=
  .inl ⟨hw, fun w _ => by
    subst hv
    have hr := run_slice_string (P := P) w t (strB l) k k' i j hu (by omega) (by omega) (by show (j : Int) ≤ ((strB l).size : Int); have : (strB l).size = l.length := rfl; omega)
    have hsl : ∀ v lo hi mx, (Instr.sliceAt t v lo hi mx).run P w = (Instr.slice t v lo hi mx).run P w := fun v lo hi mx => by simp [Instr.sliceAt, run_underlying hu]
    unfold execOp
    simp only [ho, hx, h1, h2, Option.map_some, Option.map_none, Sem.run_bind, hsl, hr, Result.andThen_ok, Sem.run_pure, Int.toNat_natCast, strB_extract]⟩
end
end Go.Proofs.YtomleanoofoejaaDoor
