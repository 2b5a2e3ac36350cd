/- Arrays of bytes by value: when they are equal, and as the model compares them. No program is named here. -/
import Derived.Test.YtaedmafmflohiaaBase
import Derived.ChangeKeysEq
namespace Go.Proofs.Ytaedmafmflohiaa
open Go.RowKit

section
variable {P : Program} (w : World)
theorem run_part_one {e : TypeId} {d : TypeDesc} (he : P.underlying e = some d) (hd : (match d with | .struct _ => true | .array _ _ => true | _ => false) = false) (xs : Array Value) (i : Nat) (v : Value) (h : xs[i]? = some v) :
    (part e xs i).run P w = .ok v w := by
  unfold part isAgg
  simp only [Sem.run_bind, run_underlying he, Result.andThen_ok, h]
  cases d <;> simp_all

theorem run_eqItems_u8 {e : TypeId} (he : P.underlying e = some (.int .u8)) (hc : P.cellsOf e = 1) (d : Nat) (a b : List UInt8) (hab : a.length = b.length) :
    ∀ m k, k + m = a.length → (Op.eqItems (d + 1) e (P.cellsOf e) (encB a).toArray (encB b).toArray (List.range' k m)).run P w = .ok (a.drop k == b.drop k) w := by
  intro m
  induction m with
  | zero =>
    intro k hk
    rw [List.drop_of_length_le (by omega), List.drop_of_length_le (by omega)]
    simp [Op.eqItems]
  | succ m ih =>
    intro k hk
    have h1 : (encB a).toArray[k * P.cellsOf e]? = some (.int .u8 (a[k].toNat : Int)) := by simp [hc, encB, List.getElem?_eq_getElem (show k < a.length by omega)]
    have h2 : (encB b).toArray[k * P.cellsOf e]? = some (.int .u8 (b[k].toNat : Int)) := by simp [hc, encB, List.getElem?_eq_getElem (show k < b.length by omega)]
    rw [List.range'_succ]
    simp only [Op.eqItems, Sem.run_bind, run_part_one w he rfl _ _ _ h1, run_part_one w he rfl _ _ _ h2, Result.andThen_ok]
    simp only [Op.equalIn, Sem.run_bind, run_underlying he, Result.andThen_ok, if_true, Sem.run_pure]
    rw [List.drop_eq_getElem_cons (show k < a.length by omega), List.drop_eq_getElem_cons (show k < b.length by omega)]
    by_cases h : a[k] = b[k]
    · have e1 : ((a[k].toNat : Int) == (b[k].toNat : Int)) = true := by simp [h]
      rw [e1]
      simp only [Bool.not_true, Bool.false_eq_true, if_false, ih (k + 1) (by omega)]
      rw [List.cons_beq_cons, show (a[k] == b[k]) = true by simpa using h, Bool.true_and]
    · have e1 : ((a[k].toNat : Int) == (b[k].toNat : Int)) = false := by
        rw [beq_eq_false_iff_ne]
        intro hh
        exact h (UInt8.toNat_inj.1 (by omega))
      rw [e1]
      simp only [Bool.not_false, if_true, Sem.run_pure]
      rw [List.cons_beq_cons, show (a[k] == b[k]) = false by simpa using h, Bool.false_and]

theorem run_equalIn_arrB {t e : TypeId} {n : Nat} (hu : P.underlying t = some (.array n e)) (he : P.underlying e = some (.int .u8)) (hsome : (P.info? e).isSome = true) (hc : P.cellsOf e = 1)
    (a b : List UInt8) (ha : a.length = n) (hb : b.length = n) : (Op.equalIn 10000 t (.agg (encB a).toArray) (.agg (encB b).toArray)).run P w = .ok (a == b) w := by
  obtain ⟨i, hi⟩ := Option.isSome_iff_exists.1 hsome
  have h := run_eqItems_u8 (P := P) w he hc 9998 a b (by omega) n 0 (by omega)
  rw [List.drop_zero, List.drop_zero, ← List.range_eq_range'] at h
  rw [run_equalIn_array w 9999 (encB a).toArray (encB b).toArray hu hi]
  exact h
theorem run_eql_arrB {t e : TypeId} {n : Nat} (hu : P.underlying t = some (.array n e)) (he : P.underlying e = some (.int .u8)) (hsome : (P.info? e).isSome = true) (hc : P.cellsOf e = 1)
    (a b : List UInt8) (ha : a.length = n) (hb : b.length = n) : (binOp .eql t (.agg (encB a).toArray) (.agg (encB b).toArray)).run P w = .ok (.bool (a == b)) w := by
  obtain ⟨i, hi⟩ := Option.isSome_iff_exists.1 hsome
  have h := run_eqItems_u8 (P := P) w he hc 9998 a b (by omega) n 0 (by omega)
  rw [List.drop_zero, List.drop_zero, ← List.range_eq_range'] at h
  simp only [binOp]
  simp [Op.equal, Op.maxDepth, run_equalIn_array w 9999 (encB a).toArray (encB b).toArray hu hi, h]
theorem run_neq_arrB {t e : TypeId} {n : Nat} (hu : P.underlying t = some (.array n e)) (he : P.underlying e = some (.int .u8)) (hsome : (P.info? e).isSome = true) (hc : P.cellsOf e = 1)
    (a b : List UInt8) (ha : a.length = n) (hb : b.length = n) : (binOp .neq t (.agg (encB a).toArray) (.agg (encB b).toArray)).run P w = .ok (.bool (!(a == b))) w := by
  obtain ⟨i, hi⟩ := Option.isSome_iff_exists.1 hsome
  have h := run_eqItems_u8 (P := P) w he hc 9998 a b (by omega) n 0 (by omega)
  rw [List.drop_zero, List.drop_zero, ← List.range_eq_range'] at h
  simp only [binOp]
  simp [Op.equal, Op.maxDepth, run_equalIn_array w 9999 (encB a).toArray (encB b).toArray hu hi, h]
theorem run_eqGuard_arr {t : TypeId} (h : P.eqGuardType P.depth t = false) (op : BinOp) (x y : Operand) (a b : Array Value) : (eqGuard op t x y (.agg a) (.agg b)).run P w = .ok () w := by
  cases op <;> simp [eqGuard, h]
/-- A slice as an array's pointer. -/
theorem run_arrayAt {t e : TypeId} {n : Nat} (hu : P.underlying t = some (.array n e)) (a : Addr) (l c : Nat) (h : n ≤ l) : (Instr.arrayAt t (.slice (some a) l c)).run P w = .ok (.pointer (some a)) w := by
  unfold Instr.arrayAt
  simp [run_underlying hu]
  intro hlt
  omega
end
end Go.Proofs.Ytaedmafmflohiaa
