/- errors.As at a target of type *api.Errno, by its contracts (after the guide's worked text on errors.As), and the law's num: an error's number. The law's num: an error's number. Rows in their blocks: a list of them, kept. No program is named here. -/
import Derived.Test.YthppbefemfkccaaDoorProg
import Derived.Test.YthppbefemfkccaaDoorQBloomRuns1
import Derived.LaidEql
import Derived.Stop.Asserts
import Derived.RowKitTokens
import Derived.WideLaws
import Derived.Test.YthppbefemfkccaaDoorQBloomRuns5
import Derived.Test.YthppbefemfkccaaDoorQBloomRuns2
namespace Go.Proofs.YthppbefemfkccaaDoor
open Go.RowKit Go.Extern.Stop Go.Stop Go.Extern

/-- package errors' variable errorType is laid: the handle of the type 'error'. -/
def HT (w : World) : Prop := w.cell? ⟨0, 0, none⟩ = some (.iface 111 (.agg #[.pointer (some ⟨1, 26, none⟩)]))
theorem HT.lt {w : World} (h : HT w) : 0 < w.heap.size := block_lt_of_cell h
theorem HT.keeps {S : List Nat} {w w' : World} (h : HT w) (hk : Keeps S w w') (hS : 0 ∉ S) : HT w' := hk.cell h hS
theorem HT.below {B : Nat} {w w' : World} (h : HT w) (hb : Below B w w') (hB : 0 < B) : HT w' := (hb.cell (p := ⟨0, 0, none⟩) hB).trans h

theorem as_nil (t : Value) (w : World) :
    Calls Tryd.prog 23 #[.nilIface, t] w fun e w' => e = .returned (.bool false) ∧ w' = w := by
  go_enter Tryd.func23, Tryd.ntmps23
  go_wp2
  go_ret
  exact ⟨rfl, rfl⟩

theorem valueOfT (t : Addr) (w : World) : (ReflectliteValue.unpack (.iface 59 (.pointer (some t)))).run Tryd.prog w
    = .ok (.agg #[.pointer (some ⟨1, 59, none⟩), .pointer (some ⟨w.heap.size, 0, none⟩), .int .u64 150]) (w.alloc (.cells #[.pointer (some t)] 59)) := by kernel_rfl
theorem typeT (a : Addr) (w : World) : (ReflectliteValue.methodAny (ReflectliteValue.valueError "reflectlite.Value.Type" 0) (fun t _ _ _ => ReflectliteType.toType t) #[.agg #[.pointer (some ⟨1, 59, none⟩), .pointer (some a), .int .u64 150]]).run Tryd.prog w
    = .ok (.iface 111 (.agg #[.pointer (some ⟨1, 59, none⟩)])) w := by kernel_rfl
theorem methodKind (h : Value) (w : World) : (Go.method 254 111 (.agg #[h]) "Kind").run Tryd.prog w = .ok (81, h) w := by kernel_rfl
theorem kindT (w : World) : ((ReflectliteType.abiMethod fun t => (fun a : Nat => Value.int IntKind.u8 (a : Int)) <$> Rtype.kind t) #[.pointer (some ⟨1, 59, none⟩)]).run Tryd.prog w = .ok (.int .u8 22) w := by kernel_rfl
theorem kindE (w : World) : ((ReflectliteType.abiMethod fun t => (fun a : Nat => Value.int IntKind.u8 (a : Int)) <$> Rtype.kind t) #[.pointer (some ⟨1, 55, none⟩)]).run Tryd.prog w = .ok (.int .u8 2) w := by kernel_rfl

theorem rlm (z : Sem Value) (f : TypeId → Addr → Nat → Nat → Sem Value) (v : Value) :
    ReflectliteValue.method z f #[v] = (do match ← ReflectliteValue.parts v with | none => z | some (t, a, fl) => f t a fl (fl % 32)) := rfl
theorem partsT (a : Addr) (w : World) : (ReflectliteValue.parts (.agg #[.pointer (some ⟨1, 59, none⟩), .pointer (some a), .int .u64 150])).run Tryd.prog w = .ok (some (59, a, 150)) w := by kernel_rfl
theorem isNilT (a p : Addr) (W : World) (ha : W.cell? a = some (.pointer (some p))) :
    (ReflectliteValue.method (ReflectliteValue.valueError "reflectlite.Value.IsNil" 0) ReflectliteValue.isNil #[.agg #[.pointer (some ⟨1, 59, none⟩), .pointer (some a), .int .u64 150]]).run Tryd.prog W = .ok (.bool false) W := by
  rw [rlm]
  simp only [Sem.run_bind, partsT, Result.andThen]
  simp [ReflectliteValue.isNil, loadVar, isAgg, underlying, Tryd.underlying59, ha, Result.andThen]

theorem methodElem (h : Value) (w : World) : (Go.method 254 111 (.agg #[h]) "Elem").run Tryd.prog w = .ok (92, .agg #[h]) w := by kernel_rfl
theorem methodImplements (h : Value) (w : World) : (Go.method 254 111 (.agg #[h]) "Implements").run Tryd.prog w = .ok (93, .agg #[h]) w := by kernel_rfl
theorem methodAssignableTo (h : Value) (w : World) : (Go.method 254 111 (.agg #[h]) "AssignableTo").run Tryd.prog w = .ok (90, .agg #[h]) w := by kernel_rfl
theorem elemT (w : World) : (ReflectliteType.method ReflectliteType.elem #[.agg #[.pointer (some ⟨1, 59, none⟩)]]).run Tryd.prog w = .ok (.iface 111 (.agg #[.pointer (some ⟨1, 55, none⟩)])) w := by kernel_rfl
theorem implementsE (w : World) : (ReflectliteType.relation "Implements" ReflectliteType.implements_ #[.agg #[.pointer (some ⟨1, 55, none⟩)], .iface 111 (.agg #[.pointer (some ⟨1, 26, none⟩)])]).run Tryd.prog w = .ok (.bool true) w := by kernel_rfl
theorem typeOfE (v : Value) (w : World) : (ReflectliteType.typeOf #[.iface 55 v]).run Tryd.prog w = .ok (.iface 111 (.agg #[.pointer (some ⟨1, 55, none⟩)])) w := by kernel_rfl
theorem assignableE (w : World) : (ReflectliteType.relation "AssignableTo" ReflectliteType.assignableTo #[.agg #[.pointer (some ⟨1, 55, none⟩)], .iface 111 (.agg #[.pointer (some ⟨1, 55, none⟩)])]).run Tryd.prog w = .ok (.bool true) w := by kernel_rfl
theorem valueOfE (n : Int) (w : World) : (ReflectliteValue.unpack (.iface 55 (.int .i64 n))).run Tryd.prog w
    = .ok (.agg #[.pointer (some ⟨1, 55, none⟩), .pointer (some ⟨w.heap.size, 0, none⟩), .int .u64 130]) (w.alloc (.cells #[.int .i64 n] 55)) := by kernel_rfl
theorem elemOfT (w : World) : (Rtype.elem? 59).run Tryd.prog w = .ok (some 55) w := by kernel_rfl
theorem mkE (p : Addr) (w : World) : (ReflectliteValue.mk 55 p ReflectliteValue.flagAddr).run Tryd.prog w = .ok (.agg #[.pointer (some ⟨1, 55, none⟩), .pointer (some p), .int .u64 386]) w := by kernel_rfl
theorem elemV (a p : Addr) (W : World) (ha : W.cell? a = some (.pointer (some p))) :
    (ReflectliteValue.method (ReflectliteValue.valueError "reflectlite.Value.Elem" 0) ReflectliteValue.elem #[.agg #[.pointer (some ⟨1, 59, none⟩), .pointer (some a), .int .u64 150]]).run Tryd.prog W
      = .ok (.agg #[.pointer (some ⟨1, 55, none⟩), .pointer (some p), .int .u64 386]) W := by
  rw [rlm]
  simp only [Sem.run_bind, partsT, Result.andThen]
  simp [ReflectliteValue.elem, loadVar, isAgg, underlying, Tryd.underlying59, ha, Result.andThen, elemOfT, mkE]
theorem rls (v x : Value) : ReflectliteValue.set #[v, x] = (do
    let (some (dst, a, fl), some (src, b, _)) := (← ReflectliteValue.parts v, ← ReflectliteValue.parts x)
      | unsupported (.noEntry "extern/(internal/reflectlite.Value).Set.zeroValue")
    if fl / ReflectliteValue.flagAddr % 2 == 0 then unsupported (.noEntry "extern/(internal/reflectlite.Value).Set.unaddressable")
    let val ← loadVar src b
    if ← Rtype.directlyAssignable dst src then storeVar dst a val
    else if ← Rtype.implements dst src then
      if (← Rtype.kind src) == 20 then
        match val with
        | .nilIface => unsupported (.noEntry "extern/reflectlite: a nil value of one interface type handed on as a value of another")
        | _ => storeVar dst a val
      else storeVar dst a (.iface src val)
    else panicString ("reflectlite.Set: value of type " ++ (← Rtype.spelt src) ++ " is not assignable to type " ++ (← Rtype.spelt dst))
    pure (.tuple #[])) := rfl
theorem partsEa (a : Addr) (w : World) : (ReflectliteValue.parts (.agg #[.pointer (some ⟨1, 55, none⟩), .pointer (some a), .int .u64 386])).run Tryd.prog w = .ok (some (55, a, 386)) w := by kernel_rfl
theorem partsE (a : Addr) (w : World) : (ReflectliteValue.parts (.agg #[.pointer (some ⟨1, 55, none⟩), .pointer (some a), .int .u64 130])).run Tryd.prog w = .ok (some (55, a, 130)) w := by kernel_rfl
theorem directE (w : World) : (Rtype.directlyAssignable 55 55).run Tryd.prog w = .ok true w := by kernel_rfl
theorem setE (ta b : Addr) (n : Int) (old : Value) (W : World) (hb : W.cell? b = some (.int .i64 n)) (ht : W.cell? ta = some old) (hf : W.frozen? ta = false) :
    (ReflectliteValue.set #[.agg #[.pointer (some ⟨1, 55, none⟩), .pointer (some ta), .int .u64 386], .agg #[.pointer (some ⟨1, 55, none⟩), .pointer (some b), .int .u64 130]]).run Tryd.prog W
      = .ok (.tuple #[]) (W.setCell ta (.int .i64 n)) := by
  rw [rls]
  simp only [Sem.run_bind, partsEa, partsE, Result.andThen]
  simp [ReflectliteValue.flagAddr, loadVar, isAgg, underlying, Tryd.underlying55, hb, Result.andThen, directE, storeVar, Value.cells, storeCells, Addr.add]
  rw [run_store Tryd.prog W ta _ _ (by rfl)]
  simp [ht, hf]

set_option maxHeartbeats 4000000 in
theorem as_hit (n : Int) (t : Addr) (old : Value) (w : World) (hg : HT w) (ht0 : w.cell? t = some old) (hf0 : w.frozen? t = false) :
    Calls Tryd.prog 23 #[.iface 55 (.int .i64 n), .iface 59 (.pointer (some t))] w fun ev w' => ev = .returned (.bool true) ∧ w' = ((((w.alloc (.cells #[.pointer (some t)] 59)).alloc (.cells #[.pointer (some ⟨1, 59, none⟩), .pointer (some ⟨w.heap.size, 0, none⟩), .int .u64 150] 86)).alloc (.cells #[.pointer (some ⟨1, 59, none⟩), .pointer (some ⟨w.heap.size, 0, none⟩), .int .u64 150] 86)).alloc (.cells #[.int .i64 n] 55)).setCell t (.int .i64 n) := by
  have h6 := @run_callFunc_extern Tryd.prog 40 _ (fun args => ReflectliteValue.unpack (args.getD 0 (.tuple #[]))) Tryd.func40 (by kernel_rfl) (by kernel_rfl) (by kernel_rfl) (by kernel_rfl)
  have h7 := @run_callFunc_extern Tryd.prog 41 _ (ReflectliteValue.methodAny (ReflectliteValue.valueError "reflectlite.Value.Type" 0) (fun t _ _ _ => ReflectliteType.toType t)) Tryd.func41 (by kernel_rfl) (by kernel_rfl) (by kernel_rfl) (by kernel_rfl)
  have h8 := @run_callFunc_extern Tryd.prog 42 _ (ReflectliteValue.method (ReflectliteValue.valueError "reflectlite.Value.IsNil" 0) ReflectliteValue.isNil) Tryd.func42 (by kernel_rfl) (by kernel_rfl) (by kernel_rfl) (by kernel_rfl)
  have h27 := @run_callFunc_extern Tryd.prog 81 _ (ReflectliteType.abiMethod fun t => do pure (.int .u8 (← Rtype.kind t))) Tryd.func81 (by kernel_rfl) (by kernel_rfl) (by kernel_rfl) (by kernel_rfl)
  have h37 := @run_callFunc_extern Tryd.prog 92 _ (ReflectliteType.method ReflectliteType.elem) Tryd.func92 (by kernel_rfl) (by kernel_rfl) (by kernel_rfl) (by kernel_rfl)
  have h38 := @run_callFunc_extern Tryd.prog 93 _ (ReflectliteType.relation "Implements" ReflectliteType.implements_) Tryd.func93 (by kernel_rfl) (by kernel_rfl) (by kernel_rfl) (by kernel_rfl)
  have h10 := @run_callFunc_extern Tryd.prog 59 _ ReflectliteType.typeOf Tryd.func59 (by kernel_rfl) (by kernel_rfl) (by kernel_rfl) (by kernel_rfl)
  have h35 := @run_callFunc_extern Tryd.prog 90 _ (ReflectliteType.relation "AssignableTo" ReflectliteType.assignableTo) Tryd.func90 (by kernel_rfl) (by kernel_rfl) (by kernel_rfl) (by kernel_rfl)
  have h11 := @run_callFunc_extern Tryd.prog 60 _ (ReflectliteValue.method (ReflectliteValue.valueError "reflectlite.Value.Elem" 0) ReflectliteValue.elem) Tryd.func60 (by kernel_rfl) (by kernel_rfl) (by kernel_rfl) (by kernel_rfl)
  have h12 := @run_callFunc_extern Tryd.prog 61 _ ReflectliteValue.set Tryd.func61 (by kernel_rfl) (by kernel_rfl) (by kernel_rfl) (by kernel_rfl)
  have tO := typeOfE
  have mA := methodAssignableTo
  have aE := assignableE
  have vE := valueOfE
  have f6 := valueOfT
  have f7 := typeT
  have mK := methodKind
  have mE := methodElem
  have mI := methodImplements
  have kT := kindT
  have kE := kindE
  have eT := elemT
  have iE := implementsE
  unfold HT at hg
  have n8 := isNilT ⟨w.heap.size, 0, none⟩ t ((w.alloc (.cells #[.pointer (some t)] 59)).alloc (.cells #[.pointer (some ⟨1, 59, none⟩), .pointer (some ⟨w.heap.size, 0, none⟩), .int .u64 150] 86)) (by simp)
  have hlt : 0 < w.heap.size := block_lt_of_cell hg
  have hg2 : ((w.alloc (.cells #[.pointer (some t)] 59)).alloc (.cells #[.pointer (some ⟨1, 59, none⟩), .pointer (some ⟨w.heap.size, 0, none⟩), .int .u64 150] 86)).cell? ⟨0, 0, none⟩ = some (.iface 111 (.agg #[.pointer (some ⟨1, 26, none⟩)])) := by
    rw [World.cell?_alloc_lt _ _ ⟨0, 0, none⟩ (by simp <;> omega), World.cell?_alloc_lt _ _ ⟨0, 0, none⟩ hlt]; exact hg
  have htl : t.block < w.heap.size := block_lt_of_cell ht0
  have el := elemV ⟨w.heap.size, 0, none⟩ t (((w.alloc (.cells #[.pointer (some t)] 59)).alloc (.cells #[.pointer (some ⟨1, 59, none⟩), .pointer (some ⟨w.heap.size, 0, none⟩), .int .u64 150] 86)).alloc (.cells #[.pointer (some ⟨1, 59, none⟩), .pointer (some ⟨w.heap.size, 0, none⟩), .int .u64 150] 86)) (by rw [World.cell?_alloc_lt _ _ ⟨w.heap.size, 0, none⟩ (by simp <;> omega)]; simp)
  have st := setE t ⟨w.heap.size + 1 + 1 + 1, 0, none⟩ n old ((((w.alloc (.cells #[.pointer (some t)] 59)).alloc (.cells #[.pointer (some ⟨1, 59, none⟩), .pointer (some ⟨w.heap.size, 0, none⟩), .int .u64 150] 86)).alloc (.cells #[.pointer (some ⟨1, 59, none⟩), .pointer (some ⟨w.heap.size, 0, none⟩), .int .u64 150] 86)).alloc (.cells #[.int .i64 n] 55))
    (by rw [World.cell?_alloc_at _ _ _ _ (by simp)]; rfl)
    (by rw [World.cell?_alloc_lt _ _ t (by simp <;> omega), World.cell?_alloc_lt _ _ t (by simp <;> omega), World.cell?_alloc_lt _ _ t (by simp <;> omega), World.cell?_alloc_lt _ _ t htl]; exact ht0)
    (by rw [World.frozen?_alloc_old _ _ t (by simp <;> omega), World.frozen?_alloc_old _ _ t (by simp <;> omega), World.frozen?_alloc_old _ _ t (by simp <;> omega), World.frozen?_alloc_old _ _ t (Nat.ne_of_lt htl)]; exact hf0)
  go_enter Tryd.func23, Tryd.ntmps23
  go_wp2
  refine wp_loop_rounds 1 ?_
  rw [rounds_succ]
  go_wp2
  go_ret
  exact ⟨rfl, rfl⟩
end Go.Proofs.YthppbefemfkccaaDoor
namespace Go.Proofs.YthppbefemfkccaaDoor
open Go.RowKit

theorem num_nil (w : World) : Calls Tryd.prog 8 #[.nilIface] w fun e w' => e = .returned (.int .i64 0) ∧ Keeps [] w w' := by
  go_enter Tryd.func8, Tryd.ntmps8
  go_wp2_with fail
  go_ret
  exact ⟨rfl, (Keeps.refl [] w).alloc _⟩

theorem num_err (n : Int) (w : World) (hg : HT w) : Calls Tryd.prog 8 #[.iface 55 (.int .i64 n)] w fun e w' => e = .returned (.int .i64 n) ∧ Keeps [] w w' := by
  have hg1 := Lib.hid (hg.keeps ((Keeps.refl [] w).alloc (.cells #[.int .i64 0] 55)) (by simp))
  clear hg
  go_enter Tryd.func8, Tryd.ntmps8
  go_wp2_with fail
  refine (as_hit n ⟨w.heap.size, 0, none⟩ (.int .i64 0) _ hg1.out (by simp) (by simp)).mono ?_
  rintro e w' ⟨rfl, rfl⟩
  go_wp2_with fail
  go_ret
  refine ⟨rfl, ?_⟩
  exact (((((Keeps.refl [] w).alloc _).alloc _).alloc _).alloc _).alloc _
theorem num_any (n : Int) (w : World) (hg : HT w) : Calls Tryd.prog 8 #[errV n] w fun e w' => e = .returned (.int .i64 n) ∧ Keeps [] w w' := by
  by_cases h : n = 0
  · subst h
    exact num_nil w
  · rw [errV_other h]
    exact num_err n w hg
end Go.Proofs.YthppbefemfkccaaDoor
namespace Go.Proofs.YthppbefemfkccaaDoor
open Go.RowKit

def Rw (l : List (Nat × TypeId × List Value)) (z : World) : Prop := ∀ r ∈ l, z.heap[r.1]? = some (.cells r.2.2.toArray r.2.1 (0, 0))
theorem Rw.nil (z : World) : Rw [] z := fun _ h => absurd h (by simp)
theorem Rw.keeps {S : List Nat} {l : List (Nat × TypeId × List Value)} {z z' : World} (h : Rw l z) (hk : Keeps S z z') (hS : ∀ r ∈ l, r.1 ∉ S) : Rw l z' := fun r hr => (hk.block r.1 (lt_of_block (h r hr)) (hS r hr)).trans (h r hr)
theorem Rw.keeps0 {l : List (Nat × TypeId × List Value)} {z z' : World} (h : Rw l z) (hk : Keeps [] z z') : Rw l z' := h.keeps hk (fun _ _ => by simp)
theorem Rw.lt {l : List (Nat × TypeId × List Value)} {z : World} (h : Rw l z) {r : Nat × TypeId × List Value} (hr : r ∈ l) : r.1 < z.heap.size := lt_of_block (h r hr)
theorem Rw.new {l : List (Nat × TypeId × List Value)} {z z' : World} (h : Rw l z) {o : Obj} (hk : Keeps [z.heap.size] (z.alloc o) z') {cs : List Value} {T : TypeId} (h' : z'.heap[z.heap.size]? = some (.cells cs.toArray T (0, 0))) : Rw ((z.heap.size, T, cs) :: l) z' := by
  intro r hr
  rcases List.mem_cons.1 hr with rfl | hr
  · exact h'
  · have hl := h.lt hr
    rw [hk.block r.1 (by simp; omega) (by simp; omega), heap_alloc_old _ _ (h := hl)]
    exact h r hr
theorem Rw.alloc {l : List (Nat × TypeId × List Value)} {z : World} (h : Rw l z) (cs : List Value) (T : TypeId) : Rw ((z.heap.size, T, cs) :: l) (z.alloc (.cells cs.toArray T)) := by
  intro r hr
  rcases List.mem_cons.1 hr with rfl | hr
  · exact heap_alloc_new _ _
  · rw [heap_alloc_old _ _ (h := h.lt hr)]
    exact h r hr
theorem Rw.sub {l l' : List (Nat × TypeId × List Value)} {z : World} (h : Rw l z) (hs : ∀ r ∈ l', r ∈ l) : Rw l' z := fun r hr => h r (hs r hr)
theorem Keeps.new {a z z' : World} (h : Keeps [] a z) {o : Obj} (hk : Keeps [z.heap.size] (z.alloc o) z') : Keeps [] a z' := (h.alloc o).trans hk (fun t ht => .inr (by simp at ht; have := h.size; omega))
end Go.Proofs.YthppbefemfkccaaDoor
