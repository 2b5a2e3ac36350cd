/- What must come whatever the input is. errors.As at a target of type *api.Errno, by its contracts (after the guide's worked text on errors.As), and the law's num: an error's number. An error of the program by its number: nil for 0. The law's num: an error's number. The law on what is dropped: called with any rows it answers true. -/
import Derived.Test.YtaedmafmflohiaaDoorQMergeAll11
import Derived.Test.YtaedmafmflohiaaDoorProg
import Derived.Test.YtaedmafmflohiaaDoorQMergeAll1
import Derived.LaidEql
import Derived.Stop.Asserts
import Derived.RowKitTokens
import Derived.WideLaws
import Derived.Test.YtaedmafmflohiaaDoorQMergeAll13
import Derived.RegionTactic
import Derived.Laws.Cover1
namespace Go.Proofs.YtaedmafmflohiaaDoor
open Go.RowKit

def sn1 : En := ⟨[97], [110, 101, 119], false⟩
def sn2 : En := ⟨[97], [111, 108, 100], false⟩
def sn3 : En := ⟨[98], [], false⟩
def rsS (g : Nat) : List Ro := [⟨some ⟨g, 0, none⟩, 1, [sn1]⟩, ⟨some ⟨g + 1, 0, none⟩, 2, [sn2, sn3]⟩]
theorem rsS_srt (g : Nat) : ∀ es ∈ (rsS g).map Ro.es, Srt es := by
  intro es h
  simp only [rsS, List.map_cons, List.map_nil, List.mem_cons, List.not_mem_nil, or_false] at h
  rcases h with rfl | rfl
  · exact List.pairwise_singleton _ _
  · exact List.pairwise_pair.2 rfl
theorem rsS_M (g : Nat) : refM ((rsS g).map Ro.es) = [sn1, sn3] := rfl
theorem rsS_rd {w : World} : RdL (((w.alloc (.cells (encEn [sn1]).toArray 39)).alloc (.cells (encEn [sn2, sn3]).toArray 39)).alloc (.cells ((rsS w.heap.size).map Ro.cell).toArray 26)) (some ⟨w.heap.size + 2, 0, none⟩) (rsS w.heap.size) := by
  obtain ⟨w1, hw1⟩ : ∃ w1, w1 = w.alloc (.cells (encEn [sn1]).toArray 39) := ⟨_, rfl⟩
  obtain ⟨w2, hw2⟩ : ∃ w2, w2 = w1.alloc (.cells (encEn [sn2, sn3]).toArray 39) := ⟨_, rfl⟩
  obtain ⟨w3, hw3⟩ : ∃ w3, w3 = w2.alloc (.cells ((rsS w.heap.size).map Ro.cell).toArray 26) := ⟨_, rfl⟩
  rw [← hw1, ← hw2, ← hw3]
  have s1 : w1.heap.size = w.heap.size + 1 := by rw [hw1]; exact World.size_alloc _ _
  have s2 : w2.heap.size = w.heap.size + 2 := by rw [hw2, World.size_alloc, s1]
  have b1 : w1.heap[w.heap.size]? = some (.cells (encEn [sn1]).toArray 39 (0, 0)) := by rw [hw1]; exact heap_alloc_new _ _
  have b2 : w2.heap[w.heap.size + 1]? = some (.cells (encEn [sn2, sn3]).toArray 39 (0, 0)) := by rw [hw2, ← s1]; exact heap_alloc_new _ _
  have b3 : w3.heap[w.heap.size + 2]? = some (.cells ((rsS w.heap.size).map Ro.cell).toArray 26 (0, 0)) := by rw [hw3, ← s2]; exact heap_alloc_new _ _
  have k12 : Keeps [] w1 w2 := by rw [hw2]; exact (Keeps.refl _ _).alloc _
  have k23 : Keeps [] w2 w3 := by rw [hw3]; exact (Keeps.refl _ _).alloc _
  refine ⟨rd_row1 b3 rfl, fun r hr => ?_⟩
  simp only [rsS, List.mem_cons, List.not_mem_nil, or_false] at hr
  rcases hr with rfl | rfl
  · exact ⟨((rd_rowN b1 rfl).keeps0 k12).keeps0 k23, by show 1 ≤ 1000; omega⟩
  · exact ⟨(rd_rowN b2 rfl).keeps0 k23, by show 2 ≤ 1000; omega⟩
set_option maxHeartbeats 4000000 in
theorem sure4_any (w : World) : Calls Tryd.prog 6 #[] w fun r w' => r = .returned (.bool true) ∧ Keeps [] w w' := by
  go_enter Tryd.func6, Tryd.ntmps6
  go_wp2_with fail
  have HC := all_any (some ⟨w.heap.size + 2, 0, none⟩) 2 (rsS w.heap.size) false (refM ((rsS w.heap.size).map Ro.es)) _ (rsS_rd (w := w)) (show 2 ≤ 1000 by omega) (fun h => refM_is _ h) (by rw [rsS_M]; show 2 ≤ 100000; omega)
  rw [rsS_M] at HC
  refine HC.mono ?_
  clear HC
  rintro r w3 ⟨hk3, ⟨_, AA, cA, rfl, ho3, _⟩ | ⟨hns, _⟩⟩
  rotate_left
  · exact absurd (rsS_srt w.heap.size) hns
  have e2 : keepE false [sn1, sn3] = [sn1, sn3] := rfl
  rw [e2] at ho3 ⊢
  have H3 := Lib.hid (show Rd w3 AA 2 3 (encEn [sn1, sn3]) ∧ Keeps [] w w3 from ⟨Rd.of_own ho3, ((((Keeps.refl [] w).alloc _).alloc _).alloc _).trans hk3 (by simp)⟩)
  clear ho3 hk3 e2
  go_wp2_with fail
  have HES := entries_same4 [sn1, sn3] AA (some ⟨w3.heap.size, 0, none⟩) cA 2 (w3.alloc (.cells (encEn [sn1, sn3]).toArray 39)) (H3.out.1.keeps0 ((Keeps.refl [] w3).alloc _)) (rd_rowN (heap_alloc_new _ _) rfl) (show 2 ≤ 1000000 by omega)
  refine HES.mono ?_
  clear HES
  rintro r w4 ⟨rfl, hk4⟩
  have H4 := Lib.hid (show Keeps [] w w4 from (H3.out.2.alloc _).trans hk4 (by simp))
  clear hk4
  go_wp2_with fail
  go_ret
  exact ⟨rfl, H4.out⟩
end Go.Proofs.YtaedmafmflohiaaDoor
namespace Go.Proofs.YtaedmafmflohiaaDoor
open Go.RowKit Go.Extern.Stop Go.Stop Go.Extern

/-- package errors' variable errorType is laid: the handle of the type 'error'. -/
def HT (w : World) : Prop := w.cell? ⟨0, 0, none⟩ = some (.iface 79 (.agg #[.pointer (some ⟨2, 28, none⟩)]))
theorem HT.lt {w : World} (h : HT w) : 0 < w.heap.size := block_lt_of_cell h
theorem HT.keeps {S : List Nat} {w w' : World} (h : HT w) (hk : Keeps S w w') (hS : 0 ∉ S) : HT w' := hk.cell h hS
theorem HT.below {B : Nat} {w w' : World} (h : HT w) (hb : Below B w w') (hB : 0 < B) : HT w' := (hb.cell (p := ⟨0, 0, none⟩) hB).trans h

theorem as_nil (t : Value) (w : World) :
    Calls Tryd.prog 18 #[.nilIface, t] w fun e w' => e = .returned (.bool false) ∧ w' = w := by
  go_enter Tryd.func18, Tryd.ntmps18
  go_wp2
  go_ret
  exact ⟨rfl, rfl⟩

theorem valueOfT (t : Addr) (w : World) : (ReflectliteValue.unpack (.iface 55 (.pointer (some t)))).run Tryd.prog w
    = .ok (.agg #[.pointer (some ⟨2, 55, none⟩), .pointer (some ⟨w.heap.size, 0, none⟩), .int .u64 150]) (w.alloc (.cells #[.pointer (some t)] 55)) := by kernel_rfl
theorem typeT (a : Addr) (w : World) : (ReflectliteValue.methodAny (ReflectliteValue.valueError "reflectlite.Value.Type" 0) (fun t _ _ _ => ReflectliteType.toType t) #[.agg #[.pointer (some ⟨2, 55, none⟩), .pointer (some a), .int .u64 150]]).run Tryd.prog w
    = .ok (.iface 79 (.agg #[.pointer (some ⟨2, 55, none⟩)])) w := by kernel_rfl
theorem methodKind (h : Value) (w : World) : (Go.method 228 79 (.agg #[h]) "Kind").run Tryd.prog w = .ok (45, h) w := by kernel_rfl
theorem kindT (w : World) : ((ReflectliteType.abiMethod fun t => (fun a : Nat => Value.int IntKind.u8 (a : Int)) <$> Rtype.kind t) #[.pointer (some ⟨2, 55, none⟩)]).run Tryd.prog w = .ok (.int .u8 22) w := by kernel_rfl
theorem kindE (w : World) : ((ReflectliteType.abiMethod fun t => (fun a : Nat => Value.int IntKind.u8 (a : Int)) <$> Rtype.kind t) #[.pointer (some ⟨2, 49, none⟩)]).run Tryd.prog w = .ok (.int .u8 2) w := by kernel_rfl

theorem rlm (z : Sem Value) (f : TypeId → Addr → Nat → Nat → Sem Value) (v : Value) :
    ReflectliteValue.method z f #[v] = (do match ← ReflectliteValue.parts v with | none => z | some (t, a, fl) => f t a fl (fl % 32)) := rfl
theorem partsT (a : Addr) (w : World) : (ReflectliteValue.parts (.agg #[.pointer (some ⟨2, 55, none⟩), .pointer (some a), .int .u64 150])).run Tryd.prog w = .ok (some (55, a, 150)) w := by kernel_rfl
theorem isNilT (a p : Addr) (W : World) (ha : W.cell? a = some (.pointer (some p))) :
    (ReflectliteValue.method (ReflectliteValue.valueError "reflectlite.Value.IsNil" 0) ReflectliteValue.isNil #[.agg #[.pointer (some ⟨2, 55, none⟩), .pointer (some a), .int .u64 150]]).run Tryd.prog W = .ok (.bool false) W := by
  rw [rlm]
  simp only [Sem.run_bind, partsT, Result.andThen]
  simp [ReflectliteValue.isNil, loadVar, isAgg, underlying, Tryd.underlying55, ha, Result.andThen]

theorem methodElem (h : Value) (w : World) : (Go.method 228 79 (.agg #[h]) "Elem").run Tryd.prog w = .ok (67, .agg #[h]) w := by kernel_rfl
theorem methodImplements (h : Value) (w : World) : (Go.method 228 79 (.agg #[h]) "Implements").run Tryd.prog w = .ok (68, .agg #[h]) w := by kernel_rfl
theorem methodAssignableTo (h : Value) (w : World) : (Go.method 228 79 (.agg #[h]) "AssignableTo").run Tryd.prog w = .ok (65, .agg #[h]) w := by kernel_rfl
theorem elemT (w : World) : (ReflectliteType.method ReflectliteType.elem #[.agg #[.pointer (some ⟨2, 55, none⟩)]]).run Tryd.prog w = .ok (.iface 79 (.agg #[.pointer (some ⟨2, 49, none⟩)])) w := by kernel_rfl
theorem implementsE (w : World) : (ReflectliteType.relation "Implements" ReflectliteType.implements_ #[.agg #[.pointer (some ⟨2, 49, none⟩)], .iface 79 (.agg #[.pointer (some ⟨2, 28, none⟩)])]).run Tryd.prog w = .ok (.bool true) w := by kernel_rfl
theorem typeOfE (v : Value) (w : World) : (ReflectliteType.typeOf #[.iface 49 v]).run Tryd.prog w = .ok (.iface 79 (.agg #[.pointer (some ⟨2, 49, none⟩)])) w := by kernel_rfl
theorem assignableE (w : World) : (ReflectliteType.relation "AssignableTo" ReflectliteType.assignableTo #[.agg #[.pointer (some ⟨2, 49, none⟩)], .iface 79 (.agg #[.pointer (some ⟨2, 49, none⟩)])]).run Tryd.prog w = .ok (.bool true) w := by kernel_rfl
theorem valueOfE (n : Int) (w : World) : (ReflectliteValue.unpack (.iface 49 (.int .i64 n))).run Tryd.prog w
    = .ok (.agg #[.pointer (some ⟨2, 49, none⟩), .pointer (some ⟨w.heap.size, 0, none⟩), .int .u64 130]) (w.alloc (.cells #[.int .i64 n] 49)) := by kernel_rfl
theorem elemOfT (w : World) : (Rtype.elem? 55).run Tryd.prog w = .ok (some 49) w := by kernel_rfl
theorem mkE (p : Addr) (w : World) : (ReflectliteValue.mk 49 p ReflectliteValue.flagAddr).run Tryd.prog w = .ok (.agg #[.pointer (some ⟨2, 49, none⟩), .pointer (some p), .int .u64 386]) w := by kernel_rfl
theorem elemV (a p : Addr) (W : World) (ha : W.cell? a = some (.pointer (some p))) :
    (ReflectliteValue.method (ReflectliteValue.valueError "reflectlite.Value.Elem" 0) ReflectliteValue.elem #[.agg #[.pointer (some ⟨2, 55, none⟩), .pointer (some a), .int .u64 150]]).run Tryd.prog W
      = .ok (.agg #[.pointer (some ⟨2, 49, none⟩), .pointer (some p), .int .u64 386]) W := by
  rw [rlm]
  simp only [Sem.run_bind, partsT, Result.andThen]
  simp [ReflectliteValue.elem, loadVar, isAgg, underlying, Tryd.underlying55, ha, Result.andThen, elemOfT, mkE]
theorem rls (v x : Value) : ReflectliteValue.set #[v, x] = (do
    let (some (dst, a, fl), some (src, b, _)) := (← ReflectliteValue.parts v, ← ReflectliteValue.parts x)
      | unsupported (.noEntry "extern/(internal/reflectlite.Value).Set.zeroValue")
    if fl / ReflectliteValue.flagAddr % 2 == 0 then unsupported (.noEntry "extern/(internal/reflectlite.Value).Set.unaddressable")
    let val ← loadVar src b
    if ← Rtype.directlyAssignable dst src then storeVar dst a val
    else if ← Rtype.implements dst src then
      if (← Rtype.kind src) == 20 then
        match val with
        | .nilIface => unsupported (.noEntry "extern/reflectlite: a nil value of one interface type handed on as a value of another")
        | _ => storeVar dst a val
      else storeVar dst a (.iface src val)
    else panicString ("reflectlite.Set: value of type " ++ (← Rtype.spelt src) ++ " is not assignable to type " ++ (← Rtype.spelt dst))
    pure (.tuple #[])) := rfl
theorem partsEa (a : Addr) (w : World) : (ReflectliteValue.parts (.agg #[.pointer (some ⟨2, 49, none⟩), .pointer (some a), .int .u64 386])).run Tryd.prog w = .ok (some (49, a, 386)) w := by kernel_rfl
theorem partsE (a : Addr) (w : World) : (ReflectliteValue.parts (.agg #[.pointer (some ⟨2, 49, none⟩), .pointer (some a), .int .u64 130])).run Tryd.prog w = .ok (some (49, a, 130)) w := by kernel_rfl
theorem directE (w : World) : (Rtype.directlyAssignable 49 49).run Tryd.prog w = .ok true w := by kernel_rfl
theorem setE (ta b : Addr) (n : Int) (old : Value) (W : World) (hb : W.cell? b = some (.int .i64 n)) (ht : W.cell? ta = some old) (hf : W.frozen? ta = false) :
    (ReflectliteValue.set #[.agg #[.pointer (some ⟨2, 49, none⟩), .pointer (some ta), .int .u64 386], .agg #[.pointer (some ⟨2, 49, none⟩), .pointer (some b), .int .u64 130]]).run Tryd.prog W
      = .ok (.tuple #[]) (W.setCell ta (.int .i64 n)) := by
  rw [rls]
  simp only [Sem.run_bind, partsEa, partsE, Result.andThen]
  simp [ReflectliteValue.flagAddr, loadVar, isAgg, underlying, Tryd.underlying49, hb, Result.andThen, directE, storeVar, Value.cells, storeCells, Addr.add]
  rw [run_store Tryd.prog W ta _ _ (by rfl)]
  simp [ht, hf]

set_option maxHeartbeats 4000000 in
theorem as_hit (n : Int) (t : Addr) (old : Value) (w : World) (hg : HT w) (ht0 : w.cell? t = some old) (hf0 : w.frozen? t = false) :
    Calls Tryd.prog 18 #[.iface 49 (.int .i64 n), .iface 55 (.pointer (some t))] w fun ev w' => ev = .returned (.bool true) ∧ w' = ((((w.alloc (.cells #[.pointer (some t)] 55)).alloc (.cells #[.pointer (some ⟨2, 55, none⟩), .pointer (some ⟨w.heap.size, 0, none⟩), .int .u64 150] 64)).alloc (.cells #[.pointer (some ⟨2, 55, none⟩), .pointer (some ⟨w.heap.size, 0, none⟩), .int .u64 150] 64)).alloc (.cells #[.int .i64 n] 49)).setCell t (.int .i64 n) := by
  have h6 := @run_callFunc_extern Tryd.prog 21 _ (fun args => ReflectliteValue.unpack (args.getD 0 (.tuple #[]))) Tryd.func21 (by kernel_rfl) (by kernel_rfl) (by kernel_rfl) (by kernel_rfl)
  have h7 := @run_callFunc_extern Tryd.prog 22 _ (ReflectliteValue.methodAny (ReflectliteValue.valueError "reflectlite.Value.Type" 0) (fun t _ _ _ => ReflectliteType.toType t)) Tryd.func22 (by kernel_rfl) (by kernel_rfl) (by kernel_rfl) (by kernel_rfl)
  have h8 := @run_callFunc_extern Tryd.prog 23 _ (ReflectliteValue.method (ReflectliteValue.valueError "reflectlite.Value.IsNil" 0) ReflectliteValue.isNil) Tryd.func23 (by kernel_rfl) (by kernel_rfl) (by kernel_rfl) (by kernel_rfl)
  have h27 := @run_callFunc_extern Tryd.prog 45 _ (ReflectliteType.abiMethod fun t => do pure (.int .u8 (← Rtype.kind t))) Tryd.func45 (by kernel_rfl) (by kernel_rfl) (by kernel_rfl) (by kernel_rfl)
  have h37 := @run_callFunc_extern Tryd.prog 67 _ (ReflectliteType.method ReflectliteType.elem) Tryd.func67 (by kernel_rfl) (by kernel_rfl) (by kernel_rfl) (by kernel_rfl)
  have h38 := @run_callFunc_extern Tryd.prog 68 _ (ReflectliteType.relation "Implements" ReflectliteType.implements_) Tryd.func68 (by kernel_rfl) (by kernel_rfl) (by kernel_rfl) (by kernel_rfl)
  have h10 := @run_callFunc_extern Tryd.prog 27 _ ReflectliteType.typeOf Tryd.func27 (by kernel_rfl) (by kernel_rfl) (by kernel_rfl) (by kernel_rfl)
  have h35 := @run_callFunc_extern Tryd.prog 65 _ (ReflectliteType.relation "AssignableTo" ReflectliteType.assignableTo) Tryd.func65 (by kernel_rfl) (by kernel_rfl) (by kernel_rfl) (by kernel_rfl)
  have h11 := @run_callFunc_extern Tryd.prog 28 _ (ReflectliteValue.method (ReflectliteValue.valueError "reflectlite.Value.Elem" 0) ReflectliteValue.elem) Tryd.func28 (by kernel_rfl) (by kernel_rfl) (by kernel_rfl) (by kernel_rfl)
  have h12 := @run_callFunc_extern Tryd.prog 29 _ ReflectliteValue.set Tryd.func29 (by kernel_rfl) (by kernel_rfl) (by kernel_rfl) (by kernel_rfl)
  have tO := typeOfE
  have mA := methodAssignableTo
  have aE := assignableE
  have vE := valueOfE
  have f6 := valueOfT
  have f7 := typeT
  have mK := methodKind
  have mE := methodElem
  have mI := methodImplements
  have kT := kindT
  have kE := kindE
  have eT := elemT
  have iE := implementsE
  unfold HT at hg
  have n8 := isNilT ⟨w.heap.size, 0, none⟩ t ((w.alloc (.cells #[.pointer (some t)] 55)).alloc (.cells #[.pointer (some ⟨2, 55, none⟩), .pointer (some ⟨w.heap.size, 0, none⟩), .int .u64 150] 64)) (by simp)
  have hlt : 0 < w.heap.size := block_lt_of_cell hg
  have hg2 : ((w.alloc (.cells #[.pointer (some t)] 55)).alloc (.cells #[.pointer (some ⟨2, 55, none⟩), .pointer (some ⟨w.heap.size, 0, none⟩), .int .u64 150] 64)).cell? ⟨0, 0, none⟩ = some (.iface 79 (.agg #[.pointer (some ⟨2, 28, none⟩)])) := by
    rw [World.cell?_alloc_lt _ _ ⟨0, 0, none⟩ (by simp <;> omega), World.cell?_alloc_lt _ _ ⟨0, 0, none⟩ hlt]; exact hg
  have htl : t.block < w.heap.size := block_lt_of_cell ht0
  have el := elemV ⟨w.heap.size, 0, none⟩ t (((w.alloc (.cells #[.pointer (some t)] 55)).alloc (.cells #[.pointer (some ⟨2, 55, none⟩), .pointer (some ⟨w.heap.size, 0, none⟩), .int .u64 150] 64)).alloc (.cells #[.pointer (some ⟨2, 55, none⟩), .pointer (some ⟨w.heap.size, 0, none⟩), .int .u64 150] 64)) (by rw [World.cell?_alloc_lt _ _ ⟨w.heap.size, 0, none⟩ (by simp <;> omega)]; simp)
  have st := setE t ⟨w.heap.size + 1 + 1 + 1, 0, none⟩ n old ((((w.alloc (.cells #[.pointer (some t)] 55)).alloc (.cells #[.pointer (some ⟨2, 55, none⟩), .pointer (some ⟨w.heap.size, 0, none⟩), .int .u64 150] 64)).alloc (.cells #[.pointer (some ⟨2, 55, none⟩), .pointer (some ⟨w.heap.size, 0, none⟩), .int .u64 150] 64)).alloc (.cells #[.int .i64 n] 49))
    (by rw [World.cell?_alloc_at _ _ _ _ (by simp)]; rfl)
    (by rw [World.cell?_alloc_lt _ _ t (by simp <;> omega), World.cell?_alloc_lt _ _ t (by simp <;> omega), World.cell?_alloc_lt _ _ t (by simp <;> omega), World.cell?_alloc_lt _ _ t htl]; exact ht0)
    (by rw [World.frozen?_alloc_old _ _ t (by simp <;> omega), World.frozen?_alloc_old _ _ t (by simp <;> omega), World.frozen?_alloc_old _ _ t (by simp <;> omega), World.frozen?_alloc_old _ _ t (Nat.ne_of_lt htl)]; exact hf0)
  go_enter Tryd.func18, Tryd.ntmps18
  go_wp2
  refine wp_loop_rounds 1 ?_
  rw [rounds_succ]
  go_wp2
  go_ret
  exact ⟨rfl, rfl⟩
end Go.Proofs.YtaedmafmflohiaaDoor
namespace Go.Proofs.YtaedmafmflohiaaDoor
open Go.RowKit
def errV (n : Int) : Value := if n = 0 then .nilIface else .iface 49 (.int .i64 n)
theorem errV_zero : errV 0 = .nilIface := rfl
theorem errV_other {n : Int} (h : n ≠ 0) : errV n = .iface 49 (.int .i64 n) := if_neg h
end Go.Proofs.YtaedmafmflohiaaDoor
namespace Go.Proofs.YtaedmafmflohiaaDoor
open Go.RowKit

theorem num_nil (w : World) : Calls Tryd.prog 12 #[.nilIface] w fun e w' => e = .returned (.int .i64 0) ∧ Keeps [] w w' := by
  go_enter Tryd.func12, Tryd.ntmps12
  go_wp2_with fail
  go_ret
  exact ⟨rfl, (Keeps.refl [] w).alloc _⟩

theorem num_err (n : Int) (w : World) (hg : HT w) : Calls Tryd.prog 12 #[.iface 49 (.int .i64 n)] w fun e w' => e = .returned (.int .i64 n) ∧ Keeps [] w w' := by
  have hg1 := Lib.hid (hg.keeps ((Keeps.refl [] w).alloc (.cells #[.int .i64 0] 49)) (by simp))
  clear hg
  go_enter Tryd.func12, Tryd.ntmps12
  go_wp2_with fail
  refine (as_hit n ⟨w.heap.size, 0, none⟩ (.int .i64 0) _ hg1.out (by simp) (by simp)).mono ?_
  rintro e w' ⟨rfl, rfl⟩
  go_wp2_with fail
  go_ret
  refine ⟨rfl, ?_⟩
  exact (((((Keeps.refl [] w).alloc _).alloc _).alloc _).alloc _).alloc _
theorem num_any (n : Int) (w : World) (hg : HT w) : Calls Tryd.prog 12 #[errV n] w fun e w' => e = .returned (.int .i64 n) ∧ Keeps [] w w' := by
  by_cases h : n = 0
  · subst h
    exact num_nil w
  · rw [errV_other h]
    exact num_err n w hg
end Go.Proofs.YtaedmafmflohiaaDoor
namespace Go.Proofs.YtaedmafmflohiaaDoor
open Go.RowKit

theorem keepE_at {M : List En} {i : Nat} (hi : i < M.length) (hg : (M[i]'hi).g = false) : ∃ h : (keepE true (M.take i)).length < (keepE true M).length, (keepE true M)[(keepE true (M.take i)).length] = M[i] := by
  have e : keepE true M = keepE true (M.take i) ++ (M[i] :: keepE true (M.drop (i + 1))) := by
    conv => lhs; rw [← List.take_append_drop i M, List.drop_eq_getElem_cons hi]
    unfold keepE
    rw [List.filter_append, List.filter_cons, if_pos (by rw [hg]; rfl)]
  have h1 : (keepE true (M.take i)).length < (keepE true M).length := by rw [e, List.length_append, List.length_cons]; omega
  refine ⟨h1, ?_⟩
  have h2 : (keepE true M)[(keepE true (M.take i)).length]? = some M[i] := by rw [e, List.getElem?_append_right (Nat.le_refl _), Nat.sub_self]; rfl
  rw [List.getElem?_eq_getElem h1] at h2
  injection h2
/-- Gone entries have no value. -/
theorem refM_norm : ∀ (Ls : List (List En)), ∀ x ∈ refM Ls, x.norm = x
  | [] => by intro x hx; cases hx
  | es :: Ls => foldl_norm es _ (refM_srt Ls) (refM_norm Ls)
theorem norm_gone {x : En} (h : x.norm = x) (hg : x.g = true) : x.v = [] := by
  rw [← h]
  unfold En.norm
  rw [if_pos hg]
theorem totR_len {rs : List Ro} : ∀ r ∈ rs, r.es.length ≤ totR rs := by
  intro r hr
  have h1 := len_le_sum14 (List.mem_map_of_mem (f := Ro.es) hr)
  unfold totR
  rw [List.map_map] at h1
  exact h1
theorem rd_none (w : World) : Rd w none 0 3 (encEn []) := Rd.of_own (World.ownsRow_nil w 0 39 3)
/-- Sorted or not, in one. -/
def OkM (Ls : List (List En)) (M M' : List En) (q : Int) : Prop := ((∀ es ∈ Ls, Srt es) ∧ q = 0 ∧ M' = M) ∨ ((¬ ∀ es ∈ Ls, Srt es) ∧ q = 41 ∧ M' = [])
theorem AllP.err {Ls : List (List En)} {M M' : List En} {drop : Bool} {w w' : World} {r : Ending} {q : Int} (h : AllP Ls M drop w r w') (hq : OkM Ls M M' q) :
    ∃ AA cA, r = .returned (.tuple #[.slice AA (keepE drop M').length cA, errV q]) ∧ Rd w' AA (keepE drop M').length 3 (encEn (keepE drop M')) ∧ Keeps [] w w' := by
  obtain ⟨hk, h⟩ := h
  rcases h with ⟨h1, AA, cA, h2, h3, _⟩ | ⟨h1, h2⟩
  · rcases hq with ⟨_, rfl, rfl⟩ | ⟨h4, _⟩
    · exact ⟨AA, cA, h2, Rd.of_own h3, hk⟩
    · exact absurd h1 h4
  · rcases hq with ⟨h4, _⟩ | ⟨_, rfl, rfl⟩
    · exact absurd h4 h1
    · exact ⟨none, 0, h2, rd_none _, hk⟩
theorem RAllP.err {Ls : List (List En)} {M' : List En} {drop : Bool} {w w' : World} {r : Ending} {q : Int} (h : RAllP Ls drop w r w') (hq : OkM Ls (refM Ls) M' q) :
    ∃ AA cA, r = .returned (.tuple #[.slice AA (keepE drop M').length cA, .int .i64 q]) ∧ Rd w' AA (keepE drop M').length 3 (encEn (keepE drop M')) ∧ Keeps [] w w' ∧ ∀ a, AA = some a → w.heap.size ≤ a.block := by
  obtain ⟨hk, h⟩ := h
  rcases h with ⟨h1, AA, cA, h2, h3, h5⟩ | ⟨h1, h2⟩
  · rcases hq with ⟨_, rfl, rfl⟩ | ⟨h4, _⟩
    · exact ⟨AA, cA, h2, h3, hk, h5⟩
    · exact absurd h1 h4
  · rcases hq with ⟨h4, _⟩ | ⟨_, rfl, rfl⟩
    · exact absurd h4 h1
    · exact ⟨none, 0, h2, rd_none _, hk, by simp⟩
set_option maxRecDepth 100000 in
set_option maxHeartbeats 16000000 in
theorem drops_any (A : Option Addr) (c : Nat) (rs : List Ro) (w : World) (h : RdL0 w A rs) (hg : HT w) :
    Calls Tryd.prog 4 #[.slice A rs.length c] w fun r w' => r = .returned (.bool true) ∧ Keeps [] w w' := by
  have HR := Lib.hid h
  have HG := Lib.hid hg
  obtain ⟨n, hn⟩ : ∃ n, n = rs.length := ⟨_, rfl⟩
  have HN := Lib.hid hn
  have HM := many_any A c rs w h
  rw [← hn] at HM ⊢
  have HMH := Lib.hid HM
  clear h hg hn HM
  go_enter Tryd.func4, Tryd.ntmps4
  go_wp2_with fail
  refine HMH.out.mono ?_
  rintro r w ⟨b, rfl, rfl, hb⟩
  cases b with
  | true =>
    clear HMH hb
    go_wp2_with fail
    refine (sure4_any _).mono ?_
    rintro r w2 ⟨rfl, hk⟩
    have HK := Lib.hid hk
    clear hk
    go_wp2_with fail
    go_ret
    exact ⟨rfl, HK.out⟩
  | false =>
    have HB := Lib.hid (show rs.length ≤ 51 ∧ totR rs ≤ 400 from by have := hb rfl; exact ⟨by have := HN.out; omega, by omega⟩)
    have HRL := Lib.hid (show RdL w A rs from ⟨HR.out.1, fun r hr => ⟨(HR.out.2 r hr).1, by have := totR_len r hr; have := HB.out.2; omega⟩⟩)
    obtain ⟨Ls, hLs⟩ : ∃ Ls, Ls = rs.map Ro.es := ⟨_, rfl⟩
    obtain ⟨M, hM⟩ : ∃ M, M = refM Ls := ⟨_, rfl⟩
    have HLs := Lib.hid (show Ls = rs.map Ro.es ∧ M = refM Ls ∧ M.length ≤ 400 from ⟨hLs, hM, by
      rw [hM]
      refine Nat.le_trans (refM_len Ls) ?_
      rw [hLs, List.map_map]
      exact HB.out.2⟩)
    clear hb HMH hLs hM
    go_wp2_with fail
    have HC := owns_any A c rs w HRL.out (by have := HB.out; omega)
    rw [← HN.out] at HC
    refine HC.mono ?_
    clear HC
    rintro r w2 ⟨A2, c2, rs2, rfl, hrb2, hmap2⟩
    have H2 := Lib.hid (show RB w w2 A2 c2 rs2 ∧ rs2.map Ro.es = Ls ∧ (∀ r ∈ rs2, r.es.length ≤ 1000) ∧ rs2.length ≤ 51 from by
      refine ⟨hrb2, by rw [hmap2, HLs.out.1], fun r hr => ?_, ?_⟩
      · have h2 : r.es ∈ rs.map Ro.es := by rw [← hmap2]; exact List.mem_map_of_mem hr
        obtain ⟨r', h3, h4⟩ := List.mem_map.1 h2
        rw [← h4]
        exact (HRL.out.2 r' h3).2
      · have h3 := congrArg List.length hmap2
        rw [List.length_map, List.length_map] at h3
        have := HB.out
        omega)
    clear hrb2 hmap2
    go_wp2_with fail
    refine (all_any A2 c2 rs2 false M w2 (H2.out.1.rdl H2.out.2.2.1) (by have := H2.out.2.2.2; omega) (fun h => by rw [HLs.out.2.1]; rw [H2.out.2.1] at h ⊢; exact refM_is _ h) (by have := HLs.out.2.2; omega)).mono ?_
    intro r w3 hr3
    rw [H2.out.2.1] at hr3
    obtain ⟨q, M', hqm⟩ : ∃ (q : Int) (M' : List En), OkM Ls M M' q := by
      by_cases hS : ∀ es ∈ Ls, Srt es
      · exact ⟨0, M, .inl ⟨hS, rfl, rfl⟩⟩
      · exact ⟨41, [], .inr ⟨hS, rfl, rfl⟩⟩
    have HQ := Lib.hid hqm
    have HMM := Lib.hid (show (∀ x ∈ M', x.norm = x) ∧ M'.length ≤ 400 from by
      rcases hqm with ⟨_, _, rfl⟩ | ⟨_, _, rfl⟩
      · exact ⟨by rw [HLs.out.2.1]; exact refM_norm Ls, HLs.out.2.2⟩
      · exact ⟨by simp, Nat.zero_le _⟩)
    clear hqm
    obtain ⟨AA, cA, rfl, hA3, hk3⟩ := hr3.err HQ.out
    rw [keepE_false] at hA3 ⊢
    obtain ⟨N, hN⟩ : ∃ N, N = M'.length := ⟨_, rfl⟩
    have H3 := Lib.hid (show Keeps [] w w3 ∧ Rd w3 AA M'.length 3 (encEn M') ∧ N = M'.length from ⟨H2.out.1.kp.trans hk3 (by simp), hA3, hN⟩)
    have hN4 : N ≤ 400 := by rw [hN]; exact HMM.out.2
    obtain ⟨ev, hev⟩ : ∃ ev, ev = errV q := ⟨_, rfl⟩
    have HEV := Lib.hid hev
    rw [← hN, ← hev]
    clear hk3 hA3 hr3 hN hev H2
    go_wp2_with fail
    have HC := owns_any A c rs w3 (HRL.out.keeps0 H3.out.1) (by have := HB.out; omega)
    rw [← HN.out] at HC
    refine HC.mono ?_
    clear HC
    rintro r w4 ⟨A4, c4, rs4, rfl, hrb4, hmap4⟩
    have H4 := Lib.hid (show RB w3 w4 A4 c4 rs4 ∧ rs4.map Ro.es = Ls ∧ (∀ r ∈ rs4, r.es.length ≤ 1000) ∧ rs4.length ≤ 51 from by
      refine ⟨hrb4, by rw [hmap4, HLs.out.1], fun r hr => ?_, ?_⟩
      · have h2 : r.es ∈ rs.map Ro.es := by rw [← hmap4]; exact List.mem_map_of_mem hr
        obtain ⟨r', h3, h4⟩ := List.mem_map.1 h2
        rw [← h4]
        exact (HRL.out.2 r' h3).2
      · have h3 := congrArg List.length hmap4
        rw [List.length_map, List.length_map] at h3
        have := HB.out
        omega)
    clear hrb4 hmap4
    go_wp2_with fail
    refine (all_any A4 c4 rs4 true M w4 (H4.out.1.rdl H4.out.2.2.1) (by have := H4.out.2.2.2; omega) (fun h => by rw [HLs.out.2.1]; rw [H4.out.2.1] at h ⊢; exact refM_is _ h) (by have := HLs.out.2.2; omega)).mono ?_
    intro r w5 hr5
    rw [H4.out.2.1] at hr5
    obtain ⟨BB, cB, rfl, hB5, hk5⟩ := hr5.err HQ.out
    obtain ⟨K, hK⟩ : ∃ K, K = (keepE true M').length := ⟨_, rfl⟩
    have H5 := Lib.hid (show Keeps [] w w5 ∧ Rd w5 AA M'.length 3 (encEn M') ∧ N = M'.length ∧ Rd w5 BB (keepE true M').length 3 (encEn (keepE true M')) ∧ K = (keepE true M').length from by
      have hk35 : Keeps [] w3 w5 := H4.out.1.kp.trans hk5 (by simp)
      exact ⟨H3.out.1.trans hk35 (by simp), H3.out.2.1.keeps0 hk35, H3.out.2.2, hB5, hK⟩)
    have hK4 : K ≤ 400 := by rw [hK]; exact Nat.le_trans (keepE_len _ _) HMM.out.2
    rw [← hK, ← HEV.out]
    clear hk5 hB5 hr5 hK H4 H3
    go_wp2_with fail
    have HNU := num_any q w5 (HG.out.keeps H5.out.1 (by simp))
    rw [← HEV.out] at HNU
    refine HNU.mono ?_
    clear HNU
    rintro r w6 ⟨rfl, hk6⟩
    have H6 := Lib.hid (show Keeps [] w w6 ∧ Keeps [] w5 w6 from ⟨H5.out.1.trans hk6 (by simp), hk6⟩)
    clear hk6
    go_wp2_with fail
    have HNU := num_any q w6 (HG.out.keeps H6.out.1 (by simp))
    rw [← HEV.out] at HNU
    refine HNU.mono ?_
    clear HNU
    rintro r w7 ⟨rfl, hk7⟩
    have H7 := Lib.hid (show Keeps [] w w7 ∧ Rd w7 AA M'.length 3 (encEn M') ∧ N = M'.length ∧ Rd w7 BB (keepE true M').length 3 (encEn (keepE true M')) ∧ K = (keepE true M').length from by
      have hk57 : Keeps [] w5 w7 := H6.out.2.trans hk7 (by simp)
      exact ⟨H5.out.1.trans hk57 (by simp), H5.out.2.1.keeps0 hk57, H5.out.2.2.1, H5.out.2.2.2.1.keeps0 hk57, H5.out.2.2.2.2⟩)
    clear hk7 H5 H6
    go_wp2_with fail
    go_loopw [7, 8] (fun s7 s8 wr => ∃ i k : Nat, s8 = .int .i64 i ∧ s7 = .int .i64 k ∧ Hid (i ≤ N ∧ k = (keepE true (M'.take i)).length ∧ Keeps [] w7 wr)) (fun _ s8 _ => N - (intOf s8).toNat)
    case atStart => exact ⟨0, 0, rfl, rfl, ⟨Nat.zero_le _, rfl, Keeps.refl [] w7⟩⟩
    case round =>
      obtain ⟨i, k, rfl, rfl, D⟩ := hrel
      by_cases hiN : i < N
      · have hiNi : (i : Int) < (N : Int) := by omega
        have HIM := Lib.hid (show i < M'.length ∧ i < N from by have := H7.out.2.2.1; omega)
        obtain ⟨ga, oa, rfl, k0, k1, k2⟩ := en_cells (H7.out.2.1.keeps0 D.out.2.2) HIM.out.1
        obtain ⟨x, hx⟩ : ∃ x, x = M'[i]'(HIM.out.1) := ⟨_, rfl⟩
        rw [← hx] at k0 k1 k2
        have HX := Lib.hid hx
        have hk4 : k ≤ 400 := by rw [D.out.2.1]; have := keepE_len true (M'.take i); rw [List.length_take] at this; omega
        clear hx hiN
        cases hxg : x.g with
        | true =>
          have hv : x.v = [] := norm_gone (HMM.out.1 x (by rw [HX.out]; exact List.getElem_mem _)) hxg
          rw [hxg] at k2
          rw [hv] at k1
          have k1' : wr.cell? ⟨ga, oa + i * 3 + 1, none⟩ = some (.string ⟨#[]⟩) := k1
          have D1 := Lib.hid (show i + 1 ≤ N ∧ k = (keepE true (M'.take (i + 1))).length ∧ Keeps [] w7 wr from ⟨by have := HIM.out; omega, by rw [take_snoc (show i + 1 ≤ M'.length from HIM.out.1), keepE_snoc, ← HX.out, hxg, D.out.2.1]; simp, D.out.2.2⟩)
          clear k1 k0 D hxg hv
          go_wp2_with fail
          go_roundw
          case rel => exact ⟨i + 1, k, by go_num, rfl, D1⟩
          case measure => have := HIM.out; simp [intOf]; omega
        | false =>
          obtain ⟨hkl, hke⟩ := keepE_at HIM.out.1 (by rw [← HX.out]; exact hxg)
          rw [hxg] at k2
          have HKL := Lib.hid (show k < (keepE true M').length ∧ k < K from by have := D.out.2.1; have := H7.out.2.2.2.2; omega)
          obtain ⟨gb, ob, rfl, m0, m1, m2⟩ := en_cells (H7.out.2.2.2.1.keeps0 D.out.2.2) HKL.out.1
          have hke2 : (keepE true M')[k]'(HKL.out.1) = x := by simp only [D.out.2.1, hke, HX.out]
          rw [hke2] at m0 m1 m2
          rw [hxg] at m2
          have D1 := Lib.hid (show i + 1 ≤ N ∧ k + 1 = (keepE true (M'.take (i + 1))).length ∧ Keeps [] w7 wr.drew from ⟨by have := HIM.out; omega, by rw [take_snoc (show i + 1 ≤ M'.length from HIM.out.1), keepE_snoc, ← HX.out, hxg, List.length_append, ← D.out.2.1]; rfl, D.out.2.2.drew⟩)
          have HC := Lib.hid (And.intro (And.intro k0 (And.intro k1 k2)) (And.intro m0 (And.intro m1 m2)))
          have hkK : (k : Int) < (K : Int) := by have := HKL.out.2; omega
          have hKk : ¬ (K : Int) ≤ (k : Int) := by omega
          clear k0 k1 m0 m1 m2 hxg hkl hke hke2 D
          go_upto_region 14 with fail
          have qa : ∀ z : World, Keeps [] wr z → z.cell? ⟨ga, oa + i * 3, none⟩ = some (.string (strB x.k)) := fun z hz => hz.cell HC.out.1.1 (by simp)
          have qb : ∀ z : World, Keeps [] wr z → z.cell? ⟨ga, oa + i * 3 + 1, none⟩ = some (.string (strB x.v)) := fun z hz => hz.cell HC.out.1.2.1 (by simp)
          have qc : ∀ z : World, Keeps [] wr z → z.cell? ⟨ga, oa + i * 3 + 2, none⟩ = some (.bool false) := fun z hz => hz.cell HC.out.1.2.2 (by simp)
          have qd : ∀ z : World, Keeps [] wr z → z.cell? ⟨gb, ob + k * 3, none⟩ = some (.string (strB x.k)) := fun z hz => hz.cell HC.out.2.1 (by simp)
          have qe : ∀ z : World, Keeps [] wr z → z.cell? ⟨gb, ob + k * 3 + 1, none⟩ = some (.string (strB x.v)) := fun z hz => hz.cell HC.out.2.2.1 (by simp)
          have qf : ∀ z : World, Keeps [] wr z → z.cell? ⟨gb, ob + k * 3 + 2, none⟩ = some (.bool false) := fun z hz => hz.cell HC.out.2.2.2 (by simp)
          refine seq_start (by kernel_rfl) (fun z => Keeps [] wr z) 15 [0, 1, 2, 3, 4, 5, 6, 7, 8, 9, 10, 11, 12, 13, 14] rfl ((Keeps.refl [] wr).drew) (fun hS => ?_)
          refine seq_take (v := ?_) rfl (by kernel_rfl) (by kernel_rfl) (by kernel_rfl) (Or.inl ⟨by rfl, fun w' hSw => ?_⟩) (by assumption) ?_
          rotate_left
          · go_simp
            with_reducible rfl
          simp only [Act.put, List.setIfInBounds_toArray, List.set_cons_zero, List.set_cons_succ]
          refine seq_take (v := ?_) rfl (by kernel_rfl) (by kernel_rfl) (by kernel_rfl) (Or.inl ⟨by rfl, fun w' hSw => ?_⟩) (by assumption) ?_
          rotate_left
          · go_simp
            with_reducible rfl
          simp only [Act.put, List.setIfInBounds_toArray, List.set_cons_zero, List.set_cons_succ]
          refine seq_take (v := ?_) rfl (by kernel_rfl) (by kernel_rfl) (by kernel_rfl) (Or.inl ⟨by rfl, fun w' hSw => ?_⟩) (by assumption) ?_
          rotate_left
          · go_simp
            with_reducible rfl
          simp only [Act.put, List.setIfInBounds_toArray, List.set_cons_zero, List.set_cons_succ]
          refine seq_take (v := ?_) rfl (by kernel_rfl) (by kernel_rfl) (by kernel_rfl) (Or.inl ⟨by rfl, fun w' hSw => ?_⟩) (by assumption) ?_
          rotate_left
          · go_simp
            with_reducible rfl
          simp only [Act.put, List.setIfInBounds_toArray, List.set_cons_zero, List.set_cons_succ]
          refine seq_take (v := ?_) rfl (by kernel_rfl) (by kernel_rfl) (by kernel_rfl) (Or.inl ⟨by rfl, fun w' hSw => ?_⟩) (by assumption) ?_
          rotate_left
          · go_simp
            with_reducible rfl
          simp only [Act.put, List.setIfInBounds_toArray, List.set_cons_zero, List.set_cons_succ]
          refine seq_take (v := ?_) rfl (by kernel_rfl) (by kernel_rfl) (by kernel_rfl) (Or.inl ⟨by rfl, fun w' hSw => ?_⟩) (by assumption) ?_
          rotate_left
          · go_simp
            with_reducible rfl
          simp only [Act.put, List.setIfInBounds_toArray, List.set_cons_zero, List.set_cons_succ]
          refine seq_take (v := ?_) rfl (by kernel_rfl) (by kernel_rfl) (by kernel_rfl) (Or.inl ⟨by rfl, fun w' hSw => ?_⟩) (by assumption) ?_
          rotate_left
          · go_simp
            with_reducible rfl
          simp only [Act.put, List.setIfInBounds_toArray, List.set_cons_zero, List.set_cons_succ]
          refine seq_take (v := ?_) rfl (by kernel_rfl) (by kernel_rfl) (by kernel_rfl) (Or.inl ⟨by rfl, fun w' hSw => ?_⟩) (by assumption) ?_
          rotate_left
          · go_simp
            with_reducible rfl
          simp only [Act.put, List.setIfInBounds_toArray, List.set_cons_zero, List.set_cons_succ]
          refine seq_take (v := ?_) rfl (by kernel_rfl) (by kernel_rfl) (by kernel_rfl) (Or.inl ⟨by rfl, fun w' hSw => ?_⟩) (by assumption) ?_
          rotate_left
          · go_simp
            with_reducible rfl
          simp only [Act.put, List.setIfInBounds_toArray, List.set_cons_zero, List.set_cons_succ]
          refine seq_take (v := ?_) rfl (by kernel_rfl) (by kernel_rfl) (by kernel_rfl) (Or.inl ⟨by rfl, fun w' hSw => ?_⟩) (by assumption) ?_
          rotate_left
          · go_simp
            with_reducible rfl
          simp only [Act.put, List.setIfInBounds_toArray, List.set_cons_zero, List.set_cons_succ]
          refine seq_take (v := ?_) rfl (by kernel_rfl) (by kernel_rfl) (by kernel_rfl) (Or.inl ⟨by rfl, fun w' hSw => ?_⟩) (by assumption) ?_
          rotate_left
          · go_simp
            with_reducible rfl
          simp only [Act.put, List.setIfInBounds_toArray, List.set_cons_zero, List.set_cons_succ]
          refine seq_take (v := ?_) rfl (by kernel_rfl) (by kernel_rfl) (by kernel_rfl) (Or.inl ⟨by rfl, fun w' hSw => ?_⟩) (by assumption) ?_
          rotate_left
          · go_simp
            with_reducible rfl
          simp only [Act.put, List.setIfInBounds_toArray, List.set_cons_zero, List.set_cons_succ]
          refine seq_take (v := ?_) rfl (by kernel_rfl) (by kernel_rfl) (by kernel_rfl) (Or.inl ⟨by rfl, fun w' hSw => ?_⟩) (by assumption) ?_
          rotate_left
          · go_simp
            with_reducible rfl
          simp only [Act.put, List.setIfInBounds_toArray, List.set_cons_zero, List.set_cons_succ]
          refine seq_take (v := ?_) rfl (by kernel_rfl) (by kernel_rfl) (by kernel_rfl) (Or.inl ⟨by rfl, fun w' hSw => ?_⟩) (by assumption) ?_
          rotate_left
          · go_simp
            with_reducible rfl
          simp only [Act.put, List.setIfInBounds_toArray, List.set_cons_zero, List.set_cons_succ]
          refine seq_take (v := ?_) rfl (by kernel_rfl) (by kernel_rfl) (by kernel_rfl) (Or.inl ⟨by rfl, fun w' hSw => ?_⟩) (by assumption) ?_
          rotate_left
          · go_simp
            with_reducible rfl
          simp only [Act.put, List.setIfInBounds_toArray, List.set_cons_zero, List.set_cons_succ]
          refine seq_done (by kernel_rfl) ?_
          all_goals skip
          clear hS qa qb qc qd qe qf HC k2
          generalize wr.drew = V at D1 ⊢
          go_wp2_with fail
          go_roundw
          case rel => exact ⟨i + 1, k + 1, by go_num, by go_num, D1⟩
          case measure => have := HIM.out; simp [intOf]; omega
      · have hiNi : ¬ (i : Int) < (N : Int) := by omega
        have hkK : k = K := by
          have h1 := D.out.2.1
          rw [List.take_of_length_le (by have := H7.out.2.2.1; omega)] at h1
          rw [h1, H7.out.2.2.2.2]
        subst hkK
        have HKE := Lib.hid (show Keeps [] w wr from H7.out.1.trans D.out.2.2 (by simp))
        clear hiN D
        go_wp2_with fail
        refine (sure4_any _).mono ?_
        rintro r w8 ⟨rfl, hk8⟩
        have H8 := Lib.hid (show Keeps [] w w8 from HKE.out.trans hk8 (by simp))
        clear hk8
        go_wp2_with fail
        go_ret
        exact ⟨rfl, H8.out⟩
theorem drops_row (A : Option Addr) (c : Nat) (xs : List ((Option Addr × Nat) × List (ByteArray × ByteArray × Bool × Unit))) (w : World) (hok : KL.ok w ((A, c), xs)) (hg : HT w) :
    Calls Tryd.prog 4 #[.slice A xs.length c] w fun e w' => e = .returned (.bool true) ∧ Below w.heap.size w w' := by
  obtain ⟨h1, _⟩ := read_rows hok
  have h2 := drops_any A c _ w h1 hg
  rw [List.length_map] at h2
  exact h2.mono fun _ _ h => ⟨h.1, h.2.below (Nat.le_refl _) (by simp)⟩
end Go.Proofs.YtaedmafmflohiaaDoor
