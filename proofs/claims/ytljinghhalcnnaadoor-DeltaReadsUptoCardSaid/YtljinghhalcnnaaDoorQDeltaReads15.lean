/- What must come whatever the input is. Prints held against one another, and a row in a block as a range. Two operations that may come up, not beside one another in the text. errors.As at a target of type *api.Errno, by its contracts (after the guide's worked text on errors.As), and the law's num: an error's number. The law's num: an error's number. What a row's condition on package errors' variable gives. -/
import Derived.Test.YtljinghhalcnnaaDoorQDeltaReads13
import Derived.Test.YtljinghhalcnnaaDoorQDeltaReads14
import Derived.Test.YtljinghhalcnnaaDoorProg
import Derived.Test.YtljinghhalcnnaaDoorQDeltaReads1
import Derived.Test.YtljinghhalcnnaaDoorQDeltaReads2
import Derived.Test.YtljinghhalcnnaaDoorQDeltaReads4
import Derived.LaidEql
import Derived.Stop.Asserts
import Derived.RowKitTokens
import Derived.WideLaws
import Derived.Test.YtljinghhalcnnaaDoorQDeltaReads8
import Derived.Test.YtljinghhalcnnaaDoorRows
import Derived.ChangeSame
import Derived.ChangeVars
import Derived.JoinedOf
import Derived.LaidLaws
import Derived.LaidHandle
import Derived.Stop.Joined
import Derived.RowKit
namespace Go.Proofs.YtljinghhalcnnaaDoor
open Go.RowKit

def blk1 (x : UInt8) : List UInt8 := x :: List.replicate 63 0
theorem blk1_len (x : UInt8) : (blk1 x).length = 64 := rfl
theorem lit3 : (#[.int .u8 3, .int .u8 0, .int .u8 0, .int .u8 0, .int .u8 0, .int .u8 0, .int .u8 0, .int .u8 0, .int .u8 0, .int .u8 0, .int .u8 0, .int .u8 0, .int .u8 0, .int .u8 0, .int .u8 0, .int .u8 0, .int .u8 0, .int .u8 0, .int .u8 0, .int .u8 0, .int .u8 0, .int .u8 0, .int .u8 0, .int .u8 0, .int .u8 0, .int .u8 0, .int .u8 0, .int .u8 0, .int .u8 0, .int .u8 0, .int .u8 0, .int .u8 0, .int .u8 0, .int .u8 0, .int .u8 0, .int .u8 0, .int .u8 0, .int .u8 0, .int .u8 0, .int .u8 0, .int .u8 0, .int .u8 0, .int .u8 0, .int .u8 0, .int .u8 0, .int .u8 0, .int .u8 0, .int .u8 0, .int .u8 0, .int .u8 0, .int .u8 0, .int .u8 0, .int .u8 0, .int .u8 0, .int .u8 0, .int .u8 0, .int .u8 0, .int .u8 0, .int .u8 0, .int .u8 0, .int .u8 0, .int .u8 0, .int .u8 0, .int .u8 0] : Array Value) = (encB (blk1 3)).toArray := rfl
theorem Keeps.fresh1 {w w3 w4 : World} {o : Obj} (h : Keeps [] w w3) (hk : Keeps [w3.heap.size] (w3.alloc o) w4) : Keeps [] w w4 :=
  (h.alloc o).trans hk (fun t ht => .inr (by simp at ht; rw [ht]; exact h.size))
theorem some_u8d : (Tryd.prog.info? 5).isSome = true := by kernel_rfl
theorem cells_u8d : Tryd.prog.cellsOf 5 = 1 := by kernel_rfl
theorem guard_blkd : Tryd.prog.eqGuardType Tryd.prog.depth 23 = false := by kernel_rfl
theorem eq_blkd (w : World) (x y : List UInt8) (hx : x.length = 64) (hy : y.length = 64) : (binOp .eql 23 (.agg (encB x).toArray) (.agg (encB y).toArray)).run Tryd.prog w = .ok (.bool (x == y)) w := run_eql_arrB w Tryd.underlying23 Tryd.underlying5 some_u8d cells_u8d x y hx hy
/-- Parts of one's own that are one part. -/
theorem OpI.one {w w' : World} {A : Option Addr} {c : Nat} {ts : List Pt} {p : Pa} (h : OpI w w' A c ts) (hp : ts.map Pt.p = [p]) : ts.length = 1 ∧ ∃ g A2 c2, A = some ⟨g, 0, none⟩ ∧ ∀ z, Keeps [] w' z → z.cell? ⟨g, 0, none⟩ = some (.bool p.cp) ∧ z.cell? ⟨g, 2, none⟩ = some (.int .i64 p.ln) ∧ z.cell? ⟨g, 3, none⟩ = some (.slice A2 p.b.length c2) ∧ RdB z A2 p.b := by
  obtain ⟨t, rfl, ht⟩ : ∃ t, ts = [t] ∧ t.p = p := by
    rcases ts with _ | ⟨t, _ | ⟨u, us⟩⟩
    · simp at hp
    · exact ⟨t, rfl, by simpa using hp⟩
    · simp at hp
  obtain ⟨g, hg⟩ := own_some h.own (by simp)
  subst hg
  refine ⟨rfl, g, t.A, t.c, rfl, fun z hz => ?_⟩
  have h1 := ownsRow_keeps h.own hz (by simp)
  subst ht
  exact ⟨World.ownsRow.cellAt h1 0 (by simp), World.ownsRow.cellAt h1 2 (by simp), World.ownsRow.cellAt h1 3 (by simp), ((h.rd t (by simp)).1.keeps0 hz).rd⟩
set_option maxRecDepth 100000 in
set_option maxHeartbeats 8000000 in
theorem sure10_any (w : World) : Calls Tryd.prog 6 #[] w fun r w' => r = .returned (.bool true) ∧ Keeps [] w w' := by
  go_enter Tryd.func6, Tryd.ntmps6
  go_wp2_with fail
  refine (ops_any (blk1 1) (blk1 1) rfl rfl w).mono ?_
  rintro r w1 ⟨A1, c1, ts, rfl, hop, hts, _, _⟩
  rw [opsE_self _ rfl] at hts
  obtain ⟨hlen, g1, A9, c9, hg1, hcs⟩ := hop.one hts
  subst hg1
  have H1 := Lib.hid (And.intro hop.kp hcs)
  rw [hlen]
  clear hop hts hlen hcs
  go_wp2_with fail
  refine (diff_any (blk1 2) (blk1 3) rfl rfl w1).mono ?_
  rintro r w2 ⟨A2, c2, l2, hl2, rfl, ho2, hn2, hk2⟩
  have HB := Lib.hid (back10 (blk1 2) (blk1 3) rfl rfl)
  have H2 := Lib.hid (show Keeps [] w1 w2 ∧ RdB w2 A2 l2 ∧ (∀ a, A2 = some a → a.block < w2.heap.size) ∧ l2.length ≤ c2 ∧ l2.length ≤ 83 ∧ patchE (blk1 2) l2 = .ok (blk1 3) from
    ⟨hk2, ho2.rd, ho2.lt, ho2.cap, by rw [hl2.out]; exact HB.out.2.2, by unfold patchE; rw [hl2.out, HB.out.1]; exact HB.out.2.1⟩)
  clear hl2 ho2 hn2 hk2
  go_wp2_with fail
  refine (patch_any (blk1 2) rfl A2 l2 c2 w2 (by have := H2.out; omega) H2.out.2.2.2.1 H2.out.2.1 (fun a ha _ => H2.out.2.2.1 a ha)).mono ?_
  rintro r w3 ⟨hk3, ⟨e, he, hne, rfl⟩ | ⟨l, hl, hl64, rfl⟩⟩
  · exfalso
    rw [H2.out.2.2.2.2.2] at he
    cases he
  have hl3 : l = blk1 3 := by
    rw [H2.out.2.2.2.2.2] at hl
    injection hl with hl
    exact hl.symm
  subst hl3
  have HZ := Lib.hid zero64k
  obtain ⟨x3, hx3⟩ : ∃ x3, x3 = encB (blk1 3) := ⟨_, rfl⟩
  have H3 := Lib.hid (show Keeps [] w1 w3 from H2.out.1.trans hk3 (by simp))
  have HX := Lib.hid (show (encB z64).length = x3.length ∧ (Tryd.prog.info? 23).map (·.size) = some x3.length ∧ (∀ v ∈ x3, v.oneCell' = true) ∧ (Tryd.prog.info? 23).map (·.size) = some x3.toArray.size from
    ⟨by rw [hx3]; rfl, by rw [hx3]; exact hsz64 _ rfl, by rw [hx3]; exact encB_one _, by rw [hx3]; exact hsz64' _ rfl⟩)
  have fe : ∀ v, (binOp .eql 23 (.agg x3.toArray) (.agg #[.int .u8 3, .int .u8 0, .int .u8 0, .int .u8 0, .int .u8 0, .int .u8 0, .int .u8 0, .int .u8 0, .int .u8 0, .int .u8 0, .int .u8 0, .int .u8 0, .int .u8 0, .int .u8 0, .int .u8 0, .int .u8 0, .int .u8 0, .int .u8 0, .int .u8 0, .int .u8 0, .int .u8 0, .int .u8 0, .int .u8 0, .int .u8 0, .int .u8 0, .int .u8 0, .int .u8 0, .int .u8 0, .int .u8 0, .int .u8 0, .int .u8 0, .int .u8 0, .int .u8 0, .int .u8 0, .int .u8 0, .int .u8 0, .int .u8 0, .int .u8 0, .int .u8 0, .int .u8 0, .int .u8 0, .int .u8 0, .int .u8 0, .int .u8 0, .int .u8 0, .int .u8 0, .int .u8 0, .int .u8 0, .int .u8 0, .int .u8 0, .int .u8 0, .int .u8 0, .int .u8 0, .int .u8 0, .int .u8 0, .int .u8 0, .int .u8 0, .int .u8 0, .int .u8 0, .int .u8 0, .int .u8 0, .int .u8 0, .int .u8 0, .int .u8 0])).run Tryd.prog v = .ok (.bool true) v := fun v => by
    rw [lit3, hx3, eq_blkd v _ _ rfl rfl]
    simp
  have fg : ∀ y1 y2 v, (eqGuard .eql 23 y1 y2 (.agg x3.toArray) (.agg #[.int .u8 3, .int .u8 0, .int .u8 0, .int .u8 0, .int .u8 0, .int .u8 0, .int .u8 0, .int .u8 0, .int .u8 0, .int .u8 0, .int .u8 0, .int .u8 0, .int .u8 0, .int .u8 0, .int .u8 0, .int .u8 0, .int .u8 0, .int .u8 0, .int .u8 0, .int .u8 0, .int .u8 0, .int .u8 0, .int .u8 0, .int .u8 0, .int .u8 0, .int .u8 0, .int .u8 0, .int .u8 0, .int .u8 0, .int .u8 0, .int .u8 0, .int .u8 0, .int .u8 0, .int .u8 0, .int .u8 0, .int .u8 0, .int .u8 0, .int .u8 0, .int .u8 0, .int .u8 0, .int .u8 0, .int .u8 0, .int .u8 0, .int .u8 0, .int .u8 0, .int .u8 0, .int .u8 0, .int .u8 0, .int .u8 0, .int .u8 0, .int .u8 0, .int .u8 0, .int .u8 0, .int .u8 0, .int .u8 0, .int .u8 0, .int .u8 0, .int .u8 0, .int .u8 0, .int .u8 0, .int .u8 0, .int .u8 0, .int .u8 0, .int .u8 0])).run Tryd.prog v = .ok () v := fun y1 y2 v => run_eqGuard_arr (P := Tryd.prog) v guard_blkd .eql y1 y2 _ _
  rw [← hx3]
  clear hx3 hl hl64 hk3
  go_wp2_with (first
    | (refine wpList_store_rowK rfl 23 (.tmp 2) (.tmp 13) rfl w3.heap.size x3 (encB z64) 23 rfl rfl (by rw [HZ.out]; exact heap_alloc_new _ _) HX.out.1 HX.out.2.1 HX.out.2.2.1 ?_; intro w4 h4 hk4; have H4 := Lib.hid (show w4.heap[w3.heap.size]? = some (.cells x3.toArray 23 (0, 0)) ∧ Keeps [] w1 w4 from ⟨h4.out, H3.out.fresh1 hk4⟩); obtain ⟨q0, q2, _, _⟩ := H1.out.2 w4 H4.out.2; clear h4 hk4)
    | (refine wpList_unguard (by rfl) (wpList_load_row rfl 23 (.tmp 2) rfl w3.heap.size rfl 23 x3.toArray (0, 0) _ H4.out.1 Tryd.underlying23 rfl HX.out.2.2.2 ?_)))
  go_ret
  exact ⟨rfl, H1.out.1.trans H4.out.2 (by simp)⟩
end Go.Proofs.YtljinghhalcnnaaDoor
namespace Go.Proofs.YtljinghhalcnnaaDoor
open Go.RowKit

theorem some_u8 : (Tryd.prog.info? 5).isSome = true := by kernel_rfl
theorem cells_u8 : Tryd.prog.cellsOf 5 = 1 := by kernel_rfl
/-- 'x == y' in a region that draws, where its run is known. -/
theorem yieldsIf_eqv {P : Program} {ops : Array Oper} {S : World → Prop} {op : Oper} {a : Act} (hw : Region.wanted op (yielded ops a.tmps) = true) (t : TypeId) (x y : Operand) (ho : op.op = .binOp .eql t x y t)
    (v u r : Value) (hx : a.eval x = v) (hy : a.eval y = u) (hr : ∀ w, (binOp .eql t v u).run P w = .ok r w) (hg : ∀ y1 y2 w, (eqGuard .eql t y1 y2 v u).run P w = .ok () w) : YieldsIf P ops S op r a :=
  .inl ⟨hw, fun w _ => by
    unfold execOp
    simp only [ho, hx, hy, Sem.run_bind, hr, hg, Result.andThen_ok, Sem.run_pure]⟩
/-- The whole of an array behind a pointer, as a slice, in a region that draws. -/
theorem yieldsIf_allArr {P : Program} {ops : Array Oper} {S : World → Prop} {o : Oper} {a : Act} (hw : Region.wanted o (yielded ops a.tmps) = true) (t : TypeId) (x : Operand) (ho : o.op = .slice t x none none none) {e : TypeId} {n size : Nat}
    (ht : P.underlying t = some (.array n e)) (hi : (P.info? e).map (·.size) = some size) (ad : Addr) (hx : a.eval x = .pointer (some ad)) : YieldsIf P ops S o (.slice (some ad) n n) a :=
  .inl ⟨hw, fun w _ => by
    have hr : (Instr.sliceAt t (.pointer (some ad)) none none none).run P w = .ok (.slice (some ad) n n) w := by
      cases hq : P.info? e with
      | none => rw [hq] at hi; cases hi
      | some i =>
        have hs : i.size = size := by rw [hq] at hi; simpa using hi
        unfold Instr.sliceAt Instr.sliceBounds
        simp only [Sem.run_bind, run_underlying ht, Result.andThen_ok, Instr.sureAddr, Sem.run_pure]
        simp [sizeOf, typeInfo, hq, hs]
        try (simp [Addr.add])
    unfold execOp
    simp only [ho, hx, Sem.run_bind, Option.map_none, hr, Result.andThen_ok, Sem.run_pure]⟩
theorem rangeAt_row2 {w : World} {g : Nat} {cs : List Value} {t : TypeId} {fr : Nat × Nat} (h : w.heap[g]? = some (.cells cs.toArray t fr)) : w.rangeAt g 0 cs := fun j v hj => by
  rw [Nat.zero_add, cell_of_row _ _ _ _ _ _ h, List.getElem?_toArray]; exact hj

end Go.Proofs.YtljinghhalcnnaaDoor
namespace Go.Proofs.YtljinghhalcnnaaDoor
open Go.RowKit
theorem seq_later2 {i k : Nat} {is : List Nat} {oi ok : Oper} {l : List Oper} {p : Prop} (h : Seq (i :: (is ++ [k])) (oi :: (l ++ [ok])) p) : Seq (i :: k :: is) (oi :: ok :: l) p := h
end Go.Proofs.YtljinghhalcnnaaDoor
namespace Go.Proofs.YtljinghhalcnnaaDoor
open Go.RowKit Go.Extern.Stop Go.Stop Go.Extern

/-- package errors' variable errorType is laid: the handle of the type 'error'. -/
def HT (w : World) : Prop := w.cell? ⟨0, 0, none⟩ = some (.iface 118 (.agg #[.pointer (some ⟨1, 29, none⟩)]))
theorem HT.lt {w : World} (h : HT w) : 0 < w.heap.size := block_lt_of_cell h
theorem HT.keeps {S : List Nat} {w w' : World} (h : HT w) (hk : Keeps S w w') (hS : 0 ∉ S) : HT w' := hk.cell h hS
theorem HT.below {B : Nat} {w w' : World} (h : HT w) (hb : Below B w w') (hB : 0 < B) : HT w' := (hb.cell (p := ⟨0, 0, none⟩) hB).trans h

theorem as_nil (t : Value) (w : World) :
    Calls Tryd.prog 39 #[.nilIface, t] w fun e w' => e = .returned (.bool false) ∧ w' = w := by
  go_enter Tryd.func39, Tryd.ntmps39
  go_wp2
  go_ret
  exact ⟨rfl, rfl⟩

theorem valueOfT (t : Addr) (w : World) : (ReflectliteValue.unpack (.iface 83 (.pointer (some t)))).run Tryd.prog w
    = .ok (.agg #[.pointer (some ⟨1, 83, none⟩), .pointer (some ⟨w.heap.size, 0, none⟩), .int .u64 150]) (w.alloc (.cells #[.pointer (some t)] 83)) := by kernel_rfl
theorem typeT (a : Addr) (w : World) : (ReflectliteValue.methodAny (ReflectliteValue.valueError "reflectlite.Value.Type" 0) (fun t _ _ _ => ReflectliteType.toType t) #[.agg #[.pointer (some ⟨1, 83, none⟩), .pointer (some a), .int .u64 150]]).run Tryd.prog w
    = .ok (.iface 118 (.agg #[.pointer (some ⟨1, 83, none⟩)])) w := by kernel_rfl
theorem methodKind (h : Value) (w : World) : (Go.method 262 118 (.agg #[h]) "Kind").run Tryd.prog w = .ok (81, h) w := by kernel_rfl
theorem kindT (w : World) : ((ReflectliteType.abiMethod fun t => (fun a : Nat => Value.int IntKind.u8 (a : Int)) <$> Rtype.kind t) #[.pointer (some ⟨1, 83, none⟩)]).run Tryd.prog w = .ok (.int .u8 22) w := by kernel_rfl
theorem kindE (w : World) : ((ReflectliteType.abiMethod fun t => (fun a : Nat => Value.int IntKind.u8 (a : Int)) <$> Rtype.kind t) #[.pointer (some ⟨1, 58, none⟩)]).run Tryd.prog w = .ok (.int .u8 2) w := by kernel_rfl

theorem rlm (z : Sem Value) (f : TypeId → Addr → Nat → Nat → Sem Value) (v : Value) :
    ReflectliteValue.method z f #[v] = (do match ← ReflectliteValue.parts v with | none => z | some (t, a, fl) => f t a fl (fl % 32)) := rfl
theorem partsT (a : Addr) (w : World) : (ReflectliteValue.parts (.agg #[.pointer (some ⟨1, 83, none⟩), .pointer (some a), .int .u64 150])).run Tryd.prog w = .ok (some (83, a, 150)) w := by kernel_rfl
theorem isNilT (a p : Addr) (W : World) (ha : W.cell? a = some (.pointer (some p))) :
    (ReflectliteValue.method (ReflectliteValue.valueError "reflectlite.Value.IsNil" 0) ReflectliteValue.isNil #[.agg #[.pointer (some ⟨1, 83, none⟩), .pointer (some a), .int .u64 150]]).run Tryd.prog W = .ok (.bool false) W := by
  rw [rlm]
  simp only [Sem.run_bind, partsT, Result.andThen]
  simp [ReflectliteValue.isNil, loadVar, isAgg, underlying, Tryd.underlying83, ha, Result.andThen]

theorem methodElem (h : Value) (w : World) : (Go.method 262 118 (.agg #[h]) "Elem").run Tryd.prog w = .ok (91, .agg #[h]) w := by kernel_rfl
theorem methodImplements (h : Value) (w : World) : (Go.method 262 118 (.agg #[h]) "Implements").run Tryd.prog w = .ok (92, .agg #[h]) w := by kernel_rfl
theorem methodAssignableTo (h : Value) (w : World) : (Go.method 262 118 (.agg #[h]) "AssignableTo").run Tryd.prog w = .ok (89, .agg #[h]) w := by kernel_rfl
theorem elemT (w : World) : (ReflectliteType.method ReflectliteType.elem #[.agg #[.pointer (some ⟨1, 83, none⟩)]]).run Tryd.prog w = .ok (.iface 118 (.agg #[.pointer (some ⟨1, 58, none⟩)])) w := by kernel_rfl
theorem implementsE (w : World) : (ReflectliteType.relation "Implements" ReflectliteType.implements_ #[.agg #[.pointer (some ⟨1, 58, none⟩)], .iface 118 (.agg #[.pointer (some ⟨1, 29, none⟩)])]).run Tryd.prog w = .ok (.bool true) w := by kernel_rfl
theorem typeOfE (v : Value) (w : World) : (ReflectliteType.typeOf #[.iface 58 v]).run Tryd.prog w = .ok (.iface 118 (.agg #[.pointer (some ⟨1, 58, none⟩)])) w := by kernel_rfl
theorem assignableE (w : World) : (ReflectliteType.relation "AssignableTo" ReflectliteType.assignableTo #[.agg #[.pointer (some ⟨1, 58, none⟩)], .iface 118 (.agg #[.pointer (some ⟨1, 58, none⟩)])]).run Tryd.prog w = .ok (.bool true) w := by kernel_rfl
theorem valueOfE (n : Int) (w : World) : (ReflectliteValue.unpack (.iface 58 (.int .i64 n))).run Tryd.prog w
    = .ok (.agg #[.pointer (some ⟨1, 58, none⟩), .pointer (some ⟨w.heap.size, 0, none⟩), .int .u64 130]) (w.alloc (.cells #[.int .i64 n] 58)) := by kernel_rfl
theorem elemOfT (w : World) : (Rtype.elem? 83).run Tryd.prog w = .ok (some 58) w := by kernel_rfl
theorem mkE (p : Addr) (w : World) : (ReflectliteValue.mk 58 p ReflectliteValue.flagAddr).run Tryd.prog w = .ok (.agg #[.pointer (some ⟨1, 58, none⟩), .pointer (some p), .int .u64 386]) w := by kernel_rfl
theorem elemV (a p : Addr) (W : World) (ha : W.cell? a = some (.pointer (some p))) :
    (ReflectliteValue.method (ReflectliteValue.valueError "reflectlite.Value.Elem" 0) ReflectliteValue.elem #[.agg #[.pointer (some ⟨1, 83, none⟩), .pointer (some a), .int .u64 150]]).run Tryd.prog W
      = .ok (.agg #[.pointer (some ⟨1, 58, none⟩), .pointer (some p), .int .u64 386]) W := by
  rw [rlm]
  simp only [Sem.run_bind, partsT, Result.andThen]
  simp [ReflectliteValue.elem, loadVar, isAgg, underlying, Tryd.underlying83, ha, Result.andThen, elemOfT, mkE]
theorem rls (v x : Value) : ReflectliteValue.set #[v, x] = (do
    let (some (dst, a, fl), some (src, b, _)) := (← ReflectliteValue.parts v, ← ReflectliteValue.parts x)
      | unsupported (.noEntry "extern/(internal/reflectlite.Value).Set.zeroValue")
    if fl / ReflectliteValue.flagAddr % 2 == 0 then unsupported (.noEntry "extern/(internal/reflectlite.Value).Set.unaddressable")
    let val ← loadVar src b
    if ← Rtype.directlyAssignable dst src then storeVar dst a val
    else if ← Rtype.implements dst src then
      if (← Rtype.kind src) == 20 then
        match val with
        | .nilIface => unsupported (.noEntry "extern/reflectlite: a nil value of one interface type handed on as a value of another")
        | _ => storeVar dst a val
      else storeVar dst a (.iface src val)
    else panicString ("reflectlite.Set: value of type " ++ (← Rtype.spelt src) ++ " is not assignable to type " ++ (← Rtype.spelt dst))
    pure (.tuple #[])) := rfl
theorem partsEa (a : Addr) (w : World) : (ReflectliteValue.parts (.agg #[.pointer (some ⟨1, 58, none⟩), .pointer (some a), .int .u64 386])).run Tryd.prog w = .ok (some (58, a, 386)) w := by kernel_rfl
theorem partsE (a : Addr) (w : World) : (ReflectliteValue.parts (.agg #[.pointer (some ⟨1, 58, none⟩), .pointer (some a), .int .u64 130])).run Tryd.prog w = .ok (some (58, a, 130)) w := by kernel_rfl
theorem directE (w : World) : (Rtype.directlyAssignable 58 58).run Tryd.prog w = .ok true w := by kernel_rfl
theorem setE (ta b : Addr) (n : Int) (old : Value) (W : World) (hb : W.cell? b = some (.int .i64 n)) (ht : W.cell? ta = some old) (hf : W.frozen? ta = false) :
    (ReflectliteValue.set #[.agg #[.pointer (some ⟨1, 58, none⟩), .pointer (some ta), .int .u64 386], .agg #[.pointer (some ⟨1, 58, none⟩), .pointer (some b), .int .u64 130]]).run Tryd.prog W
      = .ok (.tuple #[]) (W.setCell ta (.int .i64 n)) := by
  rw [rls]
  simp only [Sem.run_bind, partsEa, partsE, Result.andThen]
  simp [ReflectliteValue.flagAddr, loadVar, isAgg, underlying, Tryd.underlying58, hb, Result.andThen, directE, storeVar, Value.cells, storeCells, Addr.add]
  rw [run_store Tryd.prog W ta _ _ (by rfl)]
  simp [ht, hf]

set_option maxHeartbeats 4000000 in
theorem as_hit (n : Int) (t : Addr) (old : Value) (w : World) (hg : HT w) (ht0 : w.cell? t = some old) (hf0 : w.frozen? t = false) :
    Calls Tryd.prog 39 #[.iface 58 (.int .i64 n), .iface 83 (.pointer (some t))] w fun ev w' => ev = .returned (.bool true) ∧ w' = ((((w.alloc (.cells #[.pointer (some t)] 83)).alloc (.cells #[.pointer (some ⟨1, 83, none⟩), .pointer (some ⟨w.heap.size, 0, none⟩), .int .u64 150] 104)).alloc (.cells #[.pointer (some ⟨1, 83, none⟩), .pointer (some ⟨w.heap.size, 0, none⟩), .int .u64 150] 104)).alloc (.cells #[.int .i64 n] 58)).setCell t (.int .i64 n) := by
  have h6 := @run_callFunc_extern Tryd.prog 54 _ (fun args => ReflectliteValue.unpack (args.getD 0 (.tuple #[]))) Tryd.func54 (by kernel_rfl) (by kernel_rfl) (by kernel_rfl) (by kernel_rfl)
  have h7 := @run_callFunc_extern Tryd.prog 55 _ (ReflectliteValue.methodAny (ReflectliteValue.valueError "reflectlite.Value.Type" 0) (fun t _ _ _ => ReflectliteType.toType t)) Tryd.func55 (by kernel_rfl) (by kernel_rfl) (by kernel_rfl) (by kernel_rfl)
  have h8 := @run_callFunc_extern Tryd.prog 56 _ (ReflectliteValue.method (ReflectliteValue.valueError "reflectlite.Value.IsNil" 0) ReflectliteValue.isNil) Tryd.func56 (by kernel_rfl) (by kernel_rfl) (by kernel_rfl) (by kernel_rfl)
  have h27 := @run_callFunc_extern Tryd.prog 81 _ (ReflectliteType.abiMethod fun t => do pure (.int .u8 (← Rtype.kind t))) Tryd.func81 (by kernel_rfl) (by kernel_rfl) (by kernel_rfl) (by kernel_rfl)
  have h37 := @run_callFunc_extern Tryd.prog 91 _ (ReflectliteType.method ReflectliteType.elem) Tryd.func91 (by kernel_rfl) (by kernel_rfl) (by kernel_rfl) (by kernel_rfl)
  have h38 := @run_callFunc_extern Tryd.prog 92 _ (ReflectliteType.relation "Implements" ReflectliteType.implements_) Tryd.func92 (by kernel_rfl) (by kernel_rfl) (by kernel_rfl) (by kernel_rfl)
  have h10 := @run_callFunc_extern Tryd.prog 62 _ ReflectliteType.typeOf Tryd.func62 (by kernel_rfl) (by kernel_rfl) (by kernel_rfl) (by kernel_rfl)
  have h35 := @run_callFunc_extern Tryd.prog 89 _ (ReflectliteType.relation "AssignableTo" ReflectliteType.assignableTo) Tryd.func89 (by kernel_rfl) (by kernel_rfl) (by kernel_rfl) (by kernel_rfl)
  have h11 := @run_callFunc_extern Tryd.prog 63 _ (ReflectliteValue.method (ReflectliteValue.valueError "reflectlite.Value.Elem" 0) ReflectliteValue.elem) Tryd.func63 (by kernel_rfl) (by kernel_rfl) (by kernel_rfl) (by kernel_rfl)
  have h12 := @run_callFunc_extern Tryd.prog 64 _ ReflectliteValue.set Tryd.func64 (by kernel_rfl) (by kernel_rfl) (by kernel_rfl) (by kernel_rfl)
  have tO := typeOfE
  have mA := methodAssignableTo
  have aE := assignableE
  have vE := valueOfE
  have f6 := valueOfT
  have f7 := typeT
  have mK := methodKind
  have mE := methodElem
  have mI := methodImplements
  have kT := kindT
  have kE := kindE
  have eT := elemT
  have iE := implementsE
  unfold HT at hg
  have n8 := isNilT ⟨w.heap.size, 0, none⟩ t ((w.alloc (.cells #[.pointer (some t)] 83)).alloc (.cells #[.pointer (some ⟨1, 83, none⟩), .pointer (some ⟨w.heap.size, 0, none⟩), .int .u64 150] 104)) (by simp)
  have hlt : 0 < w.heap.size := block_lt_of_cell hg
  have hg2 : ((w.alloc (.cells #[.pointer (some t)] 83)).alloc (.cells #[.pointer (some ⟨1, 83, none⟩), .pointer (some ⟨w.heap.size, 0, none⟩), .int .u64 150] 104)).cell? ⟨0, 0, none⟩ = some (.iface 118 (.agg #[.pointer (some ⟨1, 29, none⟩)])) := by
    rw [World.cell?_alloc_lt _ _ ⟨0, 0, none⟩ (by simp <;> omega), World.cell?_alloc_lt _ _ ⟨0, 0, none⟩ hlt]; exact hg
  have htl : t.block < w.heap.size := block_lt_of_cell ht0
  have el := elemV ⟨w.heap.size, 0, none⟩ t (((w.alloc (.cells #[.pointer (some t)] 83)).alloc (.cells #[.pointer (some ⟨1, 83, none⟩), .pointer (some ⟨w.heap.size, 0, none⟩), .int .u64 150] 104)).alloc (.cells #[.pointer (some ⟨1, 83, none⟩), .pointer (some ⟨w.heap.size, 0, none⟩), .int .u64 150] 104)) (by rw [World.cell?_alloc_lt _ _ ⟨w.heap.size, 0, none⟩ (by simp <;> omega)]; simp)
  have st := setE t ⟨w.heap.size + 1 + 1 + 1, 0, none⟩ n old ((((w.alloc (.cells #[.pointer (some t)] 83)).alloc (.cells #[.pointer (some ⟨1, 83, none⟩), .pointer (some ⟨w.heap.size, 0, none⟩), .int .u64 150] 104)).alloc (.cells #[.pointer (some ⟨1, 83, none⟩), .pointer (some ⟨w.heap.size, 0, none⟩), .int .u64 150] 104)).alloc (.cells #[.int .i64 n] 58))
    (by rw [World.cell?_alloc_at _ _ _ _ (by simp)]; rfl)
    (by rw [World.cell?_alloc_lt _ _ t (by simp <;> omega), World.cell?_alloc_lt _ _ t (by simp <;> omega), World.cell?_alloc_lt _ _ t (by simp <;> omega), World.cell?_alloc_lt _ _ t htl]; exact ht0)
    (by rw [World.frozen?_alloc_old _ _ t (by simp <;> omega), World.frozen?_alloc_old _ _ t (by simp <;> omega), World.frozen?_alloc_old _ _ t (by simp <;> omega), World.frozen?_alloc_old _ _ t (Nat.ne_of_lt htl)]; exact hf0)
  go_enter Tryd.func39, Tryd.ntmps39
  go_wp2
  refine wp_loop_rounds 1 ?_
  rw [rounds_succ]
  go_wp2
  go_ret
  exact ⟨rfl, rfl⟩
end Go.Proofs.YtljinghhalcnnaaDoor
namespace Go.Proofs.YtljinghhalcnnaaDoor
open Go.RowKit

theorem num_nil (w : World) : Calls Tryd.prog 16 #[.nilIface] w fun e w' => e = .returned (.int .i64 0) ∧ Keeps [] w w' := by
  go_enter Tryd.func16, Tryd.ntmps16
  go_wp2_with fail
  go_ret
  exact ⟨rfl, (Keeps.refl [] w).alloc _⟩

theorem num_err (n : Int) (w : World) (hg : HT w) : Calls Tryd.prog 16 #[.iface 58 (.int .i64 n)] w fun e w' => e = .returned (.int .i64 n) ∧ Keeps [] w w' := by
  have hg1 := Lib.hid (hg.keeps ((Keeps.refl [] w).alloc (.cells #[.int .i64 0] 58)) (by simp))
  clear hg
  go_enter Tryd.func16, Tryd.ntmps16
  go_wp2_with fail
  refine (as_hit n ⟨w.heap.size, 0, none⟩ (.int .i64 0) _ hg1.out (by simp) (by simp)).mono ?_
  rintro e w' ⟨rfl, rfl⟩
  go_wp2_with fail
  go_ret
  refine ⟨rfl, ?_⟩
  exact (((((Keeps.refl [] w).alloc _).alloc _).alloc _).alloc _).alloc _
theorem num_any (n : Int) (w : World) (hg : HT w) : Calls Tryd.prog 16 #[errV n] w fun e w' => e = .returned (.int .i64 n) ∧ Keeps [] w w' := by
  by_cases h : n = 0
  · subst h
    exact num_nil w
  · rw [errV_other h]
    exact num_err n w hg
end Go.Proofs.YtljinghhalcnnaaDoor
namespace Go.Proofs.YtljinghhalcnnaaDoor
open Go.ChangeShapes Go.WideShapes Go.RowKit

def laidE : List (String × DataW Unit) := [("errors.errorType", Rows.laid_errors_errorType)]
theorem et : Tryd.prog.globalNamed "errors.errorType" = some 0 := by kernel_rfl
theorem rt : (Tryd.prog.cutTypes.find? (·.1 == "internal/reflectlite.rtype")).map (·.2) = some 118 := by kernel_rfl
theorem oneRow : ((List.range 162).filter fun t => Tryd.prog.rowNamed t [101, 114, 114, 111, 114]) = [29] := by kernel_rfl
theorem tsize : Tryd.prog.types.size = 162 := by kernel_rfl

/-- What the condition gives a walk: the variable's one cell. -/
theorem handle_met {W : World} (h : handlesMet Tryd.prog laidE W) : HT W := by
  obtain ⟨name, u, ty, e1, e2, e3, e4, e5⟩ := h _ (List.mem_singleton.2 rfl)
  have en : name = [101, 114, 114, 111, 114] := (Option.some.inj e1).symm
  subst en
  obtain rfl := Option.some.inj (rt.symm.trans e2)
  have hm : ty ∈ (List.range 162).filter fun t => Tryd.prog.rowNamed t [101, 114, 114, 111, 114] := List.mem_filter.2 ⟨List.mem_range.2 (by rw [← tsize]; exact e3), e4⟩
  rw [oneRow] at hm
  obtain rfl := List.mem_singleton.1 hm
  have hh : typeHandle Tryd.prog 29 = .pointer (some ⟨1, 29, none⟩) := by kernel_rfl
  rw [hh] at e5
  unfold HT
  simpa using World.var?_cell et e5 0
end Go.Proofs.YtljinghhalcnnaaDoor
