/- Bytes in a block, and the store of one cell: laws whose world behind is open but for what is known of it. No program is named here. -/
import Derived.Test.YthppbefemfkccaaSec
import Derived.Deep.MidRow
namespace Go.Proofs.Ythppbefemfkccaa
open Go.RowKit

theorem encB_set (l : List UInt8) (i : Nat) (b : UInt8) : (encB l).toArray.setIfInBounds i (.int .u8 (b.toNat : Int)) = (encB (l.set i b)).toArray := by
  rw [List.setIfInBounds_toArray]
  unfold encB
  rw [List.map_set]
/-- Bytes in a block. -/
def BB (w : World) (g : Nat) (T : TypeId) (l : List UInt8) : Prop := w.heap[g]? = some (.cells (encB l).toArray T (0, 0))
theorem BB.keeps {S : List Nat} {w w' : World} {g : Nat} {T : TypeId} {l : List UInt8} (h : BB w g T l) (hk : Keeps S w w') (hg : g ∉ S) : BB w' g T l := (hk.block g (lt_of_block h) hg).trans h
theorem BB.cell {w : World} {g : Nat} {T : TypeId} {l : List UInt8} (h : BB w g T l) (i : Nat) (hi : i < l.length) : w.cell? ⟨g, i, none⟩ = some (.int .u8 (l[i].toNat : Int)) := by
  rw [cell_of_row _ _ _ _ _ _ h, List.getElem?_toArray, List.getElem?_eq_getElem (by simpa using hi), encB_get l i hi]
theorem BB.set {w : World} {g : Nat} {T : TypeId} {l : List UInt8} (h : BB w g T l) (i : Nat) (b : UInt8) : BB (w.setCell ⟨g, i, none⟩ (.int .u8 (b.toNat : Int))) g T (l.set i b) := by
  unfold BB
  rw [heap_setCell_same w g i _ _ _ h, encB_set]

/-- A cell of one's own bytes, stored. -/
theorem OwnB.at0 {E : TypeId} {w : World} {A : Option Addr} {c : Nat} {l : List UInt8} (h : OwnB E w A c l) (hl : 0 < l.length) : ∃ g, A = some ⟨g, 0, none⟩ ∧ (∀ (i : Nat) (_ : i < l.length), w.cell? ⟨g, i, none⟩ = some (.int .u8 (l[i].toNat : Int))) ∧ ∀ i, w.frozen? ⟨g, i, none⟩ = false := by
  rcases h.2 with ⟨_, h0⟩ | ⟨g, cap, cur, hv, _, hh, _, _, _, ht⟩
  · omega
  · have hA : A = some ⟨g, 0, none⟩ := by injection hv
    refine ⟨g, hA, fun i hi => ?_, fun i => frozen_of_row w g i _ _ hh⟩
    obtain ⟨ad, e, hc⟩ := (OwnB.rd h).at_ hi
    rw [hA] at e
    obtain rfl := Option.some.inj e
    rw [add_new, Nat.zero_add] at hc
    exact hc
theorem OwnB.set {E : TypeId} {w : World} {g : Nat} {c : Nat} {l : List UInt8} (h : OwnB E w (some ⟨g, 0, none⟩) c l) (i : Nat) (b : UInt8) (_ : i < l.length) : OwnB E (w.setCell ⟨g, i, none⟩ (.int .u8 (b.toNat : Int))) (some ⟨g, 0, none⟩) c (l.set i b) := by
  obtain ⟨h1, h2⟩ := h
  have el : (l.set i b).length = l.length := List.length_set
  unfold OwnB
  rw [el]
  refine ⟨by simp, ?_⟩
  rcases h2 with ⟨e, _⟩ | ⟨g', cap, cur, hv, hb, hh, hn, hm, hs, ht⟩
  · cases e
  · obtain ⟨rfl⟩ : g = g' := by injection hv with e1; simpa using e1
    refine .inr ⟨g, cap, cur.setIfInBounds i (.int .u8 (b.toNat : Int)), hv, hb, heap_setCell_same w g i _ _ _ hh, hn, hm, by simpa using hs, ?_⟩
    rw [Array.toList_setIfInBounds, List.take_set, ht]
    unfold encB
    rw [List.map_set]
/-- One cell, stored. -/
theorem run_storeVar_cell {P : Program} (w : World) (b o : Nat) (ty : TypeId) (v old : Value) (hc : w.cell? ⟨b, o, none⟩ = some old) (hf : w.frozen? ⟨b, o, none⟩ = false) (hi : (P.info? ty).map (·.size) = some 1) (h1 : v.oneCell' = true) :
    (storeVar ty ⟨b, o, none⟩ v).run P w = .ok () (w.setCell ⟨b, o, none⟩ v) := by
  have := run_storeCells_cells (P := P) b o [v] 0 w (fun j hj => by
      obtain rfl : j = 0 := by simpa using hj
      simp only [Nat.add_zero]
      rw [hc]
      rfl) (fun j hj => by
      obtain rfl : j = 0 := by simpa using hj
      simp only [Nat.add_zero]
      exact hf)
    (fun x hx => by simp at hx; subst hx; exact h1)
  have hcs : v.cells = #[v] := by cases v <;> first | rfl | cases h1
  cases hq : P.info? ty with
  | none => simp [hq] at hi
  | some i =>
    have hs : i.size = 1 := by simpa [hq] using hi
    simp only [Nat.add_zero] at this
    simp [storeVar, sizeOf, typeInfo, hq, hcs, hs, this, World.setCells]
theorem wpList_store_cell {P : Program} {ops : Array Oper} {rest : List Oper} {o : Oper} {a : Act} {w : World} {Q : Exit → Act → World → Prop} (hgd : o.guard = none) (ty : TypeId) (x y : Operand) (ho : o.op = .store ty x y)
    (g i : Nat) (v old : Value) (hx : a.eval x = .pointer (some ⟨g, i, none⟩)) (hy : a.eval y = v) (h1 : v.oneCell' = true) (hc : w.cell? ⟨g, i, none⟩ = some old) (hf : w.frozen? ⟨g, i, none⟩ = false) (hi : (P.info? ty).map (·.size) = some 1)
    (h : wpList P ops Q rest (a.put o.dst undef) (w.setCell ⟨g, i, none⟩ v)) : wpList P ops Q (o :: rest) a w :=
  wpList_plain hgd fun _ hK => by
    unfold Oper.wp execOp
    simp only [ho, hx, hy, Instr.storeAt, Instr.sureAddr, Sem.run_bind, Sem.run_pure, Result.andThen_ok, run_storeVar_cell w g i ty v old hc hf hi h1]
    exact hK _ _ h
theorem wpList_store_byte {P : Program} {ops : Array Oper} {rest : List Oper} {o : Oper} {a : Act} {w : World} {Q : Exit → Act → World → Prop} (hgd : o.guard = none) (ty : TypeId) (x y : Operand) (ho : o.op = .store ty x y)
    (g i : Nat) (b : UInt8) (hx : a.eval x = .pointer (some ⟨g, i, none⟩)) (hy : a.eval y = .int .u8 (b.toNat : Int)) (T : TypeId) (l : List UInt8) (hB : BB w g T l) (hl : i < l.length) (hi : (P.info? ty).map (·.size) = some 1)
    (h : ∀ w', Hid (BB w' g T (l.set i b)) → Keeps [g] w w' → wpList P ops Q rest (a.put o.dst undef) w') : wpList P ops Q (o :: rest) a w :=
  wpList_store_cell hgd ty x y ho g i _ _ hx hy rfl (hB.cell i hl) (frozen_of_row w g i _ _ hB) hi (h _ (hB.set i b) ((Keeps.refl [g] w).setCell (p := ⟨g, i, none⟩) (.inl (by simp)) _))
end Go.Proofs.Ythppbefemfkccaa
