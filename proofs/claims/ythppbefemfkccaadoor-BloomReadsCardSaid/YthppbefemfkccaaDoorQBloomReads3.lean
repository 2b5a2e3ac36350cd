/- Parts of slices: the operation x[l:h:m], at any element, and what such a part reads as. No program is named here. Bytes in a block, and the store of one cell: laws whose world behind is open but for what is known of it. No program is named here. 'append(xs, s...)' of a text onto bytes of one's own. No program is named here. DERIVED: THE SHELF's CONTRACTS AT THIS DUMP, IN PLAIN WORDS (tools/lay-plain.mjs out of 'TrydShelf.lean', which tools/lay-shelf.mjs wrote): THE SAME DECLARATIONS UNDER THE SAME NAMES: 'import', 'namespace', 'open', 'def', 'theorem' AND NOTHING ELSE: no command of the shelf's: FOR A HAND-IN. Each laying: the table of numbers ('.._ren') and one theorem, a field a fact of the dump's own or the kernel's comparison; each contract: ONE APPLICATION. This program's rows of its types' table, for bytes. -/
import Derived.Test.YthppbefemfkccaaDoorQBloomReads1
import Derived.Test.YthppbefemfkccaaDoorQBloomReads2
import Derived.Deep.MidRow
import Derived.Lib.AppendStr
import Derived.Shelf.Small.Bits
import Derived.Shelf.Strconv.Itoa0
import Derived.Test.YthppbefemfkccaaDoorProg
namespace Go.Proofs.YthppbefemfkccaaDoor
open Go.RowKit

/-- Where a part begins: m is where its room ends. -/
def secA (A : Option Addr) (l m size : Nat) : Option Addr := if m = l then A else A.map (·.add (l * size))
theorem secA_block {A : Option Addr} {l m size : Nat} {a : Addr} (h : secA A l m size = some a) : ∃ b, A = some b ∧ a.block = b.block := by
  unfold secA at h
  split at h
  · exact ⟨a, h, rfl⟩
  · cases A with
    | none => cases h
    | some b => simp at h; exact ⟨b, rfl, by rw [← h, add_block]⟩
theorem secA_zero (A : Option Addr) (m size : Nat) : secA A 0 m size = A := by
  unfold secA
  split
  · rfl
  · cases A <;> simp [Addr.add]
theorem secA_none (l m size : Nat) : secA none l m size = none := by unfold secA; split <;> rfl
theorem Rd.sec {w : World} {A : Option Addr} {n size : Nat} {xs : List Value} (h : Rd w A n size xs) (l k m : Nat) (hk : l + k ≤ n) (hm : l + k ≤ m) : Rd w (secA A l m size) k size ((xs.drop (l * size)).take (k * size)) :=
  h.part l k hk (fun h0 ad e => by unfold secA; rw [if_neg (by omega), e]; rfl)
theorem RdB.sec {w : World} {A : Option Addr} {xs : List UInt8} (h : RdB w A xs) (l k m : Nat) (hk : l + k ≤ xs.length) (hm : l + k ≤ m) : RdB w (secA A l m 1) ((xs.drop l).take k) :=
  h.part l k hk (fun h0 ad e => by unfold secA; rw [if_neg (by omega), e]; simp)
theorem RdB.tail {w : World} {A : Option Addr} {xs : List UInt8} (h : RdB w A xs) (l m : Nat) (hk : l ≤ xs.length) (hm : xs.length ≤ m) : RdB w (secA A l m 1) (xs.drop l) := by
  have := h.sec l (xs.length - l) m (by omega) (by omega)
  rwa [List.take_of_length_le (by simp)] at this
theorem RdB.head {w : World} {A : Option Addr} {xs : List UInt8} (h : RdB w A xs) (k : Nat) (hk : k ≤ xs.length) : RdB w A (xs.take k) := by
  have := h.sec 0 k k (by omega) (by omega)
  rwa [secA_zero, List.drop_zero] at this

section
variable {P : Program} {w : World} {ops : Array Oper} {rest : List Oper} {o : Oper} {a : Act} {Q : Exit → Act → World → Prop}
theorem run_sliceBound (i : Int) (k : IntKind) (y : Nat) (code : BoundsCode) (w : World) (h0 : 0 ≤ i) (h1 : i ≤ y) : (Instr.sliceBound (.int k i) y code).run P w = .ok i.toNat w := by
  unfold Instr.sliceBound
  simp [asIntOf, h0, h1]
/-- A bound, as it stands in the text: none, or a number. -/
def Bnd (a : Act) (x : Option Operand) (d : Nat) (n : Nat) : Prop := (x = none ∧ n = d) ∨ ∃ y k, x = some y ∧ a.eval y = .int k (n : Int)
theorem Bnd.no {a : Act} {d : Nat} : Bnd a none d d := .inl ⟨rfl, rfl⟩
theorem Bnd.at_ {a : Act} {y : Operand} {d n : Nat} {k : IntKind} (h : a.eval y = .int k (n : Int)) : Bnd a (some y) d n := .inr ⟨y, k, rfl, h⟩
theorem run_slice_sec {t e : TypeId} {size : Nat} (ht : P.underlying t = some (.slice e)) (hi : (P.info? e).map (·.size) = some size) (lo hi' mx : Option Operand) (A : Option Addr) (len cap l h m : Nat)
    (hl : Bnd a lo 0 l) (hh : Bnd a hi' len h) (hm : Bnd a mx cap m) (h1 : l ≤ h) (h2 : h ≤ m) (h3 : m ≤ cap) (h4 : hi' = none → mx = none) :
    (Instr.slice t (.slice A len cap) (lo.map a.eval) (hi'.map a.eval) (mx.map a.eval)).run P w = .ok (.slice (secA A l m size) (h - l) (m - l)) w := by
  cases hq : P.info? e with
  | none => rw [hq] at hi; cases hi
  | some i =>
    have hs : i.size = size := by rw [hq] at hi; simpa using hi
    have bl : ∀ k code, (Instr.sliceBound (.int k (l : Int)) h code).run P w = .ok l w := fun k code => by simpa using run_sliceBound (P := P) (l : Int) k h code w (by omega) (by omega)
    have bh : ∀ k code, (Instr.sliceBound (.int k (h : Int)) m code).run P w = .ok h w := fun k code => by simpa using run_sliceBound (P := P) (h : Int) k m code w (by omega) (by omega)
    have bm : ∀ k code, (Instr.sliceBound (.int k (m : Int)) cap code).run P w = .ok m w := fun k code => by simpa using run_sliceBound (P := P) (m : Int) k cap code w (by omega) (by omega)
    unfold Instr.slice Instr.sliceBounds
    simp only [Sem.run_bind, run_underlying ht, Result.andThen_ok]
    rcases hm with ⟨rfl, rfl⟩ | ⟨y3, k3, rfl, e3⟩
    · rcases hh with ⟨rfl, rfl⟩ | ⟨y2, k2, rfl, e2⟩
      · rcases hl with ⟨rfl, rfl⟩ | ⟨y1, k1, rfl, e1⟩
        · simp [sizeOf, typeInfo, hq, hs, secA]
        · simp [sizeOf, typeInfo, hq, hs, secA, e1, Sem.run_bind, bl]
      · rcases hl with ⟨rfl, rfl⟩ | ⟨y1, k1, rfl, e1⟩
        · simp [sizeOf, typeInfo, hq, hs, secA, e2, Sem.run_bind, bh]
        · simp [sizeOf, typeInfo, hq, hs, secA, e1, e2, Sem.run_bind, bh, bl]
    · rcases hh with ⟨rfl, rfl⟩ | ⟨y2, k2, rfl, e2⟩
      · exact absurd (h4 rfl) (by simp)
      · rcases hl with ⟨rfl, rfl⟩ | ⟨y1, k1, rfl, e1⟩
        · simp [sizeOf, typeInfo, hq, hs, secA, e2, e3, Sem.run_bind, bm, bh]
        · simp [sizeOf, typeInfo, hq, hs, secA, e1, e2, e3, Sem.run_bind, bm, bh, bl]
theorem wpList_sec (hgd : o.guard = none) (t : TypeId) (x : Operand) (lo hi' mx : Option Operand) (ho : o.op = .slice t x lo hi' mx) {e : TypeId} {size : Nat} (ht : P.underlying t = some (.slice e)) (hi : (P.info? e).map (·.size) = some size)
    (A : Option Addr) (len cap l h m : Nat) (hx : a.eval x = .slice A len cap) (hl : Bnd a lo 0 l) (hh : Bnd a hi' len h) (hm : Bnd a mx cap m) (h1 : l ≤ h) (h2 : h ≤ m) (h3 : m ≤ cap) (h4 : hi' = none → mx = none)
    (hn : wpList P ops Q rest (a.put o.dst (.slice (secA A l m size) (h - l) (m - l))) w) : wpList P ops Q (o :: rest) a w := by
  refine wpList_plain hgd fun K hK => ?_
  have hr := run_slice_sec (P := P) (w := w) (a := a) ht hi lo hi' mx A len cap l h m hl hh hm h1 h2 h3 h4
  have hsl : ∀ v lo hi mx, (Instr.sliceAt t v lo hi mx).run P w = (Instr.slice t v lo hi mx).run P w := fun v lo hi mx => by simp [Instr.sliceAt, run_underlying ht]
  unfold Oper.wp execOp
  simp only [ho, hx, Sem.run_bind, hsl, hr, Result.andThen_ok, Sem.run_pure]
  exact hK _ _ hn
/-- A part of an array behind a pointer. -/
theorem wpList_secArr (hgd : o.guard = none) (t : TypeId) (x : Operand) (lo hi' mx : Option Operand) (ho : o.op = .slice t x lo hi' mx) {e : TypeId} {n size : Nat} (ht : P.underlying t = some (.array n e)) (hi : (P.info? e).map (·.size) = some size)
    (ad : Addr) (l h m : Nat) (hx : a.eval x = .pointer (some ad)) (hl : Bnd a lo 0 l) (hh : Bnd a hi' n h) (hm : Bnd a mx n m) (h1 : l ≤ h) (h2 : h ≤ m) (h3 : m ≤ n) (h4 : hi' = none → mx = none)
    (hn : wpList P ops Q rest (a.put o.dst (.slice (secA (some ad) l m size) (h - l) (m - l))) w) : wpList P ops Q (o :: rest) a w := by
  refine wpList_plain hgd fun K hK => ?_
  have hr : (Instr.sliceAt t (.pointer (some ad)) (lo.map a.eval) (hi'.map a.eval) (mx.map a.eval)).run P w = .ok (.slice (secA (some ad) l m size) (h - l) (m - l)) w := by
    cases hq : P.info? e with
    | none => rw [hq] at hi; cases hi
    | some i =>
      have hs : i.size = size := by rw [hq] at hi; simpa using hi
      have bl : ∀ k code, (Instr.sliceBound (.int k (l : Int)) h code).run P w = .ok l w := fun k code => by simpa using run_sliceBound (P := P) (l : Int) k h code w (by omega) (by omega)
      have bh : ∀ k code, (Instr.sliceBound (.int k (h : Int)) m code).run P w = .ok h w := fun k code => by simpa using run_sliceBound (P := P) (h : Int) k m code w (by omega) (by omega)
      have bm : ∀ k code, (Instr.sliceBound (.int k (m : Int)) n code).run P w = .ok m w := fun k code => by simpa using run_sliceBound (P := P) (m : Int) k n code w (by omega) (by omega)
      unfold Instr.sliceAt Instr.sliceBounds
      simp only [Sem.run_bind, run_underlying ht, Result.andThen_ok, Instr.sureAddr, Sem.run_pure]
      rcases hm with ⟨rfl, rfl⟩ | ⟨y3, k3, rfl, e3⟩
      · rcases hh with ⟨rfl, rfl⟩ | ⟨y2, k2, rfl, e2⟩
        · rcases hl with ⟨rfl, rfl⟩ | ⟨y1, k1, rfl, e1⟩
          · simp [sizeOf, typeInfo, hq, hs]; try (unfold secA; split <;> simp_all)
          · simp [sizeOf, typeInfo, hq, hs, e1, Sem.run_bind, bl]; try (unfold secA; split <;> simp_all)
        · rcases hl with ⟨rfl, rfl⟩ | ⟨y1, k1, rfl, e1⟩
          · simp [sizeOf, typeInfo, hq, hs, e2, Sem.run_bind, bh]; try (unfold secA; split <;> simp_all)
          · simp [sizeOf, typeInfo, hq, hs, e1, e2, Sem.run_bind, bh, bl]; try (unfold secA; split <;> simp_all)
      · rcases hh with ⟨rfl, rfl⟩ | ⟨y2, k2, rfl, e2⟩
        · exact absurd (h4 rfl) (by simp)
        · rcases hl with ⟨rfl, rfl⟩ | ⟨y1, k1, rfl, e1⟩
          · simp [sizeOf, typeInfo, hq, hs, e2, e3, Sem.run_bind, bm, bh]; try (unfold secA; split <;> simp_all)
          · simp [sizeOf, typeInfo, hq, hs, e1, e2, e3, Sem.run_bind, bm, bh, bl]; try (unfold secA; split <;> simp_all)
  unfold Oper.wp execOp
  simp only [ho, hx, Sem.run_bind, hr, Result.andThen_ok, Sem.run_pure]
  exact hK _ _ hn
/-- The same in a region that draws its order. -/
theorem yieldsIf_sec {S : World → Prop} (hw : Region.wanted o (yielded ops a.tmps) = true) (t : TypeId) (x : Operand) (lo hi' mx : Option Operand) (ho : o.op = .slice t x lo hi' mx) {e : TypeId} {size : Nat} (ht : P.underlying t = some (.slice e)) (hi : (P.info? e).map (·.size) = some size)
    (A : Option Addr) (len cap l h m : Nat) (hx : a.eval x = .slice A len cap) (hl : Bnd a lo 0 l) (hh : Bnd a hi' len h) (hm : Bnd a mx cap m) (h1 : l ≤ h) (h2 : h ≤ m) (h3 : m ≤ cap) (h4 : hi' = none → mx = none)
    (v : Value) (hv : v = .slice (secA A l m size) (h - l) (m - l)) : YieldsIf P ops S o v a :=
  .inl ⟨hw, fun w _ => by
    subst hv
    have hr := run_slice_sec (P := P) (w := w) (a := a) ht hi lo hi' mx A len cap l h m hl hh hm h1 h2 h3 h4
    have hsl : ∀ v lo hi mx, (Instr.sliceAt t v lo hi mx).run P w = (Instr.slice t v lo hi mx).run P w := fun v lo hi mx => by simp [Instr.sliceAt, run_underlying ht]
    unfold execOp
    simp only [ho, hx, Sem.run_bind, hsl, hr, Result.andThen_ok, Sem.run_pure]⟩
theorem secA_some {g o l m size : Nat} (h : l < m) : secA (some ⟨g, o, none⟩) l m size = some ⟨g, o + l * size, none⟩ := by
  unfold secA
  rw [if_neg (by omega), Option.map_some, add_new]
end
end Go.Proofs.YthppbefemfkccaaDoor
namespace Go.Proofs.YthppbefemfkccaaDoor
open Go.RowKit

theorem encB_set (l : List UInt8) (i : Nat) (b : UInt8) : (encB l).toArray.setIfInBounds i (.int .u8 (b.toNat : Int)) = (encB (l.set i b)).toArray := by
  rw [List.setIfInBounds_toArray]
  unfold encB
  rw [List.map_set]
/-- Bytes in a block. -/
def BB (w : World) (g : Nat) (T : TypeId) (l : List UInt8) : Prop := w.heap[g]? = some (.cells (encB l).toArray T (0, 0))
theorem BB.keeps {S : List Nat} {w w' : World} {g : Nat} {T : TypeId} {l : List UInt8} (h : BB w g T l) (hk : Keeps S w w') (hg : g ∉ S) : BB w' g T l := (hk.block g (lt_of_block h) hg).trans h
theorem BB.cell {w : World} {g : Nat} {T : TypeId} {l : List UInt8} (h : BB w g T l) (i : Nat) (hi : i < l.length) : w.cell? ⟨g, i, none⟩ = some (.int .u8 (l[i].toNat : Int)) := by
  rw [cell_of_row _ _ _ _ _ _ h, List.getElem?_toArray, List.getElem?_eq_getElem (by simpa using hi), encB_get l i hi]
theorem BB.set {w : World} {g : Nat} {T : TypeId} {l : List UInt8} (h : BB w g T l) (i : Nat) (b : UInt8) : BB (w.setCell ⟨g, i, none⟩ (.int .u8 (b.toNat : Int))) g T (l.set i b) := by
  unfold BB
  rw [heap_setCell_same w g i _ _ _ h, encB_set]

/-- A cell of one's own bytes, stored. -/
theorem OwnB.at0 {E : TypeId} {w : World} {A : Option Addr} {c : Nat} {l : List UInt8} (h : OwnB E w A c l) (hl : 0 < l.length) : ∃ g, A = some ⟨g, 0, none⟩ ∧ (∀ (i : Nat) (_ : i < l.length), w.cell? ⟨g, i, none⟩ = some (.int .u8 (l[i].toNat : Int))) ∧ ∀ i, w.frozen? ⟨g, i, none⟩ = false := by
  rcases h.2 with ⟨_, h0⟩ | ⟨g, cap, cur, hv, _, hh, _, _, _, ht⟩
  · omega
  · have hA : A = some ⟨g, 0, none⟩ := by injection hv
    refine ⟨g, hA, fun i hi => ?_, fun i => frozen_of_row w g i _ _ hh⟩
    obtain ⟨ad, e, hc⟩ := (OwnB.rd h).at_ hi
    rw [hA] at e
    obtain rfl := Option.some.inj e
    rw [add_new, Nat.zero_add] at hc
    exact hc
theorem OwnB.set {E : TypeId} {w : World} {g : Nat} {c : Nat} {l : List UInt8} (h : OwnB E w (some ⟨g, 0, none⟩) c l) (i : Nat) (b : UInt8) (_ : i < l.length) : OwnB E (w.setCell ⟨g, i, none⟩ (.int .u8 (b.toNat : Int))) (some ⟨g, 0, none⟩) c (l.set i b) := by
  obtain ⟨h1, h2⟩ := h
  have el : (l.set i b).length = l.length := List.length_set
  unfold OwnB
  rw [el]
  refine ⟨by simp, ?_⟩
  rcases h2 with ⟨e, _⟩ | ⟨g', cap, cur, hv, hb, hh, hn, hm, hs, ht⟩
  · cases e
  · obtain ⟨rfl⟩ : g = g' := by injection hv with e1; simpa using e1
    refine .inr ⟨g, cap, cur.setIfInBounds i (.int .u8 (b.toNat : Int)), hv, hb, heap_setCell_same w g i _ _ _ hh, hn, hm, by simpa using hs, ?_⟩
    rw [Array.toList_setIfInBounds, List.take_set, ht]
    unfold encB
    rw [List.map_set]
/-- One cell, stored. -/
theorem run_storeVar_cell {P : Program} (w : World) (b o : Nat) (ty : TypeId) (v old : Value) (hc : w.cell? ⟨b, o, none⟩ = some old) (hf : w.frozen? ⟨b, o, none⟩ = false) (hi : (P.info? ty).map (·.size) = some 1) (h1 : v.oneCell' = true) :
    (storeVar ty ⟨b, o, none⟩ v).run P w = .ok () (w.setCell ⟨b, o, none⟩ v) := by
  have := run_storeCells_cells (P := P) b o [v] 0 w (fun j hj => by
      obtain rfl : j = 0 := by simpa using hj
      simp only [Nat.add_zero]
      rw [hc]
      rfl) (fun j hj => by
      obtain rfl : j = 0 := by simpa using hj
      simp only [Nat.add_zero]
      exact hf)
    (fun x hx => by simp at hx; subst hx; exact h1)
  have hcs : v.cells = #[v] := by cases v <;> first | rfl | cases h1
  cases hq : P.info? ty with
  | none => simp [hq] at hi
  | some i =>
    have hs : i.size = 1 := by simpa [hq] using hi
    simp only [Nat.add_zero] at this
    simp [storeVar, sizeOf, typeInfo, hq, hcs, hs, this, World.setCells]
theorem wpList_store_cell {P : Program} {ops : Array Oper} {rest : List Oper} {o : Oper} {a : Act} {w : World} {Q : Exit → Act → World → Prop} (hgd : o.guard = none) (ty : TypeId) (x y : Operand) (ho : o.op = .store ty x y)
    (g i : Nat) (v old : Value) (hx : a.eval x = .pointer (some ⟨g, i, none⟩)) (hy : a.eval y = v) (h1 : v.oneCell' = true) (hc : w.cell? ⟨g, i, none⟩ = some old) (hf : w.frozen? ⟨g, i, none⟩ = false) (hi : (P.info? ty).map (·.size) = some 1)
    (h : wpList P ops Q rest (a.put o.dst undef) (w.setCell ⟨g, i, none⟩ v)) : wpList P ops Q (o :: rest) a w :=
  wpList_plain hgd fun _ hK => by
    unfold Oper.wp execOp
    simp only [ho, hx, hy, Instr.storeAt, Instr.sureAddr, Sem.run_bind, Sem.run_pure, Result.andThen_ok, run_storeVar_cell w g i ty v old hc hf hi h1]
    exact hK _ _ h
theorem wpList_store_byte {P : Program} {ops : Array Oper} {rest : List Oper} {o : Oper} {a : Act} {w : World} {Q : Exit → Act → World → Prop} (hgd : o.guard = none) (ty : TypeId) (x y : Operand) (ho : o.op = .store ty x y)
    (g i : Nat) (b : UInt8) (hx : a.eval x = .pointer (some ⟨g, i, none⟩)) (hy : a.eval y = .int .u8 (b.toNat : Int)) (T : TypeId) (l : List UInt8) (hB : BB w g T l) (hl : i < l.length) (hi : (P.info? ty).map (·.size) = some 1)
    (h : ∀ w', Hid (BB w' g T (l.set i b)) → Keeps [g] w w' → wpList P ops Q rest (a.put o.dst undef) w') : wpList P ops Q (o :: rest) a w :=
  wpList_store_cell hgd ty x y ho g i _ _ hx hy rfl (hB.cell i hl) (frozen_of_row w g i _ _ hB) hi (h _ (hB.set i b) ((Keeps.refl [g] w).setCell (p := ⟨g, i, none⟩) (.inl (by simp)) _))
end Go.Proofs.YthppbefemfkccaaDoor
namespace Go.Proofs.YthppbefemfkccaaDoor
open Go.RowKit

theorem strCells_strB (l : List UInt8) : Lib.strCells (strB l) = encB l := by
  simp [Lib.strCells, strB, encB]
theorem wpList_appendS {P : Program} {w : World} {ops : Array Oper} {rest : List Oper} {o : Oper} {a : Act} {Q : Exit → Act → World → Prop} (hgd : o.guard = none) (s x : Operand) (t u E : TypeId)
    (ho : o.op = .call { callee := .builtin .append, args := #[s, x], argTypes := #[t, u] }) (ht : P.underlying t = some (.slice E)) (hu : P.underlying u = some .string)
    (hinfo : (P.info? E).map (fun i => (i.zero, i.size, i.bytes)) = some (some (.int .u8 0), 1, 1))
    (A : Option Addr) (cv : Nat) (l : List UInt8) (hs : a.eval s = .slice A l.length cv) (hown : OwnB E w A cv l)
    (l2 : List UInt8) (hx : a.eval x = .string (strB l2)) (hb : l.length + l2.length ≤ 140737488355328)
    (h : ∀ A' c' w' l', Hid (l' = l ++ l2) → OwnB E w' A' c' l' → Keeps (blk A) w w' → (∀ a, A' = some a → a.block ∈ blk A ∨ w.heap.size ≤ a.block) → wpList P ops Q rest (a.put o.dst (.slice A' l'.length c')) w') :
    wpList P ops Q (o :: rest) a w := by
  refine wpList_plain hgd fun K hK => ?_
  obtain ⟨i, hi, hz0, hz1, hz2⟩ := info_parts hinfo
  obtain ⟨v', w', hr, hown', hg, hn⟩ := Lib.run_append_own_string (P := P) w 0 t u o.type E i ht hu hi hz0 hz1 hz2 (.slice A l.length cv) l.length (encB l) hown (strB l2) (by show l.length + l2.length ≤ _; unfold maxLen; omega) hb (Nat.zero_le _)
  have hsz : (strB l2).size = l2.length := rfl
  rw [strCells_strB, ← encB_append, hsz] at hown'
  have hll : l.length + l2.length = (l ++ l2).length := by simp
  rw [hll] at hown'
  have hb' : ∀ A' m c', v' = .slice A' m c' → ∀ a, A' = some a → a.block ∈ blk A ∨ w.heap.size ≤ a.block := by
    intro A' m c' hv a ha
    subst hv ha
    rcases hown.2 with ⟨h1, h0⟩ | ⟨g, cap, cur, h1, _, hh, hnc, hcm, hcs, _⟩
    · injection h1 with e1 e2 e3
      subst e1 e3
      rw [h0] at hr
      have h2 : 0 < (strB l2).size := by
        rcases Nat.eq_zero_or_pos (strB l2).size with h | h
        · exact absurd (hn.2 ⟨by rw [h0], h⟩) (by simp)
        · exact h
      have hr2 := run_append_nil_string (P := P) w t u o.type E i (.int .u8 0) ht hu hi hz0 (strB l2) h2 (by rw [hsz]; omega) (by rw [hsz, hz2]; omega)
      rw [hr] at hr2
      injection hr2 with e4 _
      injection e4 with e5 _ _
      obtain rfl := Option.some.inj e5
      exact .inr (Nat.le_refl _)
    · injection h1 with e1 e2 e3
      subst e1 e3
      by_cases hroom : l.length + (strB l2).size ≤ cv
      · have hr2 := Lib.run_append_room_string (P := P) w t u o.type E i ht hu hi hz1 g l.length cv cur hh (strB l2) hroom (by simpa [hcs] using hroom)
        rw [hr] at hr2
        injection hr2 with e4 _
        injection e4 with e5 _ _
        obtain rfl := Option.some.inj e5
        exact .inl (by simp [blk])
      · have hr2 := Lib.run_append_grow_string (P := P) w t u o.type E i (.int .u8 0) ht hu hi hz0 ⟨g, 0, none⟩ l.length cv (encB l) (by rw [hz1]; simp) (World.ownsRow.cells hown (g := g) rfl) (strB l2) (by omega) (by rw [hsz]; omega) (by rw [hz2]; exact growslice_fits (by omega) (by rw [hsz]; omega))
        rw [hr] at hr2
        injection hr2 with e4 _
        injection e4 with e5 _ _
        obtain rfl := Option.some.inj e5
        exact .inr (Nat.le_refl _)
  have hshape : ∃ A' c', v' = .slice A' (l ++ l2).length c' := by
    rcases hown'.2 with ⟨h1, h0⟩ | ⟨g, cap, cur, h1, _⟩
    · exact ⟨none, 0, by rw [h1, h0]⟩
    · exact ⟨_, cap, h1⟩
  obtain ⟨A', c', rfl⟩ := hshape
  unfold Oper.wp execOp
  simp only [ho, resolve, invoke, builtin, Sem.run_bind, Sem.run_pure, Result.andThen_ok, List.map_toArray, List.map_cons, List.map_nil, hs, hx, hr]
  refine hK _ _ (h A' c' w' (l ++ l2) rfl hown' ⟨hg.os, hg.tape, hg.output, hg.size, fun k hk hnm => hg.block k hk (fun e => hnm ?_)⟩ (hb' A' _ c' rfl))
  cases A with
  | none => simp [Value.ownBlock] at e
  | some a0 => simp only [Value.ownBlock, Option.some.injEq] at e; exact mem_blk.2 ⟨a0, rfl, e.symm⟩
end Go.Proofs.YthppbefemfkccaaDoor
namespace Go.Proofs
open Go.Shelf
def Tryd.lays126_ren : Go.Shelf.Ren := ⟨fun | 126 => 66 | n => n, fun | 5 => 5 | 3 => 3 | 9 => 9 | n => n, fun | n => n⟩
theorem Tryd.lays126 : Go.Proofs.Lays.n126 Tryd.prog Tryd.lays126_ren := {
  mixed := by kernel_rfl
  f126 := Tryd.func66.trans (congrArg some (by kernel_rfl))
  t3 := Tryd.underlying3
  a3 := Tryd.isAgg3
  z3 := Tryd.sizeOf3
  v3 := Tryd.zeroValue3
  t5 := Tryd.underlying5
  a5 := Tryd.isAgg5
  z5 := Tryd.sizeOf5
  v5 := Tryd.zeroValue5
  t9 := Tryd.underlying9
  a9 := Tryd.isAgg9
  z9 := Tryd.sizeOf9
  v9 := Tryd.zeroValue9 }
/-- bits.Len8: "Len8 returns the minimum number of bits required to represent x; the result is 0 for x == 0.": IT RETURNS 'Lib.bitLen x'; the world is as it was. ('h0', 'h1': x is a uint8.) (LAID: no walk: one application.) -/
theorem Tryd.bits_Len8 (x : Int) (w : World) (h0 : 0 ≤ x) (h1 : x ≤ 255) :
    Calls Tryd.prog 66 #[.int .u8 x] w fun e w' => e = .returned (.int .i64 (Lib.bitLen x.toNat)) ∧ w' = w := Any.bits_Len8 Tryd.lays126 x w h0 h1
def Tryd.lays131_ren : Go.Shelf.Ren := ⟨fun | 131 => 65 | 126 => 66 | n => n, fun | 5 => 5 | 3 => 3 | 9 => 9 | n => n, fun | n => n⟩
theorem Tryd.lays131 : Go.Proofs.Lays.n131 Tryd.prog Tryd.lays131_ren := {
  mixed := by kernel_rfl
  f126 := Tryd.func66.trans (congrArg some (by kernel_rfl))
  f131 := Tryd.func65.trans (congrArg some (by kernel_rfl))
  t3 := Tryd.underlying3
  a3 := Tryd.isAgg3
  z3 := Tryd.sizeOf3
  v3 := Tryd.zeroValue3
  t5 := Tryd.underlying5
  a5 := Tryd.isAgg5
  z5 := Tryd.sizeOf5
  v5 := Tryd.zeroValue5
  t9 := Tryd.underlying9
  a9 := Tryd.isAgg9
  z9 := Tryd.sizeOf9
  v9 := Tryd.zeroValue9 }
/-- bits.LeadingZeros8: "LeadingZeros8 returns the number of leading zero bits in x; the result is 8 for x == 0.": IT RETURNS '8 - Lib.bitLen x'; the world is as it was. ITS CALLEE bits.Len8 IS MET BY ITS OWN CONTRACT OFF THE SHELF (lay that first): ENTERED IN PLACE it sends the kernel out of memory. (LAID: no walk: one application.) -/
theorem Tryd.bits_LeadingZeros8 (x : Int) (w : World) (h0 : 0 ≤ x) (h1 : x ≤ 255) :
    Calls Tryd.prog 65 #[.int .u8 x] w fun e w' => e = .returned (.int .i64 (8 - (Lib.bitLen x.toNat : Int))) ∧ w' = w := Any.bits_LeadingZeros8 Tryd.lays131 x w h0 h1
def Tryd.lays135_ren : Go.Shelf.Ren := ⟨fun | 135 => 26 | n => n, fun | 5 => 5 | 3 => 3 | 9 => 9 | n => n, fun | n => n⟩
theorem Tryd.lays135 : Go.Proofs.Lays.n135 Tryd.prog Tryd.lays135_ren := {
  mixed := by kernel_rfl
  f135 := Tryd.func26.trans (congrArg some (by kernel_rfl))
  t3 := Tryd.underlying3
  a3 := Tryd.isAgg3
  z3 := Tryd.sizeOf3
  v3 := Tryd.zeroValue3
  t5 := Tryd.underlying5
  a5 := Tryd.isAgg5
  z5 := Tryd.sizeOf5
  v5 := Tryd.zeroValue5
  t9 := Tryd.underlying9
  a9 := Tryd.isAgg9
  z9 := Tryd.sizeOf9
  v9 := Tryd.zeroValue9 }
/-- bits.OnesCount8: "OnesCount8 returns the number of one bits ("population count") in x.": IT RETURNS 'Lib.onesCount x'; the world is as it was. ('h0', 'h1': x is a uint8.) (LAID: no walk: one application.) -/
theorem Tryd.bits_OnesCount8 (x : Int) (w : World) (h0 : 0 ≤ x) (h1 : x ≤ 255) :
    Calls Tryd.prog 26 #[.int .u8 x] w fun e w' => e = .returned (.int .i64 (Lib.onesCount x.toNat)) ∧ w' = w := Any.bits_OnesCount8 Tryd.lays135 x w h0 h1
def Tryd.lays129_ren : Go.Shelf.Ren := ⟨fun | 129 => 63 | n => n, fun | 53 => 60 | 3 => 3 | 4 => 4 | 46 => 76 | 5 => 5 | 9 => 9 | n => n, fun | n => n⟩
theorem Tryd.lays129 : Go.Proofs.Lays.n129 Tryd.prog Tryd.lays129_ren := {
  mixed := by kernel_rfl
  f129 := Tryd.func63.trans (congrArg some (by kernel_rfl))
  t3 := Tryd.underlying3
  a3 := Tryd.isAgg3
  z3 := Tryd.sizeOf3
  v3 := Tryd.zeroValue3
  t4 := Tryd.underlying4
  a4 := Tryd.isAgg4
  z4 := Tryd.sizeOf4
  v4 := Tryd.zeroValue4
  t5 := Tryd.underlying5
  a5 := Tryd.isAgg5
  z5 := Tryd.sizeOf5
  v5 := Tryd.zeroValue5
  t9 := Tryd.underlying9
  a9 := Tryd.isAgg9
  z9 := Tryd.sizeOf9
  v9 := Tryd.zeroValue9
  t46 := Tryd.underlying76
  a46 := Tryd.isAgg76
  z46 := Tryd.sizeOf76
  v46 := Tryd.zeroValue76
  t53 := Tryd.underlying60
  a53 := Tryd.isAgg60
  z53 := Tryd.sizeOf60
  v53 := Tryd.zeroValue60 }
/-- bits.Len64: "Len64 returns the minimum number of bits required to represent x; the result is 0 for x == 0.": IT RETURNS 'Lib.bitLen x'; the world is as it was. ('h0', 'h1': x is a uint64.) (LAID: no walk: one application.) -/
theorem Tryd.bits_Len64 (x : Int) (w : World) (h0 : 0 ≤ x) (h1 : x ≤ 18446744073709551615) :
    Calls Tryd.prog 63 #[.int .u64 x] w fun e w' => e = .returned (.int .i64 (Lib.bitLen x.toNat)) ∧ w' = w := Any.bits_Len64 Tryd.lays129 x w h0 h1
end Go.Proofs
namespace Go.Proofs.YthppbefemfkccaaDoor
theorem infoB : (Tryd.prog.info? 5).map (fun i => (i.zero, i.size, i.bytes)) = some (some (.int .u8 0), 1, 1) := by kernel_rfl
end Go.Proofs.YthppbefemfkccaaDoor
