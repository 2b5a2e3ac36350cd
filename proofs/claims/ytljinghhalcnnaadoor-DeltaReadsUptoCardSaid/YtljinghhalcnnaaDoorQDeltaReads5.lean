/- A region that draws its order and ends in a store (number z, which waits for all others): what is known of the world need not hold behind that store. No program is named here. Bytes in a block, and the store of one cell: laws whose world behind is open but for what is known of it. No program is named here. The parts that tell a block by another one: a contract. -/
import Derived.Test.YtljinghhalcnnaaDoorQDeltaReads2
import Derived.Test.YtljinghhalcnnaaDoorQDeltaReads4
import Derived.Deep.MidRow
namespace Go.Proofs.YtljinghhalcnnaaDoor
open Go.RowKit

section
variable {P : Program} {L : List Oper} {Q : Exit → Act → World → Prop} {md : Region.Mode} {S : World → Prop} {z : Nat}

/-- Whatever comes up; behind each one but number z, S holds. -/
def anyZ (P : Program) (md : Region.Mode) (ops : Array Oper) (Q : Exit → Act → World → Prop) (S : World → Prop) (z : Nat) : Nat → Array Bool → Act → World → Prop
  | 0, done, a, w => Region.ready md ops done = [] ∧ Q .normal a w
  | n + 1, done, a, w => (Region.ready md ops done = [] → Q .normal a w) ∧
      ∀ j ∈ Region.ready md ops done, wpOp P ops Q j (fun a' w' => (j ≠ z → S w') ∧ anyZ P md ops Q S z n (done.setIfInBounds j true) a' w') a w
theorem anyZ_any {ops : Array Oper} : ∀ (n : Nat) (done : Array Bool) (a : Act) (w : World), anyZ P md ops Q S z n done a w → wpAny P md ops Q n done a w
  | 0, _, _, _, k => k
  | n + 1, _, _, _, k => ⟨k.1, fun j hj => wpOp_mono (fun _ _ k' => anyZ_any n _ _ _ k'.2) (k.2 j hj)⟩
/-- Number z waits for number i, or for what waits for it, and so on. -/
def reachB (md : Region.Mode) (ops : Array Oper) : Nat → Nat → Nat → Bool
  | 0, _, _ => false
  | n + 1, z, i => match ops[z]? with
    | some o => o.after.any fun e => Region.binds md e && (e.on == i || reachB md ops n e.on i)
    | none => false
/-- What is done has all done that it waits for. -/
def ShutB (md : Region.Mode) (ops : Array Oper) (done : Array Bool) : Prop := ∀ m om, ops[m]? = some om → done.getD m false = true → ∀ e ∈ om.after, Region.binds md e = true → done.getD e.on false = true
def shutB (md : Region.Mode) (ops : Array Oper) (done : Array Bool) : Bool := (List.range ops.size).all fun m => !done.getD m false || match ops[m]? with | some om => om.after.all fun e => !Region.binds md e || done.getD e.on false | none => true
theorem ShutB.of {md : Region.Mode} {ops : Array Oper} {done : Array Bool} (h : shutB md ops done = true) : ShutB md ops done := by
  intro m om hm hd e he hb
  have hlt := (Array.getElem?_eq_some_iff.1 hm).1
  have h1 := List.all_eq_true.1 h m (List.mem_range.2 hlt)
  rw [hm, hd] at h1
  simp only [Bool.not_true, Bool.false_or] at h1
  have h2 := Array.all_eq_true_iff_forall_mem.1 h1 e he
  rw [hb] at h2
  simpa using h2
theorem ShutB.set {md : Region.Mode} {ops : Array Oper} {done : Array Bool} (h : ShutB md ops done) {j : Nat} (hj : j ∈ Region.ready md ops done) : ShutB md ops (done.setIfInBounds j true) := by
  have up : ∀ k, done.getD k false = true → (done.setIfInBounds j true).getD k false = true := by
    intro k hk
    by_cases hkj : j = k
    · subst hkj
      by_cases hlt : j < done.size
      · simp [hlt]
      · simp [Array.getElem?_eq_none (Nat.le_of_not_lt hlt)] at hk
    · rw [getD_set_ne false hkj]; exact hk
  intro m om hm hd e he hb
  obtain ⟨_, oj, hoj, hall⟩ := mem_ready.1 hj
  by_cases hmj : j = m
  · subst hmj
    rw [hoj] at hm
    obtain rfl := Option.some.inj hm
    exact up _ (hall e he hb)
  · rw [getD_set_ne false hmj] at hd
    exact up _ (h m om hm hd e he hb)
theorem reach_done {md : Region.Mode} {ops : Array Oper} {done : Array Bool} (hs : ShutB md ops done) {i : Nat} : ∀ n z, reachB md ops n z i = true → (∀ oz, ops[z]? = some oz → ∀ e ∈ oz.after, Region.binds md e = true → done.getD e.on false = true) → done.getD i false = true
  | 0, z, h, _ => by simp [reachB] at h
  | n + 1, z, h, hp => by
    unfold reachB at h
    split at h
    · rename_i o ho
      simp only [Array.any_eq_true', Bool.and_eq_true, Bool.or_eq_true, beq_iff_eq] at h
      obtain ⟨e, he, hb, h | h⟩ := h
      · rw [← h]; exact hp o ho e he hb
      · exact reach_done hs n e.on h (fun oz hoz e' he' hb' => hs e.on oz hoz (hp o ho e he hb) e' he' hb')
    · cases h
theorem not_ready {md : Region.Mode} {ops : Array Oper} {done : Array Bool} (hs : ShutB md ops done) {n z i : Nat} (h : reachB md ops n z i = true) (hi : i ∈ Region.ready md ops done) : z ∉ Region.ready md ops done := by
  intro hz
  obtain ⟨_, oz, hoz, hall⟩ := mem_ready.1 hz
  have h1 := reach_done hs n z h (fun o ho e he hb => by rw [hoz] at ho; obtain rfl := Option.some.inj ho; exact hall e he hb)
  have h0 := (mem_ready.1 hi).1
  by_cases hlt : i < done.size
  · simp [hlt] at h0 h1; rw [h0] at h1; cases h1
  · simp [Array.getElem?_eq_none (Nat.le_of_not_lt hlt)] at h1

theorem anyZ_first {ops : Array Oper} {i : Nat} {o : Oper} {v : Value} (hi : ops[i]? = some o) (hsel : ∀ (j : Nat) (o' : Oper) cs b, ops[j]? = some o' → o'.op ≠ .select cs b)
    (hQ : ∀ c a w, Q (.panic c) (a.put o.dst v) w → Q (.panic c) a w) {f : Nat} (hz : reachB md ops f z i = true) (hzi : i ≠ z) (n : Nat) :
    ∀ (done : Array Bool) (a : Act) (w : World), ShutB md ops done →
      (∀ j oj, ops[j]? = some oj → j ≠ i → done.getD j true = false → (∀ e ∈ oj.after, Region.binds md e = true → e.on ≠ i) → o.apart ops oj = true) →
      i ∈ Region.ready md ops done → YieldsIf P ops S o v a → S w →
      anyZ P md ops Q S z n (done.setIfInBounds i true) (a.put o.dst v) w → anyZ P md ops Q S z (n + 1) done a w := by
  have free : ∀ (done : Array Bool) (j : Nat), i ∈ Region.ready md ops done → j ∈ Region.ready md ops done → j ≠ i →
      ∃ oj, ops[j]? = some oj ∧ done.getD j true = false ∧ (∀ e ∈ oj.after, Region.binds md e = true → e.on ≠ i) := by
    intro done j hr hj _
    obtain ⟨hun, oj, hoj, hall⟩ := mem_ready.1 hj
    refine ⟨oj, hoj, hun, fun e he hb heq => ?_⟩
    have h1 := hall e he hb
    have h0 := (mem_ready.1 hr).1
    rw [heq] at h1
    by_cases hlt : i < done.size
    · simp [hlt] at h0 h1; rw [h0] at h1; cases h1
    · simp [Array.getElem?_eq_none (Nat.le_of_not_lt hlt)] at h1
  induction n with
  | zero =>
    intro done a w _ _ hr hy hS k
    refine ⟨fun h => by rw [h] at hr; simp at hr, fun j hj => ?_⟩
    by_cases hji : j = i
    · subst hji; exact hy.wpOp hi hS ⟨fun _ => hS, k⟩
    · have := ready_mono hj hji
      rw [k.1] at this
      simp at this
  | succ n ih =>
    intro done a w hsh hf hr hy hS k
    refine ⟨fun h => by rw [h] at hr; simp at hr, fun j hj => ?_⟩
    by_cases hji : j = i
    · subst hji; exact hy.wpOp hi hS ⟨fun _ => hS, k⟩
    · obtain ⟨oj, hoj, hun, hno⟩ := free done j hr hj hji
      have hjz : j ≠ z := fun e => not_ready hsh hz hr (e ▸ hj)
      have k1 := wpOp_putIf hoj (hf j oj hoj hji hun hno) (fun cs b => hsel i o cs b hi) (fun cs b => hsel j oj cs b hoj) hQ hy (k.2 j (ready_mono hj hji))
      refine wpOp_mono (fun a' w' k2 => ⟨k2.2.1, ih _ a' w' (hsh.set hj) ?_ (ready_mono hr (Ne.symm hji)) k2.1 (k2.2.1 hjz) (by rw [Array.setIfInBounds_comm _ _ hji]; exact k2.2.2)⟩) k1
      intro m om hm hmi hmu hmn
      refine hf m om hm hmi ?_ hmn
      by_cases hjm : j = m
      · subst hjm; exact hun
      · rwa [getD_set_ne true hjm] at hmu

theorem seqz_start {id : Nat} {a : Act} {w : World} (hm : P.follows .mixedOrders = true) (S : World → Prop) (z n : Nat) (is : List Nat) (hn : L.toArray.size = n) (hS : S w.drew)
    (h : S w.drew → Seq is L (anyZ P .any L.toArray (NoPanic Q) S z n (Array.replicate n false) a w.drew)) : (Code.region id L.toArray true).wp P Q a w :=
  wp_region_noPanic (wp_region_any hm (anyZ_any _ _ _ _ (by rw [hn]; exact h hS)))
theorem seqz_take {i : Nat} {is : List Nat} {l : List Oper} {oi : Oper} {v : Value} {fuel : Nat} {listed : Array Bool} {a : Act} {w : World} (hi : L.toArray[i]? = some oi)
    (hs : Region.noSelect L.toArray = true) (hf : Region.free md L.toArray listed i = true) (hr : (Region.ready md L.toArray listed).contains i = true) (hsh : shutB md L.toArray listed = true) (hz : reachB md L.toArray 40 z i = true) (hzi : i ≠ z)
    (hy : YieldsIf P L.toArray S oi v a) (hS : S w)
    (h : Seq is l (anyZ P md L.toArray (NoPanic Q) S z fuel (listed.setIfInBounds i true) (a.put oi.dst v) w)) : Seq (i :: is) (oi :: l) (anyZ P md L.toArray (NoPanic Q) S z (fuel + 1) listed a w) :=
  anyZ_first hi (Region.noSelect_spec hs) (fun _ _ _ h => h) hz hzi fuel listed a w (ShutB.of hsh) (Region.free_spec hi hf) (by simpa using hr) hy hS h
theorem anyZ_mono {S' : World → Prop} {ops : Array Oper} (h : ∀ x, S' x → S x) : ∀ (fuel : Nat) (listed : Array Bool) (a : Act) (w : World), anyZ P md ops Q S' z fuel listed a w → anyZ P md ops Q S z fuel listed a w
  | 0, _, _, _, k => k
  | fuel + 1, _, _, _, k => ⟨k.1, fun i hi => wpOp_mono (fun a' w' k' => ⟨fun hz => h _ (k'.1 hz), anyZ_mono h fuel _ a' w' k'.2⟩) (k.2 i hi)⟩
/-- A call that comes up alone. -/
theorem seqz_do {i : Nat} {is : List Nat} {l : List Oper} {oi : Oper} {fuel : Nat} {listed : Array Bool} {a : Act} {w : World} (hi : L.toArray[i]? = some oi) (hr : Region.ready md L.toArray listed = [i])
    (hw : Region.wanted oi (yielded L.toArray a.tmps) = true)
    (h : ∀ K : Act → World → Prop, Hid (∀ (S' : World → Prop) (a' : Act) (w' : World), (∀ x, S' x → S x) → S' w' → (S' w' → Seq is l (anyZ P md L.toArray (NoPanic Q) S' z fuel (listed.setIfInBounds i true) a' w')) → K a' w') → oi.wp P a w K (NoPanic Q)) :
    Seq (i :: is) (oi :: l) (anyZ P md L.toArray (NoPanic Q) S z (fuel + 1) listed a w) := by
  refine ⟨fun h0 => by rw [hr] at h0; simp at h0, fun j hj => ?_⟩
  rw [hr] at hj
  obtain rfl : j = i := by simpa using hj
  unfold wpOp
  simp only [hi, hw, if_true]
  exact .inl (h _ (fun S' a' w' h1 h2 h3 => ⟨fun _ => h1 _ h2, anyZ_mono h1 _ _ _ _ (h3 h2)⟩))
/-- The store, last of all. -/
theorem seqz_last {oi : Oper} {fuel : Nat} {listed : Array Bool} {a : Act} {w : World} (hi : L.toArray[z]? = some oi) (hr : Region.ready md L.toArray listed = [z])
    (hw : Region.wanted oi (yielded L.toArray a.tmps) = true) (hd : Region.ready md L.toArray (listed.setIfInBounds z true) = [])
    (h : oi.wp P a w (fun a' w' => Q .normal a' w') (NoPanic Q)) :
    Seq [z] [oi] (anyZ P md L.toArray (NoPanic Q) S z (fuel + 1) listed a w) := by
  refine ⟨fun h0 => by rw [hr] at h0; simp at h0, fun j hj => ?_⟩
  rw [hr] at hj
  obtain rfl : j = z := by simpa using hj
  unfold wpOp
  simp only [hi, hw, if_true]
  refine .inl (Oper.wp_mono (fun a' w' k => ⟨fun hne => absurd rfl hne, ?_⟩) h)
  cases fuel with
  | zero => exact ⟨hd, NoPanic.normal k⟩
  | succ m => exact ⟨fun _ => NoPanic.normal k, by rw [hd]; simp⟩
end
end Go.Proofs.YtljinghhalcnnaaDoor
namespace Go.Proofs.YtljinghhalcnnaaDoor
open Go.RowKit

theorem encB_set (l : List UInt8) (i : Nat) (b : UInt8) : (encB l).toArray.setIfInBounds i (.int .u8 (b.toNat : Int)) = (encB (l.set i b)).toArray := by
  rw [List.setIfInBounds_toArray]
  unfold encB
  rw [List.map_set]
/-- Bytes in a block. -/
def BB (w : World) (g : Nat) (T : TypeId) (l : List UInt8) : Prop := w.heap[g]? = some (.cells (encB l).toArray T (0, 0))
theorem BB.keeps {S : List Nat} {w w' : World} {g : Nat} {T : TypeId} {l : List UInt8} (h : BB w g T l) (hk : Keeps S w w') (hg : g ∉ S) : BB w' g T l := (hk.block g (lt_of_block h) hg).trans h
theorem BB.cell {w : World} {g : Nat} {T : TypeId} {l : List UInt8} (h : BB w g T l) (i : Nat) (hi : i < l.length) : w.cell? ⟨g, i, none⟩ = some (.int .u8 (l[i].toNat : Int)) := by
  rw [cell_of_row _ _ _ _ _ _ h, List.getElem?_toArray, List.getElem?_eq_getElem (by simpa using hi), encB_get l i hi]
theorem BB.set {w : World} {g : Nat} {T : TypeId} {l : List UInt8} (h : BB w g T l) (i : Nat) (b : UInt8) : BB (w.setCell ⟨g, i, none⟩ (.int .u8 (b.toNat : Int))) g T (l.set i b) := by
  unfold BB
  rw [heap_setCell_same w g i _ _ _ h, encB_set]

/-- A cell of one's own bytes, stored. -/
theorem OwnB.at0 {E : TypeId} {w : World} {A : Option Addr} {c : Nat} {l : List UInt8} (h : OwnB E w A c l) (hl : 0 < l.length) : ∃ g, A = some ⟨g, 0, none⟩ ∧ (∀ (i : Nat) (_ : i < l.length), w.cell? ⟨g, i, none⟩ = some (.int .u8 (l[i].toNat : Int))) ∧ ∀ i, w.frozen? ⟨g, i, none⟩ = false := by
  rcases h.2 with ⟨_, h0⟩ | ⟨g, cap, cur, hv, _, hh, _, _, _, ht⟩
  · omega
  · have hA : A = some ⟨g, 0, none⟩ := by injection hv
    refine ⟨g, hA, fun i hi => ?_, fun i => frozen_of_row w g i _ _ hh⟩
    obtain ⟨ad, e, hc⟩ := (OwnB.rd h).at_ hi
    rw [hA] at e
    obtain rfl := Option.some.inj e
    rw [add_new, Nat.zero_add] at hc
    exact hc
theorem OwnB.set {E : TypeId} {w : World} {g : Nat} {c : Nat} {l : List UInt8} (h : OwnB E w (some ⟨g, 0, none⟩) c l) (i : Nat) (b : UInt8) (_ : i < l.length) : OwnB E (w.setCell ⟨g, i, none⟩ (.int .u8 (b.toNat : Int))) (some ⟨g, 0, none⟩) c (l.set i b) := by
  obtain ⟨h1, h2⟩ := h
  have el : (l.set i b).length = l.length := List.length_set
  unfold OwnB
  rw [el]
  refine ⟨by simp, ?_⟩
  rcases h2 with ⟨e, _⟩ | ⟨g', cap, cur, hv, hb, hh, hn, hm, hs, ht⟩
  · cases e
  · obtain ⟨rfl⟩ : g = g' := by injection hv with e1; simpa using e1
    refine .inr ⟨g, cap, cur.setIfInBounds i (.int .u8 (b.toNat : Int)), hv, hb, heap_setCell_same w g i _ _ _ hh, hn, hm, by simpa using hs, ?_⟩
    rw [Array.toList_setIfInBounds, List.take_set, ht]
    unfold encB
    rw [List.map_set]
/-- One cell, stored. -/
theorem run_storeVar_cell {P : Program} (w : World) (b o : Nat) (ty : TypeId) (v old : Value) (hc : w.cell? ⟨b, o, none⟩ = some old) (hf : w.frozen? ⟨b, o, none⟩ = false) (hi : (P.info? ty).map (·.size) = some 1) (h1 : v.oneCell' = true) :
    (storeVar ty ⟨b, o, none⟩ v).run P w = .ok () (w.setCell ⟨b, o, none⟩ v) := by
  have := run_storeCells_cells (P := P) b o [v] 0 w (fun j hj => by
      obtain rfl : j = 0 := by simpa using hj
      simp only [Nat.add_zero]
      rw [hc]
      rfl) (fun j hj => by
      obtain rfl : j = 0 := by simpa using hj
      simp only [Nat.add_zero]
      exact hf)
    (fun x hx => by simp at hx; subst hx; exact h1)
  have hcs : v.cells = #[v] := by cases v <;> first | rfl | cases h1
  cases hq : P.info? ty with
  | none => simp [hq] at hi
  | some i =>
    have hs : i.size = 1 := by simpa [hq] using hi
    simp only [Nat.add_zero] at this
    simp [storeVar, sizeOf, typeInfo, hq, hcs, hs, this, World.setCells]
theorem wpList_store_cell {P : Program} {ops : Array Oper} {rest : List Oper} {o : Oper} {a : Act} {w : World} {Q : Exit → Act → World → Prop} (hgd : o.guard = none) (ty : TypeId) (x y : Operand) (ho : o.op = .store ty x y)
    (g i : Nat) (v old : Value) (hx : a.eval x = .pointer (some ⟨g, i, none⟩)) (hy : a.eval y = v) (h1 : v.oneCell' = true) (hc : w.cell? ⟨g, i, none⟩ = some old) (hf : w.frozen? ⟨g, i, none⟩ = false) (hi : (P.info? ty).map (·.size) = some 1)
    (h : wpList P ops Q rest (a.put o.dst undef) (w.setCell ⟨g, i, none⟩ v)) : wpList P ops Q (o :: rest) a w :=
  wpList_plain hgd fun _ hK => by
    unfold Oper.wp execOp
    simp only [ho, hx, hy, Instr.storeAt, Instr.sureAddr, Sem.run_bind, Sem.run_pure, Result.andThen_ok, run_storeVar_cell w g i ty v old hc hf hi h1]
    exact hK _ _ h
theorem wpList_store_byte {P : Program} {ops : Array Oper} {rest : List Oper} {o : Oper} {a : Act} {w : World} {Q : Exit → Act → World → Prop} (hgd : o.guard = none) (ty : TypeId) (x y : Operand) (ho : o.op = .store ty x y)
    (g i : Nat) (b : UInt8) (hx : a.eval x = .pointer (some ⟨g, i, none⟩)) (hy : a.eval y = .int .u8 (b.toNat : Int)) (T : TypeId) (l : List UInt8) (hB : BB w g T l) (hl : i < l.length) (hi : (P.info? ty).map (·.size) = some 1)
    (h : ∀ w', Hid (BB w' g T (l.set i b)) → Keeps [g] w w' → wpList P ops Q rest (a.put o.dst undef) w') : wpList P ops Q (o :: rest) a w :=
  wpList_store_cell hgd ty x y ho g i _ _ hx hy rfl (hB.cell i hl) (frozen_of_row w g i _ _ hB) hi (h _ (hB.set i b) ((Keeps.refl [g] w).setCell (p := ⟨g, i, none⟩) (.inl (by simp)) _))
end Go.Proofs.YtljinghhalcnnaaDoor
namespace Go.Proofs.YtljinghhalcnnaaDoor
open Go.RowKit

theorem own_some {w : World} {E : TypeId} {size n c : Nat} {A : Option Addr} {xs : List Value} (h : w.ownsRow 0 E size (.slice A n c) n xs) (hn : 0 < n) : ∃ g, A = some ⟨g, 0, none⟩ := by
  rcases h.2 with ⟨_, h0⟩ | ⟨g, cap, cur, hv, _⟩
  · omega
  · injection hv with e1 _ _
    exact ⟨g, e1⟩
/-- The parts' place, and they. -/
def OpsP (base target : List UInt8) (w : World) (r : Ending) (w' : World) : Prop :=
  ∃ A c ts, r = .returned (.slice A ts.length c) ∧ OpI w w' A c ts ∧ ts.map Pt.p = opsE base target ∧ ts.length ≤ 64 ∧ ∀ t ∈ ts, t.p.b.length ≤ 64
/-- Parts so far. -/
structure OsI (w wr : World) (g h : Nat) (base target : List UInt8) (a : Nat) (A : Option Addr) (c : Nat) (ts : List Pt) : Prop where
  op : OpI w wr A c ts
  bx : Bx w wr g h base target
  le : a ≤ 64 ∧ ts.length ≤ a ∧ ∀ t ∈ ts, t.p.b.length ≤ a
  run : ∃ f, 64 - a ≤ f ∧ opsF base target f a (ts.map Pt.p) = opsE base target
  ap : (∀ x, A = some x → x.block ≠ g ∧ x.block ≠ h) ∧ ∀ t ∈ ts, ∀ x, t.A = some x → x.block ≠ g ∧ x.block ≠ h
theorem OsI.keeps0 {w wr wr' : World} {g h : Nat} {base target : List UInt8} {a : Nat} {A : Option Addr} {c : Nat} {ts : List Pt} (x : OsI w wr g h base target a A c ts) (hk : Keeps [] wr wr') : OsI w wr' g h base target a A c ts :=
  ⟨x.op.keeps0 hk, x.bx.keeps0 hk, x.le, x.run, x.ap⟩
theorem Bx.keeps {S : List Nat} {w z z' : World} {g h : Nat} {base target : List UInt8} (x : Bx w z g h base target) (hk : Keeps S z z') (hg : g ∉ S) (hh : h ∉ S) (hkp : Keeps [] w z') : Bx w z' g h base target :=
  ⟨(hk.block g (lt_of_block x.b) hg).trans x.b, (hk.block h (lt_of_block x.t) hh).trans x.t, hkp⟩
/-- A part is added. -/
theorem OsI.add {w wr wa w4 : World} {g h : Nat} {base target : List UInt8} {a : Nat} {A A4 : Option Addr} {c c4 n : Nat} {ts : List Pt} {t : Pt} (x : OsI w wr g h base target a A c ts) (hA : t.A = none) (hc : t.c = 0) (hb : t.p.b = []) (hka : Keeps [] wr wa) (hn : n = ts.length)
    (ho : w4.ownsRow 0 50 4 (.slice A4 (n + 1) c4) (n + 1) (encPt ts ++ t.cells)) (hk : Keeps (blk A) wa w4) (hf : ∀ a, A4 = some a → a.block ∈ blk A ∨ wa.heap.size ≤ a.block) :
    OpI w w4 A4 c4 (ts ++ [t]) ∧ Bx w w4 g h base target ∧ (∀ x, A4 = some x → x.block ≠ g ∧ x.block ≠ h) ∧ ∀ s ∈ ts ++ [t], ∀ x, s.A = some x → x.block ≠ g ∧ x.block ≠ h := by
  have h1 := x.op.add hA hc hb hka hn ho hk hf
  have s1 := hka.size
  have lg := lt_of_block x.bx.b
  have lh := lt_of_block x.bx.t
  have k14 : Keeps (blk A) wr w4 := (hka.mono (by simp)).trans hk (fun t ht => .inl ht)
  refine ⟨h1, x.bx.keeps k14 (fun hm => ?_) (fun hm => ?_) h1.kp, fun y hy => ?_, fun s hs y hy => ?_⟩
  · obtain ⟨b, e1, e2⟩ := mem_blk.1 hm
    exact (x.ap.1 b e1).1 e2
  · obtain ⟨b, e1, e2⟩ := mem_blk.1 hm
    exact (x.ap.1 b e1).2 e2
  · rcases hf y hy with h2 | h2
    · obtain ⟨b, e1, e2⟩ := mem_blk.1 h2
      rw [← e2]; exact x.ap.1 b e1
    · exact ⟨by omega, by omega⟩
  · rcases List.mem_append.1 hs with h2 | h2
    · exact x.ap.2 s h2 y hy
    · obtain rfl := List.mem_singleton.1 h2
      rw [hA] at hy; cases hy
/-- What the walk knows ahead of a byte more. -/
structure OgI (w wr : World) (g h : Nat) (base target : List UInt8) (a gA c : Nat) (l : List Pa) (ts : List Pt) (t : Pt) : Prop where
  op : OpI w wr (some ⟨gA, 0, none⟩) c (ts ++ [t])
  bx : Bx w wr g h base target
  ap : (gA ≠ g ∧ gA ≠ h) ∧ ∀ s ∈ ts ++ [t], ∀ x, s.A = some x → x.block ≠ g ∧ x.block ≠ h
  le : (ts ++ [t]).length ≤ a + 1 ∧ (∀ s ∈ ts, s.p.b.length ≤ a) ∧ t.p.b.length ≤ a
  pl : ∀ x, tell l x = ts.map Pt.p ++ [⟨t.p.cp, t.p.fr, t.p.ln, t.p.b ++ [x]⟩]
theorem OgI.cell {w wr : World} {g h : Nat} {base target : List UInt8} {a gA c : Nat} {l : List Pa} {ts : List Pt} {t : Pt} (x : OgI w wr g h base target a gA c l ts t) : wr.cell? ⟨gA, ts.length * 4 + 3, none⟩ = some (.slice t.A t.p.b.length t.c) ∧ wr.cell? ⟨gA, ts.length * 4, none⟩ = some (.bool t.p.cp) ∧ wr.frozen? ⟨gA, ts.length * 4 + 3, none⟩ = false := by
  have ho := x.op.own
  refine ⟨?_, ?_, World.ownsRow.frozenAt ho _⟩
  · rw [World.ownsRow.cellAt ho _ (by rw [List.length_append, List.length_singleton]; omega), encPt_append, List.getElem?_append_right (by rw [encPt_len]; omega), encPt_len, show ts.length * 4 + 3 - ts.length * 4 = 3 from by omega]
    rfl
  · rw [World.ownsRow.cellAt ho _ (by rw [List.length_append]; simp), encPt_append, List.getElem?_append_right (by rw [encPt_len]; omega), encPt_len, show ts.length * 4 - ts.length * 4 = 0 from by omega]
    rfl
theorem OgI.grow {w wr wa w4 w5 : World} {g h : Nat} {base target : List UInt8} {a gA c : Nat} {l : List Pa} {ts : List Pt} {t : Pt} {A2 : Option Addr} {c2 : Nat} {b' : List UInt8} {x : UInt8} (o : OgI w wr g h base target a gA c l ts t) (hka : Keeps [] wr wa) (hb : b' = t.p.b ++ [x])
    (ho : OwnB 5 w4 A2 c2 b') (hk : Keeps (blk t.A) wa w4) (hf : ∀ a, A2 = some a → a.block ∈ blk t.A ∨ wa.heap.size ≤ a.block) (h5 : w5 = w4.setCell ⟨gA, ts.length * 4 + 3, none⟩ (.slice A2 b'.length c2))
    (ha : a < 64) (hx : x = target.getD a 0) (hno : ¬ 4 ≤ (mat base target a).2) (hrun : ∃ f, 64 - a ≤ f ∧ opsF base target f a l = opsE base target) : OsI w w5 g h base target (a + 1) (some ⟨gA, 0, none⟩) c (ts ++ [⟨⟨t.p.cp, t.p.fr, t.p.ln, b'⟩, A2, c2⟩]) := by
  have h1 := o.op.grow hka ho hk hf h5
  have s1 := hka.size
  have lg := lt_of_block o.bx.b
  have lh := lt_of_block o.bx.t
  have k14 : Keeps (blk t.A) wr w4 := (hka.mono (by simp)).trans hk (fun t ht => .inl ht)
  have k45 : Keeps [gA] w4 w5 := by rw [h5]; exact (Keeps.refl [gA] w4).setCell (p := ⟨gA, ts.length * 4 + 3, none⟩) (.inl (by simp)) _
  have k15 : Keeps (blk t.A ++ [gA]) wr w5 := (k14.mono (fun t ht => .inl (List.mem_append_left _ ht))).trans k45 (fun y hy => .inl (by simp at hy; simp [hy]))
  have hn : ∀ q, (∀ y, t.A = some y → y.block ≠ q) → gA ≠ q → q ∉ blk t.A ++ [gA] := fun q h2 h3 hm => by
    rcases List.mem_append.1 hm with h4 | h4
    · obtain ⟨b, e1, e2⟩ := mem_blk.1 h4
      exact h2 b e1 e2
    · exact h3 (List.mem_singleton.1 h4).symm
  refine ⟨h1, o.bx.keeps k15 (hn g (fun y hy => (o.ap.2 t (by simp) y hy).1) o.ap.1.1) (hn h (fun y hy => (o.ap.2 t (by simp) y hy).2) o.ap.1.2) h1.kp, ⟨by omega, ?_, fun s hs => ?_⟩, ?_, ⟨fun y hy => by cases hy; exact o.ap.1, fun s hs y hy => ?_⟩⟩
  · have := o.le.1
    rw [List.length_append] at this ⊢
    exact this
  · rcases List.mem_append.1 hs with h2 | h2
    · have := o.le.2.1 s h2; omega
    · obtain rfl := List.mem_singleton.1 h2
      show b'.length ≤ a + 1
      rw [hb, List.length_append]
      have := o.le.2.2
      simp; omega
  · obtain ⟨f, hf1, hf2⟩ := hrun
    cases f with
    | zero => omega
    | succ f =>
      refine ⟨f, by omega, ?_⟩
      unfold opsF at hf2
      rw [if_neg (by omega), if_neg hno, ← hx, o.pl x] at hf2
      rw [← hf2, List.map_append, hb]
      rfl
  · rcases List.mem_append.1 hs with h2 | h2
    · exact o.ap.2 s (List.mem_append_left _ h2) y hy
    · obtain rfl := List.mem_singleton.1 h2
      rcases hf y hy with h3 | h3
      · obtain ⟨b, e1, e2⟩ := mem_blk.1 h3
        have := o.ap.2 t (by simp) b e1
        rw [← e2]; exact this
      · exact ⟨by omega, by omega⟩
end Go.Proofs.YtljinghhalcnnaaDoor
