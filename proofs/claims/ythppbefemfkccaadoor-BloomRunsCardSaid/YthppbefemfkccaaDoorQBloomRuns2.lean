/- Arrays of bytes by value: when they are equal, and as the model compares them. No program is named here. A region that draws its order, walked in the order of its text: what only reads is taken first; a call comes up alone, and behind it more may be known of the world. No program is named here. Parts of slices: the operation x[l:h:m], at any element, and what such a part reads as. No program is named here. Bytes in a block, and the store of one cell: laws whose world behind is open but for what is known of it. No program is named here. 'append(xs, s...)' of a text onto bytes of one's own. No program is named here. DERIVED: THE SHELF's CONTRACTS AT THIS DUMP, IN PLAIN WORDS (tools/lay-plain.mjs out of 'TrydShelf.lean', which tools/lay-shelf.mjs wrote): THE SAME DECLARATIONS UNDER THE SAME NAMES: 'import', 'namespace', 'open', 'def', 'theorem' AND NOTHING ELSE: no command of the shelf's: FOR A HAND-IN. Each laying: the table of numbers ('.._ren') and one theorem, a field a fact of the dump's own or the kernel's comparison; each contract: ONE APPLICATION. -/
import Derived.Test.YthppbefemfkccaaDoorQBloomRuns1
import Derived.ChangeKeysEq
import Derived.Deep.RegionHeld3
import Derived.Deep.MidRow
import Derived.Lib.AppendStr
import Derived.Shelf.Small.Bits
import Derived.Shelf.Strconv.Itoa0
import Derived.Test.YthppbefemfkccaaDoorProg
namespace Go.Proofs.YthppbefemfkccaaDoor
open Go.RowKit

section
variable {P : Program} (w : World)
theorem run_part_one {e : TypeId} {d : TypeDesc} (he : P.underlying e = some d) (hd : (match d with | .struct _ => true | .array _ _ => true | _ => false) = false) (xs : Array Value) (i : Nat) (v : Value) (h : xs[i]? = some v) :
    (part e xs i).run P w = .ok v w := by
  unfold part isAgg
  simp only [Sem.run_bind, run_underlying he, Result.andThen_ok, h]
  cases d <;> simp_all

theorem run_eqItems_u8 {e : TypeId} (he : P.underlying e = some (.int .u8)) (hc : P.cellsOf e = 1) (d : Nat) (a b : List UInt8) (hab : a.length = b.length) :
    ∀ m k, k + m = a.length → (Op.eqItems (d + 1) e (P.cellsOf e) (encB a).toArray (encB b).toArray (List.range' k m)).run P w = .ok (a.drop k == b.drop k) w := by
  intro m
  induction m with
  | zero =>
    intro k hk
    rw [List.drop_of_length_le (by omega), List.drop_of_length_le (by omega)]
    simp [Op.eqItems]
  | succ m ih =>
    intro k hk
    have h1 : (encB a).toArray[k * P.cellsOf e]? = some (.int .u8 (a[k].toNat : Int)) := by simp [hc, encB, List.getElem?_eq_getElem (show k < a.length by omega)]
    have h2 : (encB b).toArray[k * P.cellsOf e]? = some (.int .u8 (b[k].toNat : Int)) := by simp [hc, encB, List.getElem?_eq_getElem (show k < b.length by omega)]
    rw [List.range'_succ]
    simp only [Op.eqItems, Sem.run_bind, run_part_one w he rfl _ _ _ h1, run_part_one w he rfl _ _ _ h2, Result.andThen_ok]
    simp only [Op.equalIn, Sem.run_bind, run_underlying he, Result.andThen_ok, if_true, Sem.run_pure]
    rw [List.drop_eq_getElem_cons (show k < a.length by omega), List.drop_eq_getElem_cons (show k < b.length by omega)]
    by_cases h : a[k] = b[k]
    · have e1 : ((a[k].toNat : Int) == (b[k].toNat : Int)) = true := by simp [h]
      rw [e1]
      simp only [Bool.not_true, Bool.false_eq_true, if_false, ih (k + 1) (by omega)]
      rw [List.cons_beq_cons, show (a[k] == b[k]) = true by simpa using h, Bool.true_and]
    · have e1 : ((a[k].toNat : Int) == (b[k].toNat : Int)) = false := by
        rw [beq_eq_false_iff_ne]
        intro hh
        exact h (UInt8.toNat_inj.1 (by omega))
      rw [e1]
      simp only [Bool.not_false, if_true, Sem.run_pure]
      rw [List.cons_beq_cons, show (a[k] == b[k]) = false by simpa using h, Bool.false_and]

theorem run_equalIn_arrB {t e : TypeId} {n : Nat} (hu : P.underlying t = some (.array n e)) (he : P.underlying e = some (.int .u8)) (hsome : (P.info? e).isSome = true) (hc : P.cellsOf e = 1)
    (a b : List UInt8) (ha : a.length = n) (hb : b.length = n) : (Op.equalIn 10000 t (.agg (encB a).toArray) (.agg (encB b).toArray)).run P w = .ok (a == b) w := by
  obtain ⟨i, hi⟩ := Option.isSome_iff_exists.1 hsome
  have h := run_eqItems_u8 (P := P) w he hc 9998 a b (by omega) n 0 (by omega)
  rw [List.drop_zero, List.drop_zero, ← List.range_eq_range'] at h
  rw [run_equalIn_array w 9999 (encB a).toArray (encB b).toArray hu hi]
  exact h
theorem run_eql_arrB {t e : TypeId} {n : Nat} (hu : P.underlying t = some (.array n e)) (he : P.underlying e = some (.int .u8)) (hsome : (P.info? e).isSome = true) (hc : P.cellsOf e = 1)
    (a b : List UInt8) (ha : a.length = n) (hb : b.length = n) : (binOp .eql t (.agg (encB a).toArray) (.agg (encB b).toArray)).run P w = .ok (.bool (a == b)) w := by
  obtain ⟨i, hi⟩ := Option.isSome_iff_exists.1 hsome
  have h := run_eqItems_u8 (P := P) w he hc 9998 a b (by omega) n 0 (by omega)
  rw [List.drop_zero, List.drop_zero, ← List.range_eq_range'] at h
  simp only [binOp]
  simp [Op.equal, Op.maxDepth, run_equalIn_array w 9999 (encB a).toArray (encB b).toArray hu hi, h]
theorem run_neq_arrB {t e : TypeId} {n : Nat} (hu : P.underlying t = some (.array n e)) (he : P.underlying e = some (.int .u8)) (hsome : (P.info? e).isSome = true) (hc : P.cellsOf e = 1)
    (a b : List UInt8) (ha : a.length = n) (hb : b.length = n) : (binOp .neq t (.agg (encB a).toArray) (.agg (encB b).toArray)).run P w = .ok (.bool (!(a == b))) w := by
  obtain ⟨i, hi⟩ := Option.isSome_iff_exists.1 hsome
  have h := run_eqItems_u8 (P := P) w he hc 9998 a b (by omega) n 0 (by omega)
  rw [List.drop_zero, List.drop_zero, ← List.range_eq_range'] at h
  simp only [binOp]
  simp [Op.equal, Op.maxDepth, run_equalIn_array w 9999 (encB a).toArray (encB b).toArray hu hi, h]
theorem run_eqGuard_arr {t : TypeId} (h : P.eqGuardType P.depth t = false) (op : BinOp) (x y : Operand) (a b : Array Value) : (eqGuard op t x y (.agg a) (.agg b)).run P w = .ok () w := by
  cases op <;> simp [eqGuard, h]
/-- A slice as an array's pointer. -/
theorem run_arrayAt {t e : TypeId} {n : Nat} (hu : P.underlying t = some (.array n e)) (a : Addr) (l c : Nat) (h : n ≤ l) : (Instr.arrayAt t (.slice (some a) l c)).run P w = .ok (.pointer (some a)) w := by
  unfold Instr.arrayAt
  simp [run_underlying hu]
  intro hlt
  omega
end
end Go.Proofs.YthppbefemfkccaaDoor
namespace Go.Proofs.YthppbefemfkccaaDoor
open Go.RowKit

/-- The numbers of the operations that are left, and they themselves, ride beside the statement, in the order in which they are to come. -/
def Seq (_is : List Nat) (_l : List Oper) (p : Prop) : Prop := p

section
variable {P : Program} {L : List Oper} {Q : Exit → Act → World → Prop} {md : Region.Mode} {S S' : World → Prop}
theorem wpAnyH_mono {ops : Array Oper} (h : ∀ x, S' x → S x) : ∀ (fuel : Nat) (listed : Array Bool) (a : Act) (w : World), wpAnyH P md ops Q S' fuel listed a w → wpAnyH P md ops Q S fuel listed a w
  | 0, _, _, _, k => k
  | fuel + 1, _, _, _, k => ⟨k.1, fun i hi => wpOp_mono (fun a' w' k' => ⟨h _ k'.1, wpAnyH_mono h fuel _ a' w' k'.2⟩) (k.2 i hi)⟩

theorem seq_start {id : Nat} {a : Act} {w : World} (hm : P.follows .mixedOrders = true) (S : World → Prop) (n : Nat) (is : List Nat) (hn : L.toArray.size = n) (hS : S w.drew)
    (h : S w.drew → Seq is L (wpAnyH P .any L.toArray (NoPanic Q) S n (Array.replicate n false) a w.drew)) : (Code.region id L.toArray true).wp P Q a w :=
  wp_region_noPanic (wp_region_held hm (by rw [hn]; exact h hS))

theorem seq_later {i : Nat} {is : List Nat} {o : Oper} {l : List Oper} {p : Prop} (h : Seq (is ++ [i]) (l ++ [o]) p) : Seq (i :: is) (o :: l) p := h

theorem seq_take {i : Nat} {is : List Nat} {l : List Oper} {oi : Oper} {v : Value} {fuel : Nat} {listed : Array Bool} {a : Act} {w : World} (hi : L.toArray[i]? = some oi)
    (hs : Region.noSelect L.toArray = true) (hf : Region.free md L.toArray listed i = true) (hr : (Region.ready md L.toArray listed).contains i = true)
    (hy : YieldsIf P L.toArray S oi v a) (hS : S w)
    (h : Seq is l (wpAnyH P md L.toArray (NoPanic Q) S fuel (listed.setIfInBounds i true) (a.put oi.dst v) w)) : Seq (i :: is) (oi :: l) (wpAnyH P md L.toArray (NoPanic Q) S (fuel + 1) listed a w) :=
  wpAnyH_take hi hs hf hr (fun _ _ _ h => h) hy hS h

theorem seq_do {i : Nat} {is : List Nat} {l : List Oper} {oi : Oper} {fuel : Nat} {listed : Array Bool} {a : Act} {w : World} (hi : L.toArray[i]? = some oi) (hr : Region.ready md L.toArray listed = [i])
    (hw : Region.wanted oi (yielded L.toArray a.tmps) = true)
    (h : ∀ K : Act → World → Prop, Hid (∀ (S' : World → Prop) (a' : Act) (w' : World), (∀ x, S' x → S x) → S' w' → (S' w' → Seq is l (wpAnyH P md L.toArray (NoPanic Q) S' fuel (listed.setIfInBounds i true) a' w')) → K a' w') → oi.wp P a w K (NoPanic Q)) :
    Seq (i :: is) (oi :: l) (wpAnyH P md L.toArray (NoPanic Q) S (fuel + 1) listed a w) := by
  refine wpAnyH_all hr (by simp) (fun j hj => ?_)
  obtain rfl : j = i := by simpa using hj
  unfold wpOp
  simp only [hi, hw, if_true]
  exact .inl (h _ (fun S' a' w' h1 h2 h3 => ⟨h1 _ h2, wpAnyH_mono h1 _ _ _ _ (h3 h2)⟩))

theorem seq_done {listed : Array Bool} {a : Act} {w : World} {fuel : Nat} (hr : Region.ready md L.toArray listed = []) (h : Q .normal a w) : Seq [] [] (wpAnyH P md L.toArray (NoPanic Q) S fuel listed a w) :=
  wpAnyH_done hr (NoPanic.normal h) fuel
end

/-- 'append' at bytes, at an operation of its own. -/
theorem op_appendB {P : Program} {w : World} {o : Oper} {a : Act} {K : Act → World → Prop} {Q : Exit → Act → World → Prop} (s x : Operand) (t E : TypeId)
    (ho : o.op = .call { callee := .builtin .append, args := #[s, x], argTypes := #[t, t] }) (ht : P.underlying t = some (.slice E))
    (hinfo : (P.info? E).map (fun i => (i.zero, i.size, i.bytes)) = some (some (.int .u8 0), 1, 1))
    (A : Option Addr) (cv : Nat) (l : List UInt8) (hs : a.eval s = .slice A l.length cv) (hown : OwnB E w A cv l)
    (A2 : Option Addr) (c : Nat) (l2 : List UInt8) (hx : a.eval x = .slice A2 l2.length c) (hr : RdB w A2 l2) (hb : l.length + l2.length ≤ 140737488355328)
    (h : ∀ A' c' w' l', Hid (l' = l ++ l2) → OwnB E w' A' c' l' → Keeps (blk A) w w' → (∀ a, A' = some a → a.block ∈ blk A ∨ w.heap.size ≤ a.block) → K (a.put o.dst (.slice A' l'.length c')) w') :
    o.wp P a w K Q := by
  obtain ⟨A', c', w', hrun, h2, h3, h4⟩ := run_append_rd (P := P) w t o.type E (.int .u8 0) 1 1 ht hinfo rfl (by decide) A l.length cv (encB l) hown A2 l2.length c (encB l2) hr (encB_one l2) (by unfold maxLen; omega) (by omega)
  have hl : l.length + l2.length = (l ++ l2).length := by simp
  rw [hl] at h2 hrun
  rw [← encB_append] at h2
  unfold Oper.wp execOp
  simp only [ho, resolve, invoke, builtin, Sem.run_bind, Sem.run_pure, Result.andThen_ok, List.map_toArray, List.map_cons, List.map_nil, hs, hx, hrun]
  exact h A' c' w' (l ++ l2) rfl h2 h3 h4


theorem yieldsIf_eql_arrB {P : Program} {ops : Array Oper} {S : World → Prop} {op : Oper} {a : Act} (hw : Region.wanted op (yielded ops a.tmps) = true) (t e : TypeId) (n : Nat) (x y : Operand) (ho : op.op = .binOp .eql t x y t)
    (hu : P.underlying t = some (.array n e)) (he : P.underlying e = some (.int .u8)) (hsome : (P.info? e).isSome = true) (hc : P.cellsOf e = 1) (hg : P.eqGuardType P.depth t = false)
    (p q : List UInt8) (hx : a.eval x = .agg (encB p).toArray) (hy : a.eval y = .agg (encB q).toArray) (hp : p.length = n) (hq : q.length = n) : YieldsIf P ops S op (.bool (p == q)) a :=
  .inl ⟨hw, fun w _ => by
    have h1 := run_eql_arrB (P := P) w hu he hsome hc p q hp hq
    have h2 := run_eqGuard_arr (P := P) w hg .eql x y (encB p).toArray (encB q).toArray
    unfold execOp
    simp only [ho, hx, hy, Sem.run_bind, h1, h2, Result.andThen_ok, Sem.run_pure]⟩

/-! ## Bytes as a string -/
def strB (l : List UInt8) : ByteArray := ⟨l.toArray⟩
theorem strB_inj {a b : List UInt8} (h : strB a = strB b) : a = b := by
  have h1 := congrArg (fun x => x.data.toList) h
  simpa [strB] using h1
theorem strB_toList (l : List UInt8) : (strB l).toList = l := by rw [ByteArray.toList_eq]; rfl
theorem strB_beq (a b : List UInt8) : ((strB a).toList == (strB b).toList) = (a == b) := by rw [strB_toList, strB_toList]
theorem strB_beq_true {a b : List UInt8} (h : a = b) : ((strB a).toList == (strB b).toList) = true := by rw [h]; simp
theorem run_conv_str {P : Program} (w : World) {src dst e : TypeId} (hs : P.underlying src = some (.slice e)) (he : P.underlying e = some (.int .u8)) (hd : P.underlying dst = some .string)
    {A : Option Addr} {l : List UInt8} (h : RdB w A l) (c : Nat) : (convert src dst (.slice A l.length c)).run P w = .ok (.string (strB l)) w := by
  rcases Nat.eq_zero_or_pos l.length with h0 | h0
  · have e0 := List.eq_nil_of_length_eq_zero h0
    subst e0
    rcases A with _ | ad
    · exact run_convert_bytes_nil w src e hs he 0 c dst hd
    · rw [List.length_nil, run_convert_bytes_string w src dst e (some ad) 0 c hs he hd]
      exact run_bytesToString (P := P) w ad 0 c [] (by simp [loadCells, loadCellsFrom])
  · obtain ⟨g, o, rfl, hc⟩ := h.form h0
    have := run_convert_bytes_arg (P := P) w src e hs he g o l.length c (l.map fun c => (c.toNat : Int)) (by simp) (fun i hi => by rw [hc i hi]; simp [List.getD_eq_getElem?_getD, List.getElem?_eq_getElem hi]) dst hd
    rw [this]
    congr 2
    simp [strOfNums, strB, Function.comp_def]
/-- A reading of old bytes as a string, in every world that keeps what there was. -/
theorem conv_keeps {P : Program} {w : World} {src dst e : TypeId} (hs : P.underlying src = some (.slice e)) (he : P.underlying e = some (.int .u8)) (hd : P.underlying dst = some .string)
    {A : Option Addr} {l : List UInt8} (h : RdB w A l) (c : Nat) (w' : World) (hk : Keeps [] w w') : (convert src dst (.slice A l.length c)).run P w' = .ok (.string (strB l)) w' :=
  run_conv_str w' hs he hd (h.keeps0 hk) c
end Go.Proofs.YthppbefemfkccaaDoor
namespace Go.Proofs.YthppbefemfkccaaDoor
open Go.RowKit

/-- Where a part begins: m is where its room ends. -/
def secA (A : Option Addr) (l m size : Nat) : Option Addr := if m = l then A else A.map (·.add (l * size))
theorem secA_block {A : Option Addr} {l m size : Nat} {a : Addr} (h : secA A l m size = some a) : ∃ b, A = some b ∧ a.block = b.block := by
  unfold secA at h
  split at h
  · exact ⟨a, h, rfl⟩
  · cases A with
    | none => cases h
    | some b => simp at h; exact ⟨b, rfl, by rw [← h, add_block]⟩
theorem secA_zero (A : Option Addr) (m size : Nat) : secA A 0 m size = A := by
  unfold secA
  split
  · rfl
  · cases A <;> simp [Addr.add]
theorem secA_none (l m size : Nat) : secA none l m size = none := by unfold secA; split <;> rfl
theorem Rd.sec {w : World} {A : Option Addr} {n size : Nat} {xs : List Value} (h : Rd w A n size xs) (l k m : Nat) (hk : l + k ≤ n) (hm : l + k ≤ m) : Rd w (secA A l m size) k size ((xs.drop (l * size)).take (k * size)) :=
  h.part l k hk (fun h0 ad e => by unfold secA; rw [if_neg (by omega), e]; rfl)
theorem RdB.sec {w : World} {A : Option Addr} {xs : List UInt8} (h : RdB w A xs) (l k m : Nat) (hk : l + k ≤ xs.length) (hm : l + k ≤ m) : RdB w (secA A l m 1) ((xs.drop l).take k) :=
  h.part l k hk (fun h0 ad e => by unfold secA; rw [if_neg (by omega), e]; simp)
theorem RdB.tail {w : World} {A : Option Addr} {xs : List UInt8} (h : RdB w A xs) (l m : Nat) (hk : l ≤ xs.length) (hm : xs.length ≤ m) : RdB w (secA A l m 1) (xs.drop l) := by
  have := h.sec l (xs.length - l) m (by omega) (by omega)
  rwa [List.take_of_length_le (by simp)] at this
theorem RdB.head {w : World} {A : Option Addr} {xs : List UInt8} (h : RdB w A xs) (k : Nat) (hk : k ≤ xs.length) : RdB w A (xs.take k) := by
  have := h.sec 0 k k (by omega) (by omega)
  rwa [secA_zero, List.drop_zero] at this

section
variable {P : Program} {w : World} {ops : Array Oper} {rest : List Oper} {o : Oper} {a : Act} {Q : Exit → Act → World → Prop}
theorem run_sliceBound (i : Int) (k : IntKind) (y : Nat) (code : BoundsCode) (w : World) (h0 : 0 ≤ i) (h1 : i ≤ y) : (Instr.sliceBound (.int k i) y code).run P w = .ok i.toNat w := by
  unfold Instr.sliceBound
  simp [asIntOf, h0, h1]
/-- A bound, as it stands in the text: none, or a number. -/
def Bnd (a : Act) (x : Option Operand) (d : Nat) (n : Nat) : Prop := (x = none ∧ n = d) ∨ ∃ y k, x = some y ∧ a.eval y = .int k (n : Int)
theorem Bnd.no {a : Act} {d : Nat} : Bnd a none d d := .inl ⟨rfl, rfl⟩
theorem Bnd.at_ {a : Act} {y : Operand} {d n : Nat} {k : IntKind} (h : a.eval y = .int k (n : Int)) : Bnd a (some y) d n := .inr ⟨y, k, rfl, h⟩
theorem run_slice_sec {t e : TypeId} {size : Nat} (ht : P.underlying t = some (.slice e)) (hi : (P.info? e).map (·.size) = some size) (lo hi' mx : Option Operand) (A : Option Addr) (len cap l h m : Nat)
    (hl : Bnd a lo 0 l) (hh : Bnd a hi' len h) (hm : Bnd a mx cap m) (h1 : l ≤ h) (h2 : h ≤ m) (h3 : m ≤ cap) (h4 : hi' = none → mx = none) :
    (Instr.slice t (.slice A len cap) (lo.map a.eval) (hi'.map a.eval) (mx.map a.eval)).run P w = .ok (.slice (secA A l m size) (h - l) (m - l)) w := by
  cases hq : P.info? e with
  | none => rw [hq] at hi; cases hi
  | some i =>
    have hs : i.size = size := by rw [hq] at hi; simpa using hi
    have bl : ∀ k code, (Instr.sliceBound (.int k (l : Int)) h code).run P w = .ok l w := fun k code => by simpa using run_sliceBound (P := P) (l : Int) k h code w (by omega) (by omega)
    have bh : ∀ k code, (Instr.sliceBound (.int k (h : Int)) m code).run P w = .ok h w := fun k code => by simpa using run_sliceBound (P := P) (h : Int) k m code w (by omega) (by omega)
    have bm : ∀ k code, (Instr.sliceBound (.int k (m : Int)) cap code).run P w = .ok m w := fun k code => by simpa using run_sliceBound (P := P) (m : Int) k cap code w (by omega) (by omega)
    unfold Instr.slice Instr.sliceBounds
    simp only [Sem.run_bind, run_underlying ht, Result.andThen_ok]
    rcases hm with ⟨rfl, rfl⟩ | ⟨y3, k3, rfl, e3⟩
    · rcases hh with ⟨rfl, rfl⟩ | ⟨y2, k2, rfl, e2⟩
      · rcases hl with ⟨rfl, rfl⟩ | ⟨y1, k1, rfl, e1⟩
        · simp [sizeOf, typeInfo, hq, hs, secA]
        · simp [sizeOf, typeInfo, hq, hs, secA, e1, Sem.run_bind, bl]
      · rcases hl with ⟨rfl, rfl⟩ | ⟨y1, k1, rfl, e1⟩
        · simp [sizeOf, typeInfo, hq, hs, secA, e2, Sem.run_bind, bh]
        · simp [sizeOf, typeInfo, hq, hs, secA, e1, e2, Sem.run_bind, bh, bl]
    · rcases hh with ⟨rfl, rfl⟩ | ⟨y2, k2, rfl, e2⟩
      · exact absurd (h4 rfl) (by simp)
      · rcases hl with ⟨rfl, rfl⟩ | ⟨y1, k1, rfl, e1⟩
        · simp [sizeOf, typeInfo, hq, hs, secA, e2, e3, Sem.run_bind, bm, bh]
        · simp [sizeOf, typeInfo, hq, hs, secA, e1, e2, e3, Sem.run_bind, bm, bh, bl]
theorem wpList_sec (hgd : o.guard = none) (t : TypeId) (x : Operand) (lo hi' mx : Option Operand) (ho : o.op = .slice t x lo hi' mx) {e : TypeId} {size : Nat} (ht : P.underlying t = some (.slice e)) (hi : (P.info? e).map (·.size) = some size)
    (A : Option Addr) (len cap l h m : Nat) (hx : a.eval x = .slice A len cap) (hl : Bnd a lo 0 l) (hh : Bnd a hi' len h) (hm : Bnd a mx cap m) (h1 : l ≤ h) (h2 : h ≤ m) (h3 : m ≤ cap) (h4 : hi' = none → mx = none)
    (hn : wpList P ops Q rest (a.put o.dst (.slice (secA A l m size) (h - l) (m - l))) w) : wpList P ops Q (o :: rest) a w := by
  refine wpList_plain hgd fun K hK => ?_
  have hr := run_slice_sec (P := P) (w := w) (a := a) ht hi lo hi' mx A len cap l h m hl hh hm h1 h2 h3 h4
  have hsl : ∀ v lo hi mx, (Instr.sliceAt t v lo hi mx).run P w = (Instr.slice t v lo hi mx).run P w := fun v lo hi mx => by simp [Instr.sliceAt, run_underlying ht]
  unfold Oper.wp execOp
  simp only [ho, hx, Sem.run_bind, hsl, hr, Result.andThen_ok, Sem.run_pure]
  exact hK _ _ hn
/-- A part of an array behind a pointer. -/
theorem wpList_secArr (hgd : o.guard = none) (t : TypeId) (x : Operand) (lo hi' mx : Option Operand) (ho : o.op = .slice t x lo hi' mx) {e : TypeId} {n size : Nat} (ht : P.underlying t = some (.array n e)) (hi : (P.info? e).map (·.size) = some size)
    (ad : Addr) (l h m : Nat) (hx : a.eval x = .pointer (some ad)) (hl : Bnd a lo 0 l) (hh : Bnd a hi' n h) (hm : Bnd a mx n m) (h1 : l ≤ h) (h2 : h ≤ m) (h3 : m ≤ n) (h4 : hi' = none → mx = none)
    (hn : wpList P ops Q rest (a.put o.dst (.slice (secA (some ad) l m size) (h - l) (m - l))) w) : wpList P ops Q (o :: rest) a w := by
  refine wpList_plain hgd fun K hK => ?_
  have hr : (Instr.sliceAt t (.pointer (some ad)) (lo.map a.eval) (hi'.map a.eval) (mx.map a.eval)).run P w = .ok (.slice (secA (some ad) l m size) (h - l) (m - l)) w := by
    cases hq : P.info? e with
    | none => rw [hq] at hi; cases hi
    | some i =>
      have hs : i.size = size := by rw [hq] at hi; simpa using hi
      have bl : ∀ k code, (Instr.sliceBound (.int k (l : Int)) h code).run P w = .ok l w := fun k code => by simpa using run_sliceBound (P := P) (l : Int) k h code w (by omega) (by omega)
      have bh : ∀ k code, (Instr.sliceBound (.int k (h : Int)) m code).run P w = .ok h w := fun k code => by simpa using run_sliceBound (P := P) (h : Int) k m code w (by omega) (by omega)
      have bm : ∀ k code, (Instr.sliceBound (.int k (m : Int)) n code).run P w = .ok m w := fun k code => by simpa using run_sliceBound (P := P) (m : Int) k n code w (by omega) (by omega)
      unfold Instr.sliceAt Instr.sliceBounds
      simp only [Sem.run_bind, run_underlying ht, Result.andThen_ok, Instr.sureAddr, Sem.run_pure]
      rcases hm with ⟨rfl, rfl⟩ | ⟨y3, k3, rfl, e3⟩
      · rcases hh with ⟨rfl, rfl⟩ | ⟨y2, k2, rfl, e2⟩
        · rcases hl with ⟨rfl, rfl⟩ | ⟨y1, k1, rfl, e1⟩
          · simp [sizeOf, typeInfo, hq, hs]; try (unfold secA; split <;> simp_all)
          · simp [sizeOf, typeInfo, hq, hs, e1, Sem.run_bind, bl]; try (unfold secA; split <;> simp_all)
        · rcases hl with ⟨rfl, rfl⟩ | ⟨y1, k1, rfl, e1⟩
          · simp [sizeOf, typeInfo, hq, hs, e2, Sem.run_bind, bh]; try (unfold secA; split <;> simp_all)
          · simp [sizeOf, typeInfo, hq, hs, e1, e2, Sem.run_bind, bh, bl]; try (unfold secA; split <;> simp_all)
      · rcases hh with ⟨rfl, rfl⟩ | ⟨y2, k2, rfl, e2⟩
        · exact absurd (h4 rfl) (by simp)
        · rcases hl with ⟨rfl, rfl⟩ | ⟨y1, k1, rfl, e1⟩
          · simp [sizeOf, typeInfo, hq, hs, e2, e3, Sem.run_bind, bm, bh]; try (unfold secA; split <;> simp_all)
          · simp [sizeOf, typeInfo, hq, hs, e1, e2, e3, Sem.run_bind, bm, bh, bl]; try (unfold secA; split <;> simp_all)
  unfold Oper.wp execOp
  simp only [ho, hx, Sem.run_bind, hr, Result.andThen_ok, Sem.run_pure]
  exact hK _ _ hn
/-- The same in a region that draws its order. -/
theorem yieldsIf_sec {S : World → Prop} (hw : Region.wanted o (yielded ops a.tmps) = true) (t : TypeId) (x : Operand) (lo hi' mx : Option Operand) (ho : o.op = .slice t x lo hi' mx) {e : TypeId} {size : Nat} (ht : P.underlying t = some (.slice e)) (hi : (P.info? e).map (·.size) = some size)
    (A : Option Addr) (len cap l h m : Nat) (hx : a.eval x = .slice A len cap) (hl : Bnd a lo 0 l) (hh : Bnd a hi' len h) (hm : Bnd a mx cap m) (h1 : l ≤ h) (h2 : h ≤ m) (h3 : m ≤ cap) (h4 : hi' = none → mx = none)
    (v : Value) (hv : v = .slice (secA A l m size) (h - l) (m - l)) : YieldsIf P ops S o v a :=
  .inl ⟨hw, fun w _ => by
    subst hv
    have hr := run_slice_sec (P := P) (w := w) (a := a) ht hi lo hi' mx A len cap l h m hl hh hm h1 h2 h3 h4
    have hsl : ∀ v lo hi mx, (Instr.sliceAt t v lo hi mx).run P w = (Instr.slice t v lo hi mx).run P w := fun v lo hi mx => by simp [Instr.sliceAt, run_underlying ht]
    unfold execOp
    simp only [ho, hx, Sem.run_bind, hsl, hr, Result.andThen_ok, Sem.run_pure]⟩
theorem secA_some {g o l m size : Nat} (h : l < m) : secA (some ⟨g, o, none⟩) l m size = some ⟨g, o + l * size, none⟩ := by
  unfold secA
  rw [if_neg (by omega), Option.map_some, add_new]
end
end Go.Proofs.YthppbefemfkccaaDoor
namespace Go.Proofs.YthppbefemfkccaaDoor
open Go.RowKit

theorem encB_set (l : List UInt8) (i : Nat) (b : UInt8) : (encB l).toArray.setIfInBounds i (.int .u8 (b.toNat : Int)) = (encB (l.set i b)).toArray := by
  rw [List.setIfInBounds_toArray]
  unfold encB
  rw [List.map_set]
/-- Bytes in a block. -/
def BB (w : World) (g : Nat) (T : TypeId) (l : List UInt8) : Prop := w.heap[g]? = some (.cells (encB l).toArray T (0, 0))
theorem BB.keeps {S : List Nat} {w w' : World} {g : Nat} {T : TypeId} {l : List UInt8} (h : BB w g T l) (hk : Keeps S w w') (hg : g ∉ S) : BB w' g T l := (hk.block g (lt_of_block h) hg).trans h
theorem BB.cell {w : World} {g : Nat} {T : TypeId} {l : List UInt8} (h : BB w g T l) (i : Nat) (hi : i < l.length) : w.cell? ⟨g, i, none⟩ = some (.int .u8 (l[i].toNat : Int)) := by
  rw [cell_of_row _ _ _ _ _ _ h, List.getElem?_toArray, List.getElem?_eq_getElem (by simpa using hi), encB_get l i hi]
theorem BB.set {w : World} {g : Nat} {T : TypeId} {l : List UInt8} (h : BB w g T l) (i : Nat) (b : UInt8) : BB (w.setCell ⟨g, i, none⟩ (.int .u8 (b.toNat : Int))) g T (l.set i b) := by
  unfold BB
  rw [heap_setCell_same w g i _ _ _ h, encB_set]

/-- A cell of one's own bytes, stored. -/
theorem OwnB.at0 {E : TypeId} {w : World} {A : Option Addr} {c : Nat} {l : List UInt8} (h : OwnB E w A c l) (hl : 0 < l.length) : ∃ g, A = some ⟨g, 0, none⟩ ∧ (∀ (i : Nat) (_ : i < l.length), w.cell? ⟨g, i, none⟩ = some (.int .u8 (l[i].toNat : Int))) ∧ ∀ i, w.frozen? ⟨g, i, none⟩ = false := by
  rcases h.2 with ⟨_, h0⟩ | ⟨g, cap, cur, hv, _, hh, _, _, _, ht⟩
  · omega
  · have hA : A = some ⟨g, 0, none⟩ := by injection hv
    refine ⟨g, hA, fun i hi => ?_, fun i => frozen_of_row w g i _ _ hh⟩
    obtain ⟨ad, e, hc⟩ := (OwnB.rd h).at_ hi
    rw [hA] at e
    obtain rfl := Option.some.inj e
    rw [add_new, Nat.zero_add] at hc
    exact hc
theorem OwnB.set {E : TypeId} {w : World} {g : Nat} {c : Nat} {l : List UInt8} (h : OwnB E w (some ⟨g, 0, none⟩) c l) (i : Nat) (b : UInt8) (_ : i < l.length) : OwnB E (w.setCell ⟨g, i, none⟩ (.int .u8 (b.toNat : Int))) (some ⟨g, 0, none⟩) c (l.set i b) := by
  obtain ⟨h1, h2⟩ := h
  have el : (l.set i b).length = l.length := List.length_set
  unfold OwnB
  rw [el]
  refine ⟨by simp, ?_⟩
  rcases h2 with ⟨e, _⟩ | ⟨g', cap, cur, hv, hb, hh, hn, hm, hs, ht⟩
  · cases e
  · obtain ⟨rfl⟩ : g = g' := by injection hv with e1; simpa using e1
    refine .inr ⟨g, cap, cur.setIfInBounds i (.int .u8 (b.toNat : Int)), hv, hb, heap_setCell_same w g i _ _ _ hh, hn, hm, by simpa using hs, ?_⟩
    rw [Array.toList_setIfInBounds, List.take_set, ht]
    unfold encB
    rw [List.map_set]
/-- One cell, stored. -/
theorem run_storeVar_cell {P : Program} (w : World) (b o : Nat) (ty : TypeId) (v old : Value) (hc : w.cell? ⟨b, o, none⟩ = some old) (hf : w.frozen? ⟨b, o, none⟩ = false) (hi : (P.info? ty).map (·.size) = some 1) (h1 : v.oneCell' = true) :
    (storeVar ty ⟨b, o, none⟩ v).run P w = .ok () (w.setCell ⟨b, o, none⟩ v) := by
  have := run_storeCells_cells (P := P) b o [v] 0 w (fun j hj => by
      obtain rfl : j = 0 := by simpa using hj
      simp only [Nat.add_zero]
      rw [hc]
      rfl) (fun j hj => by
      obtain rfl : j = 0 := by simpa using hj
      simp only [Nat.add_zero]
      exact hf)
    (fun x hx => by simp at hx; subst hx; exact h1)
  have hcs : v.cells = #[v] := by cases v <;> first | rfl | cases h1
  cases hq : P.info? ty with
  | none => simp [hq] at hi
  | some i =>
    have hs : i.size = 1 := by simpa [hq] using hi
    simp only [Nat.add_zero] at this
    simp [storeVar, sizeOf, typeInfo, hq, hcs, hs, this, World.setCells]
theorem wpList_store_cell {P : Program} {ops : Array Oper} {rest : List Oper} {o : Oper} {a : Act} {w : World} {Q : Exit → Act → World → Prop} (hgd : o.guard = none) (ty : TypeId) (x y : Operand) (ho : o.op = .store ty x y)
    (g i : Nat) (v old : Value) (hx : a.eval x = .pointer (some ⟨g, i, none⟩)) (hy : a.eval y = v) (h1 : v.oneCell' = true) (hc : w.cell? ⟨g, i, none⟩ = some old) (hf : w.frozen? ⟨g, i, none⟩ = false) (hi : (P.info? ty).map (·.size) = some 1)
    (h : wpList P ops Q rest (a.put o.dst undef) (w.setCell ⟨g, i, none⟩ v)) : wpList P ops Q (o :: rest) a w :=
  wpList_plain hgd fun _ hK => by
    unfold Oper.wp execOp
    simp only [ho, hx, hy, Instr.storeAt, Instr.sureAddr, Sem.run_bind, Sem.run_pure, Result.andThen_ok, run_storeVar_cell w g i ty v old hc hf hi h1]
    exact hK _ _ h
theorem wpList_store_byte {P : Program} {ops : Array Oper} {rest : List Oper} {o : Oper} {a : Act} {w : World} {Q : Exit → Act → World → Prop} (hgd : o.guard = none) (ty : TypeId) (x y : Operand) (ho : o.op = .store ty x y)
    (g i : Nat) (b : UInt8) (hx : a.eval x = .pointer (some ⟨g, i, none⟩)) (hy : a.eval y = .int .u8 (b.toNat : Int)) (T : TypeId) (l : List UInt8) (hB : BB w g T l) (hl : i < l.length) (hi : (P.info? ty).map (·.size) = some 1)
    (h : ∀ w', Hid (BB w' g T (l.set i b)) → Keeps [g] w w' → wpList P ops Q rest (a.put o.dst undef) w') : wpList P ops Q (o :: rest) a w :=
  wpList_store_cell hgd ty x y ho g i _ _ hx hy rfl (hB.cell i hl) (frozen_of_row w g i _ _ hB) hi (h _ (hB.set i b) ((Keeps.refl [g] w).setCell (p := ⟨g, i, none⟩) (.inl (by simp)) _))
end Go.Proofs.YthppbefemfkccaaDoor
namespace Go.Proofs.YthppbefemfkccaaDoor
open Go.RowKit

theorem strCells_strB (l : List UInt8) : Lib.strCells (strB l) = encB l := by
  simp [Lib.strCells, strB, encB]
theorem wpList_appendS {P : Program} {w : World} {ops : Array Oper} {rest : List Oper} {o : Oper} {a : Act} {Q : Exit → Act → World → Prop} (hgd : o.guard = none) (s x : Operand) (t u E : TypeId)
    (ho : o.op = .call { callee := .builtin .append, args := #[s, x], argTypes := #[t, u] }) (ht : P.underlying t = some (.slice E)) (hu : P.underlying u = some .string)
    (hinfo : (P.info? E).map (fun i => (i.zero, i.size, i.bytes)) = some (some (.int .u8 0), 1, 1))
    (A : Option Addr) (cv : Nat) (l : List UInt8) (hs : a.eval s = .slice A l.length cv) (hown : OwnB E w A cv l)
    (l2 : List UInt8) (hx : a.eval x = .string (strB l2)) (hb : l.length + l2.length ≤ 140737488355328)
    (h : ∀ A' c' w' l', Hid (l' = l ++ l2) → OwnB E w' A' c' l' → Keeps (blk A) w w' → (∀ a, A' = some a → a.block ∈ blk A ∨ w.heap.size ≤ a.block) → wpList P ops Q rest (a.put o.dst (.slice A' l'.length c')) w') :
    wpList P ops Q (o :: rest) a w := by
  refine wpList_plain hgd fun K hK => ?_
  obtain ⟨i, hi, hz0, hz1, hz2⟩ := info_parts hinfo
  obtain ⟨v', w', hr, hown', hg, hn⟩ := Lib.run_append_own_string (P := P) w 0 t u o.type E i ht hu hi hz0 hz1 hz2 (.slice A l.length cv) l.length (encB l) hown (strB l2) (by show l.length + l2.length ≤ _; unfold maxLen; omega) hb (Nat.zero_le _)
  have hsz : (strB l2).size = l2.length := rfl
  rw [strCells_strB, ← encB_append, hsz] at hown'
  have hll : l.length + l2.length = (l ++ l2).length := by simp
  rw [hll] at hown'
  have hb' : ∀ A' m c', v' = .slice A' m c' → ∀ a, A' = some a → a.block ∈ blk A ∨ w.heap.size ≤ a.block := by
    intro A' m c' hv a ha
    subst hv ha
    rcases hown.2 with ⟨h1, h0⟩ | ⟨g, cap, cur, h1, _, hh, hnc, hcm, hcs, _⟩
    · injection h1 with e1 e2 e3
      subst e1 e3
      rw [h0] at hr
      have h2 : 0 < (strB l2).size := by
        rcases Nat.eq_zero_or_pos (strB l2).size with h | h
        · exact absurd (hn.2 ⟨by rw [h0], h⟩) (by simp)
        · exact h
      have hr2 := run_append_nil_string (P := P) w t u o.type E i (.int .u8 0) ht hu hi hz0 (strB l2) h2 (by rw [hsz]; omega) (by rw [hsz, hz2]; omega)
      rw [hr] at hr2
      injection hr2 with e4 _
      injection e4 with e5 _ _
      obtain rfl := Option.some.inj e5
      exact .inr (Nat.le_refl _)
    · injection h1 with e1 e2 e3
      subst e1 e3
      by_cases hroom : l.length + (strB l2).size ≤ cv
      · have hr2 := Lib.run_append_room_string (P := P) w t u o.type E i ht hu hi hz1 g l.length cv cur hh (strB l2) hroom (by simpa [hcs] using hroom)
        rw [hr] at hr2
        injection hr2 with e4 _
        injection e4 with e5 _ _
        obtain rfl := Option.some.inj e5
        exact .inl (by simp [blk])
      · have hr2 := Lib.run_append_grow_string (P := P) w t u o.type E i (.int .u8 0) ht hu hi hz0 ⟨g, 0, none⟩ l.length cv (encB l) (by rw [hz1]; simp) (World.ownsRow.cells hown (g := g) rfl) (strB l2) (by omega) (by rw [hsz]; omega) (by rw [hz2]; exact growslice_fits (by omega) (by rw [hsz]; omega))
        rw [hr] at hr2
        injection hr2 with e4 _
        injection e4 with e5 _ _
        obtain rfl := Option.some.inj e5
        exact .inr (Nat.le_refl _)
  have hshape : ∃ A' c', v' = .slice A' (l ++ l2).length c' := by
    rcases hown'.2 with ⟨h1, h0⟩ | ⟨g, cap, cur, h1, _⟩
    · exact ⟨none, 0, by rw [h1, h0]⟩
    · exact ⟨_, cap, h1⟩
  obtain ⟨A', c', rfl⟩ := hshape
  unfold Oper.wp execOp
  simp only [ho, resolve, invoke, builtin, Sem.run_bind, Sem.run_pure, Result.andThen_ok, List.map_toArray, List.map_cons, List.map_nil, hs, hx, hr]
  refine hK _ _ (h A' c' w' (l ++ l2) rfl hown' ⟨hg.os, hg.tape, hg.output, hg.size, fun k hk hnm => hg.block k hk (fun e => hnm ?_)⟩ (hb' A' _ c' rfl))
  cases A with
  | none => simp [Value.ownBlock] at e
  | some a0 => simp only [Value.ownBlock, Option.some.injEq] at e; exact mem_blk.2 ⟨a0, rfl, e.symm⟩
end Go.Proofs.YthppbefemfkccaaDoor
namespace Go.Proofs
open Go.Shelf
def Tryd.lays126_ren : Go.Shelf.Ren := ⟨fun | 126 => 66 | n => n, fun | 5 => 5 | 3 => 3 | 9 => 9 | n => n, fun | n => n⟩
theorem Tryd.lays126 : Go.Proofs.Lays.n126 Tryd.prog Tryd.lays126_ren := {
  mixed := by kernel_rfl
  f126 := Tryd.func66.trans (congrArg some (by kernel_rfl))
  t3 := Tryd.underlying3
  a3 := Tryd.isAgg3
  z3 := Tryd.sizeOf3
  v3 := Tryd.zeroValue3
  t5 := Tryd.underlying5
  a5 := Tryd.isAgg5
  z5 := Tryd.sizeOf5
  v5 := Tryd.zeroValue5
  t9 := Tryd.underlying9
  a9 := Tryd.isAgg9
  z9 := Tryd.sizeOf9
  v9 := Tryd.zeroValue9 }
/-- bits.Len8: "Len8 returns the minimum number of bits required to represent x; the result is 0 for x == 0.": IT RETURNS 'Lib.bitLen x'; the world is as it was. ('h0', 'h1': x is a uint8.) (LAID: no walk: one application.) -/
theorem Tryd.bits_Len8 (x : Int) (w : World) (h0 : 0 ≤ x) (h1 : x ≤ 255) :
    Calls Tryd.prog 66 #[.int .u8 x] w fun e w' => e = .returned (.int .i64 (Lib.bitLen x.toNat)) ∧ w' = w := Any.bits_Len8 Tryd.lays126 x w h0 h1
def Tryd.lays131_ren : Go.Shelf.Ren := ⟨fun | 131 => 65 | 126 => 66 | n => n, fun | 5 => 5 | 3 => 3 | 9 => 9 | n => n, fun | n => n⟩
theorem Tryd.lays131 : Go.Proofs.Lays.n131 Tryd.prog Tryd.lays131_ren := {
  mixed := by kernel_rfl
  f126 := Tryd.func66.trans (congrArg some (by kernel_rfl))
  f131 := Tryd.func65.trans (congrArg some (by kernel_rfl))
  t3 := Tryd.underlying3
  a3 := Tryd.isAgg3
  z3 := Tryd.sizeOf3
  v3 := Tryd.zeroValue3
  t5 := Tryd.underlying5
  a5 := Tryd.isAgg5
  z5 := Tryd.sizeOf5
  v5 := Tryd.zeroValue5
  t9 := Tryd.underlying9
  a9 := Tryd.isAgg9
  z9 := Tryd.sizeOf9
  v9 := Tryd.zeroValue9 }
/-- bits.LeadingZeros8: "LeadingZeros8 returns the number of leading zero bits in x; the result is 8 for x == 0.": IT RETURNS '8 - Lib.bitLen x'; the world is as it was. ITS CALLEE bits.Len8 IS MET BY ITS OWN CONTRACT OFF THE SHELF (lay that first): ENTERED IN PLACE it sends the kernel out of memory. (LAID: no walk: one application.) -/
theorem Tryd.bits_LeadingZeros8 (x : Int) (w : World) (h0 : 0 ≤ x) (h1 : x ≤ 255) :
    Calls Tryd.prog 65 #[.int .u8 x] w fun e w' => e = .returned (.int .i64 (8 - (Lib.bitLen x.toNat : Int))) ∧ w' = w := Any.bits_LeadingZeros8 Tryd.lays131 x w h0 h1
def Tryd.lays135_ren : Go.Shelf.Ren := ⟨fun | 135 => 26 | n => n, fun | 5 => 5 | 3 => 3 | 9 => 9 | n => n, fun | n => n⟩
theorem Tryd.lays135 : Go.Proofs.Lays.n135 Tryd.prog Tryd.lays135_ren := {
  mixed := by kernel_rfl
  f135 := Tryd.func26.trans (congrArg some (by kernel_rfl))
  t3 := Tryd.underlying3
  a3 := Tryd.isAgg3
  z3 := Tryd.sizeOf3
  v3 := Tryd.zeroValue3
  t5 := Tryd.underlying5
  a5 := Tryd.isAgg5
  z5 := Tryd.sizeOf5
  v5 := Tryd.zeroValue5
  t9 := Tryd.underlying9
  a9 := Tryd.isAgg9
  z9 := Tryd.sizeOf9
  v9 := Tryd.zeroValue9 }
/-- bits.OnesCount8: "OnesCount8 returns the number of one bits ("population count") in x.": IT RETURNS 'Lib.onesCount x'; the world is as it was. ('h0', 'h1': x is a uint8.) (LAID: no walk: one application.) -/
theorem Tryd.bits_OnesCount8 (x : Int) (w : World) (h0 : 0 ≤ x) (h1 : x ≤ 255) :
    Calls Tryd.prog 26 #[.int .u8 x] w fun e w' => e = .returned (.int .i64 (Lib.onesCount x.toNat)) ∧ w' = w := Any.bits_OnesCount8 Tryd.lays135 x w h0 h1
def Tryd.lays129_ren : Go.Shelf.Ren := ⟨fun | 129 => 63 | n => n, fun | 53 => 60 | 3 => 3 | 4 => 4 | 46 => 76 | 5 => 5 | 9 => 9 | n => n, fun | n => n⟩
theorem Tryd.lays129 : Go.Proofs.Lays.n129 Tryd.prog Tryd.lays129_ren := {
  mixed := by kernel_rfl
  f129 := Tryd.func63.trans (congrArg some (by kernel_rfl))
  t3 := Tryd.underlying3
  a3 := Tryd.isAgg3
  z3 := Tryd.sizeOf3
  v3 := Tryd.zeroValue3
  t4 := Tryd.underlying4
  a4 := Tryd.isAgg4
  z4 := Tryd.sizeOf4
  v4 := Tryd.zeroValue4
  t5 := Tryd.underlying5
  a5 := Tryd.isAgg5
  z5 := Tryd.sizeOf5
  v5 := Tryd.zeroValue5
  t9 := Tryd.underlying9
  a9 := Tryd.isAgg9
  z9 := Tryd.sizeOf9
  v9 := Tryd.zeroValue9
  t46 := Tryd.underlying76
  a46 := Tryd.isAgg76
  z46 := Tryd.sizeOf76
  v46 := Tryd.zeroValue76
  t53 := Tryd.underlying60
  a53 := Tryd.isAgg60
  z53 := Tryd.sizeOf60
  v53 := Tryd.zeroValue60 }
/-- bits.Len64: "Len64 returns the minimum number of bits required to represent x; the result is 0 for x == 0.": IT RETURNS 'Lib.bitLen x'; the world is as it was. ('h0', 'h1': x is a uint64.) (LAID: no walk: one application.) -/
theorem Tryd.bits_Len64 (x : Int) (w : World) (h0 : 0 ≤ x) (h1 : x ≤ 18446744073709551615) :
    Calls Tryd.prog 63 #[.int .u64 x] w fun e w' => e = .returned (.int .i64 (Lib.bitLen x.toNat)) ∧ w' = w := Any.bits_Len64 Tryd.lays129 x w h0 h1
end Go.Proofs
