/- 'append(xs, s...)' of a text onto bytes of one's own. No program is named here. Entries in order of their keys: plain lists. No program is named here. DERIVED: THE SHELF's CONTRACTS AT THIS DUMP, IN PLAIN WORDS (tools/lay-plain.mjs out of 'TrydShelf.lean', which tools/lay-shelf.mjs wrote): THE SAME DECLARATIONS UNDER THE SAME NAMES: 'import', 'namespace', 'open', 'def', 'theorem' AND NOTHING ELSE: no command of the shelf's: FOR A HAND-IN. Each laying: the table of numbers ('.._ren') and one theorem, a field a fact of the dump's own or the kernel's comparison; each contract: ONE APPLICATION. Parts of slices: the operation x[l:h:m], at any element, and what such a part reads as. No program is named here. Append onto a row of one's own, elements of any kind. No program is named here. Entries held against a key, weighed, and a key sought in a row in order: contracts. -/
import Derived.Test.YtaedmafmflohiaaDoorQMergeAll1
import Derived.Lib.AppendStr
import Derived.Lib.Bytealg
import Derived.Shelf.Small.Strs
import Derived.Shelf.Small.Wraps
import Derived.Ground.Names2Prog
import Derived.Shelf.Slices.SearchI
import Derived.Test.YtaedmafmflohiaaDoorProg
import Derived.Deep.DeepCutAuto
namespace Go.Proofs.YtaedmafmflohiaaDoor
open Go.RowKit

theorem strCells_strB (l : List UInt8) : Lib.strCells (strB l) = encB l := by
  simp [Lib.strCells, strB, encB]
theorem wpList_appendS {P : Program} {w : World} {ops : Array Oper} {rest : List Oper} {o : Oper} {a : Act} {Q : Exit → Act → World → Prop} (hgd : o.guard = none) (s x : Operand) (t u E : TypeId)
    (ho : o.op = .call { callee := .builtin .append, args := #[s, x], argTypes := #[t, u] }) (ht : P.underlying t = some (.slice E)) (hu : P.underlying u = some .string)
    (hinfo : (P.info? E).map (fun i => (i.zero, i.size, i.bytes)) = some (some (.int .u8 0), 1, 1))
    (A : Option Addr) (cv : Nat) (l : List UInt8) (hs : a.eval s = .slice A l.length cv) (hown : OwnB E w A cv l)
    (l2 : List UInt8) (hx : a.eval x = .string (strB l2)) (hb : l.length + l2.length ≤ 140737488355328)
    (h : ∀ A' c' w' l', Hid (l' = l ++ l2) → OwnB E w' A' c' l' → Keeps (blk A) w w' → (∀ a, A' = some a → a.block ∈ blk A ∨ w.heap.size ≤ a.block) → wpList P ops Q rest (a.put o.dst (.slice A' l'.length c')) w') :
    wpList P ops Q (o :: rest) a w := by
  refine wpList_plain hgd fun K hK => ?_
  obtain ⟨i, hi, hz0, hz1, hz2⟩ := info_parts hinfo
  obtain ⟨v', w', hr, hown', hg, hn⟩ := Lib.run_append_own_string (P := P) w 0 t u o.type E i ht hu hi hz0 hz1 hz2 (.slice A l.length cv) l.length (encB l) hown (strB l2) (by show l.length + l2.length ≤ _; unfold maxLen; omega) hb (Nat.zero_le _)
  have hsz : (strB l2).size = l2.length := rfl
  rw [strCells_strB, ← encB_append, hsz] at hown'
  have hll : l.length + l2.length = (l ++ l2).length := by simp
  rw [hll] at hown'
  have hb' : ∀ A' m c', v' = .slice A' m c' → ∀ a, A' = some a → a.block ∈ blk A ∨ w.heap.size ≤ a.block := by
    intro A' m c' hv a ha
    subst hv ha
    rcases hown.2 with ⟨h1, h0⟩ | ⟨g, cap, cur, h1, _, hh, hnc, hcm, hcs, _⟩
    · injection h1 with e1 e2 e3
      subst e1 e3
      rw [h0] at hr
      have h2 : 0 < (strB l2).size := by
        rcases Nat.eq_zero_or_pos (strB l2).size with h | h
        · exact absurd (hn.2 ⟨by rw [h0], h⟩) (by simp)
        · exact h
      have hr2 := run_append_nil_string (P := P) w t u o.type E i (.int .u8 0) ht hu hi hz0 (strB l2) h2 (by rw [hsz]; omega) (by rw [hsz, hz2]; omega)
      rw [hr] at hr2
      injection hr2 with e4 _
      injection e4 with e5 _ _
      obtain rfl := Option.some.inj e5
      exact .inr (Nat.le_refl _)
    · injection h1 with e1 e2 e3
      subst e1 e3
      by_cases hroom : l.length + (strB l2).size ≤ cv
      · have hr2 := Lib.run_append_room_string (P := P) w t u o.type E i ht hu hi hz1 g l.length cv cur hh (strB l2) hroom (by simpa [hcs] using hroom)
        rw [hr] at hr2
        injection hr2 with e4 _
        injection e4 with e5 _ _
        obtain rfl := Option.some.inj e5
        exact .inl (by simp [blk])
      · have hr2 := Lib.run_append_grow_string (P := P) w t u o.type E i (.int .u8 0) ht hu hi hz0 ⟨g, 0, none⟩ l.length cv (encB l) (by rw [hz1]; simp) (World.ownsRow.cells hown (g := g) rfl) (strB l2) (by omega) (by rw [hsz]; omega) (by rw [hz2]; exact growslice_fits (by omega) (by rw [hsz]; omega))
        rw [hr] at hr2
        injection hr2 with e4 _
        injection e4 with e5 _ _
        obtain rfl := Option.some.inj e5
        exact .inr (Nat.le_refl _)
  have hshape : ∃ A' c', v' = .slice A' (l ++ l2).length c' := by
    rcases hown'.2 with ⟨h1, h0⟩ | ⟨g, cap, cur, h1, _⟩
    · exact ⟨none, 0, by rw [h1, h0]⟩
    · exact ⟨_, cap, h1⟩
  obtain ⟨A', c', rfl⟩ := hshape
  unfold Oper.wp execOp
  simp only [ho, resolve, invoke, builtin, Sem.run_bind, Sem.run_pure, Result.andThen_ok, List.map_toArray, List.map_cons, List.map_nil, hs, hx, hr]
  refine hK _ _ (h A' c' w' (l ++ l2) rfl hown' ⟨hg.os, hg.tape, hg.output, hg.size, fun k hk hnm => hg.block k hk (fun e => hnm ?_)⟩ (hb' A' _ c' rfl))
  cases A with
  | none => simp [Value.ownBlock] at e
  | some a0 => simp only [Value.ownBlock, Option.some.injEq] at e; exact mem_blk.2 ⟨a0, rfl, e.symm⟩
end Go.Proofs.YtaedmafmflohiaaDoor
namespace Go.Proofs.YtaedmafmflohiaaDoor
open Go.RowKit

/-- An entry: key, value, whether it is gone. -/
structure En where
  k : List UInt8
  v : List UInt8
  g : Bool
theorem En.ext' {a b : En} (h1 : a.k = b.k) (h2 : a.v = b.v) (h3 : a.g = b.g) : a = b := by
  cases a; cases b; simp at h1 h2 h3; simp [h1, h2, h3]
def En.cells (e : En) : List Value := [.string (strB e.k), .string (strB e.v), .bool e.g]
@[simp] theorem En.cells_len (e : En) : e.cells.length = 3 := rfl
def encEn (l : List En) : List Value := l.flatMap En.cells
theorem encEn_len (l : List En) : (encEn l).length = 3 * l.length := by
  unfold encEn
  induction l with
  | nil => rfl
  | cons e l ih => rw [List.flatMap_cons, List.length_append, ih, En.cells_len, List.length_cons]; omega
theorem encEn_append (a b : List En) : encEn (a ++ b) = encEn a ++ encEn b := List.flatMap_append
theorem encEn_cons (e : En) (l : List En) : encEn (e :: l) = e.cells ++ encEn l := rfl
theorem encEn_take (l : List En) (i : Nat) : (encEn l).take (3 * i) = encEn (l.take i) := by
  induction l generalizing i with
  | nil => simp [encEn]
  | cons e l ih =>
    cases i with
    | zero => simp [encEn]
    | succ i =>
      rw [encEn_cons, List.take_succ_cons, encEn_cons, List.take_append, En.cells_len, show 3 * (i + 1) - 3 = 3 * i by omega, ih, List.take_of_length_le (by simp; omega)]
theorem encEn_drop (l : List En) (i : Nat) : (encEn l).drop (3 * i) = encEn (l.drop i) := by
  induction l generalizing i with
  | nil => simp [encEn]
  | cons e l ih =>
    cases i with
    | zero => simp [encEn]
    | succ i =>
      rw [encEn_cons, List.drop_succ_cons, List.drop_append, En.cells_len, show 3 * (i + 1) - 3 = 3 * i by omega, ih, List.drop_of_length_le (by simp; omega)]
      rfl
theorem encEn_get (l : List En) (i : Nat) (h : i < l.length) (j : Nat) (hj : j < 3) : (encEn l)[3 * i + j]? = l[i].cells[j]? := by
  have h1 : (encEn l).drop (3 * i) = l[i].cells ++ encEn (l.drop (i + 1)) := by
    rw [encEn_drop, List.drop_eq_getElem_cons h, encEn_cons]
  rw [← List.getElem?_drop, h1, List.getElem?_append_left (by simpa using hj)]
theorem encEn_one (l : List En) : ∀ u ∈ encEn l, u.oneCell' = true := by
  intro u hu
  unfold encEn at hu
  obtain ⟨e, _, he⟩ := List.mem_flatMap.1 hu
  simp [En.cells] at he
  rcases he with rfl | rfl | rfl <;> rfl
theorem encEn_set (l : List En) (i : Nat) (h : i < l.length) (e : En) : (encEn l).take (3 * i) ++ e.cells ++ (encEn l).drop (3 * i + 3) = encEn (l.set i e) := by
  rw [encEn_take, show 3 * i + 3 = 3 * (i + 1) by omega, encEn_drop, List.set_eq_take_append_cons_drop, if_pos h, encEn_append, encEn_cons, List.append_assoc]

/-! ## The order of keys -/
theorem bl_same : ∀ x : List UInt8, Op.bytesLess x x = false
  | [] => rfl
  | a :: x => by unfold Op.bytesLess; simp [bl_same x]
theorem bl_trans : ∀ {x y z : List UInt8}, Op.bytesLess x y = true → Op.bytesLess y z = true → Op.bytesLess x z = true
  | _, [], _, h, _ => by simp [Op.bytesLess] at h
  | _, _ :: _, [], _, h => by simp [Op.bytesLess] at h
  | [], _ :: _, _ :: _, _, _ => rfl
  | a :: x, b :: y, c :: z, h1, h2 => by
    unfold Op.bytesLess at h1 h2 ⊢
    simp only [Bool.or_eq_true, decide_eq_true_eq, Bool.and_eq_true, beq_iff_eq] at h1 h2 ⊢
    rcases h1 with h1 | ⟨rfl, h1⟩
    · rcases h2 with h2 | ⟨rfl, h2⟩
      · exact .inl (UInt8.lt_trans h1 h2)
      · exact .inl h1
    · rcases h2 with h2 | ⟨rfl, h2⟩
      · exact .inl h2
      · exact .inr ⟨rfl, bl_trans h1 h2⟩
theorem bl_tri : ∀ (x y : List UInt8), Op.bytesLess x y = true ∨ x = y ∨ Op.bytesLess y x = true
  | [], [] => .inr (.inl rfl)
  | [], _ :: _ => .inl rfl
  | _ :: _, [] => .inr (.inr rfl)
  | a :: x, b :: y => by
    unfold Op.bytesLess
    simp only [Bool.or_eq_true, decide_eq_true_eq, Bool.and_eq_true, beq_iff_eq, List.cons.injEq]
    by_cases h1 : a < b
    · exact .inl (.inl h1)
    · by_cases h2 : b < a
      · exact .inr (.inr (.inl h2))
      · obtain rfl : a = b := UInt8.le_antisymm (UInt8.not_lt.1 h2) (UInt8.not_lt.1 h1)
        rcases bl_tri x y with h | rfl | h
        · exact .inl (.inr ⟨rfl, h⟩)
        · exact .inr (.inl ⟨rfl, rfl⟩)
        · exact .inr (.inr (.inr ⟨rfl, h⟩))
theorem bl_not_both {x y : List UInt8} (h1 : Op.bytesLess x y = true) (h2 : Op.bytesLess y x = true) : False := by
  have := bl_trans h1 h2
  rw [bl_same] at this
  cases this
theorem bl_nil (x : List UInt8) : Op.bytesLess x [] = false := by cases x <;> rfl
theorem cmp_is : ∀ (x y : List UInt8), Lib.compareBytes x y = if Op.bytesLess x y then -1 else if x = y then 0 else 1
  | [], [] => rfl
  | [], _ :: _ => rfl
  | _ :: _, [] => rfl
  | a :: x, b :: y => by
    unfold Lib.compareBytes Op.bytesLess
    rw [cmp_is x y]
    by_cases h1 : a < b
    · simp [h1]
    · by_cases h2 : b < a
      · have h3 : ¬ a = b := fun e => by subst e; exact h1 h2
        simp [h1, h2, h3]
      · obtain rfl : a = b := UInt8.le_antisymm (UInt8.not_lt.1 h2) (UInt8.not_lt.1 h1)
        simp [h1]
theorem cmp_lt (x y : List UInt8) : Lib.compareBytes x y < 0 ↔ Op.bytesLess x y = true := by
  rw [cmp_is]
  cases Op.bytesLess x y
  · simp; split <;> omega
  · simp
theorem cmp_eq0 (x y : List UInt8) : Lib.compareBytes x y = 0 ↔ x = y := by
  rw [cmp_is]
  by_cases h : x = y
  · subst h; simp [bl_same]
  · simp only [if_neg h]
    cases Op.bytesLess x y <;> simp [h]

/-! ## Rows in order -/
def Srt (l : List En) : Prop := l.Pairwise fun a b => Op.bytesLess a.k b.k = true
/-- Where a key is, or would be. -/
def lo (l : List En) (key : List UInt8) : Nat := (l.takeWhile fun e => Op.bytesLess e.k key).length
def hit (l : List En) (key : List UInt8) : Bool := (l[lo l key]?).any fun e => e.k == key
theorem lo_le (l : List En) (key : List UInt8) : lo l key ≤ l.length := (List.takeWhile_prefix _).length_le
theorem lo_nil (key : List UInt8) : lo [] key = 0 := rfl
theorem lo_cons (e : En) (l : List En) (key : List UInt8) : lo (e :: l) key = if Op.bytesLess e.k key then lo l key + 1 else 0 := by
  unfold lo
  rw [List.takeWhile_cons]
  split <;> simp
theorem lo_spec {l : List En} {key : List UInt8} : ∀ {i : Nat}, i ≤ l.length → (∀ j (h : j < l.length), j < i → Op.bytesLess l[j].k key = true) → (∀ h : i < l.length, Op.bytesLess l[i].k key = false) → lo l key = i := by
  induction l with
  | nil => intro i h _ _; simp at h; subst h; rfl
  | cons e l ih =>
    intro i hi h1 h2
    rw [lo_cons]
    cases i with
    | zero =>
      have := h2 (by simp)
      simp at this
      rw [this]; rfl
    | succ i =>
      have := h1 0 (by simp) (by omega)
      simp at this
      rw [this, if_pos rfl, ih (by simpa using hi) (fun j h hj => by have := h1 (j + 1) (by simpa using h) (by omega); simpa using this) (fun h => by have := h2 (by simpa using h); simpa using this)]
theorem lo_before {l : List En} {key : List UInt8} {j : Nat} (h : j < l.length) (hj : j < lo l key) : Op.bytesLess l[j].k key = true := by
  induction l generalizing j with
  | nil => simp at h
  | cons e l ih =>
    rw [lo_cons] at hj
    split at hj
    · rename_i he
      cases j with
      | zero => exact he
      | succ j => have := ih (j := j) (by simpa using h) (by omega); simpa using this
    · omega
theorem lo_at {l : List En} {key : List UInt8} (h : lo l key < l.length) : Op.bytesLess l[lo l key].k key = false := by
  induction l with
  | nil => simp at h
  | cons e l ih =>
    by_cases he : Op.bytesLess e.k key = true
    · have e1 : lo (e :: l) key = lo l key + 1 := by rw [lo_cons, if_pos he]
      have := ih (by rw [e1] at h; simpa using h)
      simp only [e1, List.getElem_cons_succ]
      exact this
    · have e1 : lo (e :: l) key = 0 := by rw [lo_cons, if_neg he]
      simp only [e1, List.getElem_cons_zero]
      simpa using he
theorem Srt.lt {l : List En} (h : Srt l) {i j : Nat} (hj : j < l.length) (hij : i < j) : Op.bytesLess (l[i]'(by omega)).k l[j].k = true := List.pairwise_iff_getElem.1 h i j (by omega) hj hij
/-- In a row in order: ahead of the place keys are less, from it on they aren't. -/
theorem Srt.after {l : List En} (h : Srt l) {key : List UInt8} {j : Nat} (hj : j < l.length) (h1 : lo l key ≤ j) : Op.bytesLess l[j].k key = false := by
  have h2 := lo_at (l := l) (key := key) (by omega)
  rcases Nat.lt_or_ge (lo l key) j with h3 | h3
  · have h4 := h.lt hj h3
    cases hb : Op.bytesLess l[j].k key with
    | false => rfl
    | true => rw [bl_trans h4 hb] at h2; cases h2
  · have : j = lo l key := by omega
    subst this
    exact h2
theorem hit_iff {l : List En} {key : List UInt8} : hit l key = true ↔ ∃ h : lo l key < l.length, l[lo l key].k = key := by
  unfold hit
  by_cases h : lo l key < l.length
  · rw [List.getElem?_eq_getElem h]
    simp [h]
  · rw [List.getElem?_eq_none (by omega)]
    simp [h]
/-- An entry that is gone has no value. -/
def En.norm (e : En) : En := if e.g then ⟨e.k, [], true⟩ else e
theorem En.norm_k (e : En) : e.norm.k = e.k := by unfold En.norm; split <;> rfl
theorem En.norm_g (e : En) : e.norm.g = e.g := by unfold En.norm; split <;> simp_all
/-- An entry laid in. -/
def putE (l : List En) (e : En) : List En := l.take (lo l e.k) ++ e.norm :: l.drop (lo l e.k + if hit l e.k then 1 else 0)
theorem putE_hit {l : List En} {e : En} (h : hit l e.k = true) : putE l e = l.set (lo l e.k) e.norm := by
  unfold putE
  rw [h, if_pos rfl, List.set_eq_take_append_cons_drop, if_pos (hit_iff.1 h).1]
theorem putE_not {l : List En} {e : En} (h : hit l e.k = false) : putE l e = l.take (lo l e.k) ++ e.norm :: l.drop (lo l e.k) := by
  unfold putE
  rw [h]
  rfl
theorem putE_len (l : List En) (e : En) : (putE l e).length = l.length + if hit l e.k then 0 else 1 := by
  cases h : hit l e.k with
  | true => rw [putE_hit h]; simp
  | false =>
    rw [putE_not h, List.length_append, List.length_cons, List.length_take, List.length_drop]
    have := lo_le l e.k
    simp
    omega
theorem putE_srt {l : List En} (h : Srt l) (e : En) : Srt (putE l e) := by
  have hl := lo_le l e.k
  unfold putE Srt
  rw [List.pairwise_append, List.pairwise_cons]
  refine ⟨h.sublist (List.take_sublist _ _), ⟨fun b hb => ?_, h.sublist (List.drop_sublist _ _)⟩, fun a ha b hb => ?_⟩
  · obtain ⟨j, hj, rfl⟩ := List.mem_iff_getElem.1 hb
    rw [List.getElem_drop]
    rw [List.length_drop] at hj
    rw [En.norm_k]
    have h1 := h.after (key := e.k) (j := lo l e.k + (if hit l e.k then 1 else 0) + j) (by omega) (by omega)
    rcases bl_tri (l[lo l e.k + (if hit l e.k then 1 else 0) + j]'(by omega)).k e.k with h2 | h2 | h2
    · rw [h1] at h2; cases h2
    · exfalso
      cases hh : hit l e.k with
      | true =>
        have h3 := hit_iff.1 hh
        have h4 := h.lt (i := lo l e.k) (j := lo l e.k + (if hit l e.k then 1 else 0) + j) (by omega) (by rw [hh]; simp; omega)
        rw [h2, h3.2, bl_same] at h4
        cases h4
      | false =>
        have hlt : lo l e.k < l.length := by omega
        have h5 : ¬ l[lo l e.k].k = e.k := fun e' => by rw [hit_iff.2 ⟨hlt, e'⟩] at hh; cases hh
        simp only [hh, Bool.false_eq_true, if_false, Nat.add_zero] at h2
        rcases Nat.eq_zero_or_pos j with h6 | h6
        · subst h6; exact h5 h2
        · have h4 := h.lt (i := lo l e.k) (j := lo l e.k + j) (by omega) (by omega)
          rw [h2, lo_at hlt] at h4
          cases h4
    · exact h2
  · obtain ⟨i, hi, rfl⟩ := List.mem_iff_getElem.1 ha
    rw [List.length_take] at hi
    have h1 : Op.bytesLess (l[i]'(by omega)).k e.k = true := lo_before (by omega) (by omega)
    rw [List.getElem_take]
    rcases List.mem_cons.1 hb with rfl | hb
    · rw [En.norm_k]; exact h1
    · obtain ⟨j, hj, rfl⟩ := List.mem_iff_getElem.1 hb
      rw [List.length_drop] at hj
      rw [List.getElem_drop]
      exact h.lt (by omega) (by omega)
/-- A key's entry. -/
def getE (l : List En) (key : List UInt8) : Option En := l.find? fun e => e.k == key
theorem getE_hit {l : List En} (h : Srt l) (key : List UInt8) : getE l key = if hit l key then l[lo l key]? else none := by
  unfold getE
  cases hh : hit l key with
  | true =>
    obtain ⟨h1, h2⟩ := hit_iff.1 hh
    rw [if_pos rfl, List.getElem?_eq_getElem h1, List.find?_eq_some_iff_getElem]
    refine ⟨by simpa using h2, lo l key, h1, rfl, fun j hj => ?_⟩
    have h3 := h.lt h1 hj
    simp only [Bool.not_eq_true', beq_eq_false_iff_ne, ne_eq]
    intro e
    rw [e, h2, bl_same] at h3
    cases h3
  | false =>
    rw [if_neg (by simp), List.find?_eq_none]
    intro x hx
    obtain ⟨j, hj, rfl⟩ := List.mem_iff_getElem.1 hx
    simp only [beq_iff_eq]
    intro e
    have h1 : lo l key = j := lo_spec (by omega) (fun t ht htj => by rw [← e]; exact h.lt hj htj) (fun _ => by rw [e]; exact bl_same _)
    have h2 : hit l key = true := hit_iff.2 ⟨by omega, by simp only [h1]; exact e⟩
    rw [h2] at hh
    cases hh
def wE (e : En) : Nat := e.k.length + e.v.length
def sizeE (l : List En) : Nat := (l.map wE).sum
theorem sizeE_append (a b : List En) : sizeE (a ++ b) = sizeE a + sizeE b := by unfold sizeE; simp
theorem sizeE_cons (e : En) (l : List En) : sizeE (e :: l) = wE e + sizeE l := by unfold sizeE; simp
theorem sizeE_take (l : List En) (i : Nat) (h : i < l.length) : sizeE (l.take (i + 1)) = sizeE (l.take i) + wE l[i] := by
  rw [List.take_succ_eq_append_getElem h, sizeE_append, sizeE_cons]; rfl
theorem sizeE_put_not {l : List En} {e : En} (h : hit l e.k = false) : sizeE (putE l e) = sizeE l + wE e.norm := by
  have h1 : sizeE l = sizeE (l.take (lo l e.k)) + sizeE (l.drop (lo l e.k)) := by rw [← sizeE_append, List.take_append_drop]
  rw [putE_not h, sizeE_append, sizeE_cons, h1]
  omega
theorem sizeE_put_hit {l : List En} {e : En} (h : hit l e.k = true) : sizeE (putE l e) + wE (l[lo l e.k]'(hit_iff.1 h).1) = sizeE l + wE e.norm := by
  have hl := (hit_iff.1 h).1
  have h1 : sizeE l = sizeE (l.take (lo l e.k)) + (wE l[lo l e.k] + sizeE (l.drop (lo l e.k + 1))) := by rw [← sizeE_cons, ← List.drop_eq_getElem_cons hl, ← sizeE_append, List.take_append_drop]
  have h2 : sizeE (putE l e) = sizeE (l.take (lo l e.k)) + (wE e.norm + sizeE (l.drop (lo l e.k + 1))) := by unfold putE; rw [h, if_pos rfl, sizeE_append, sizeE_cons]
  rw [h1, h2]
  omega
end Go.Proofs.YtaedmafmflohiaaDoor
namespace Go.Proofs
open Go.Shelf
def Tryd.lays213_ren : Go.Shelf.Ren := ⟨fun | 213 => 55 | 265 => 57 | n => n, fun | 9 => 9 | 3 => 3 | n => n, fun | n => n⟩
theorem Tryd.lays213 : Go.Proofs.Lays.n213 Tryd.prog Tryd.lays213_ren := {
  mixed := by kernel_rfl
  f213 := Tryd.func55.trans (congrArg some (by kernel_rfl))
  f265 := Tryd.func57.trans (congrArg some (by kernel_rfl))
  t3 := Tryd.underlying3
  a3 := Tryd.isAgg3
  z3 := Tryd.sizeOf3
  v3 := Tryd.zeroValue3
  t9 := Tryd.underlying9
  a9 := Tryd.isAgg9
  z9 := Tryd.sizeOf9
  v9 := Tryd.zeroValue9 }
open Go.RowKit in
/-- internal/bytealg.CompareString (what strings.Compare calls): IT RETURNS 'Lib.compareBytes a b'; the world is as it was. (LAID: no walk: one application.) -/
theorem Tryd.bytealg_CompareString (a b : ByteArray) (w : World) :
    Calls Tryd.prog 55 #[.string a, .string b] w fun e w' => e = .returned (.int .i64 (Lib.compareBytes a.data.toList b.data.toList)) ∧ w' = w := Any.bytealg_CompareString Tryd.lays213 a b w
def Tryd.lays106_ren : Go.Shelf.Ren := ⟨fun | 106 => 53 | 213 => 55 | 265 => 57 | n => n, fun | 9 => 9 | 3 => 3 | n => n, fun | n => n⟩
theorem Tryd.lays106 : Go.Proofs.Lays.n106 Tryd.prog Tryd.lays106_ren := {
  mixed := by kernel_rfl
  f106 := Tryd.func53.trans (congrArg some (by kernel_rfl))
  f213 := Tryd.func55.trans (congrArg some (by kernel_rfl))
  f265 := Tryd.func57.trans (congrArg some (by kernel_rfl))
  t3 := Tryd.underlying3
  a3 := Tryd.isAgg3
  z3 := Tryd.sizeOf3
  v3 := Tryd.zeroValue3
  t9 := Tryd.underlying9
  a9 := Tryd.isAgg9
  z9 := Tryd.sizeOf9
  v9 := Tryd.zeroValue9 }
open Go.RowKit in
/-- strings.Compare: "Compare returns an integer comparing two strings lexicographically. The result will be 0 if a == b, -1 if a < b, and +1 if a > b.": IT RETURNS 'Lib.compareBytes a b'; the world is as it was. (LAID: no walk: one application.) -/
theorem Tryd.strings_Compare (a b : ByteArray) (w : World) :
    Calls Tryd.prog 53 #[.string a, .string b] w fun e w' => e = .returned (.int .i64 (Lib.compareBytes a.data.toList b.data.toList)) ∧ w' = w := Any.strings_Compare Tryd.lays106 a b w
def Tryd.lays215_ren : Go.Shelf.Ren := ⟨fun | 215 => 56 | n => n, fun | 3 => 3 | 4 => 4 | n => n, fun | n => n⟩
theorem Tryd.lays215 : Go.Proofs.Lays.n215 Tryd.prog Tryd.lays215_ren := {
  mixed := by kernel_rfl
  f215 := Tryd.func56.trans (congrArg some (by kernel_rfl))
  t3 := Tryd.underlying3
  a3 := Tryd.isAgg3
  z3 := Tryd.sizeOf3
  v3 := Tryd.zeroValue3
  t4 := Tryd.underlying4
  a4 := Tryd.isAgg4
  z4 := Tryd.sizeOf4
  v4 := Tryd.zeroValue4 }
open Go.RowKit in
/-- cmp.isNaN at int: 'x != x': false. (LAID: no walk: one application.) -/
theorem Tryd.cmp_isNaN_int (x : Int) (w : World) :
    Calls Tryd.prog 56 #[.int .i64 x] w fun e w' => e = .returned (.bool false) ∧ w' = w := Any.cmp_isNaN_int Tryd.lays215 x w
def Tryd.lays122_ren : Go.Shelf.Ren := ⟨fun | 122 => 54 | 215 => 56 | n => n, fun | 3 => 3 | 4 => 4 | n => n, fun | n => n⟩
theorem Tryd.lays122 : Go.Proofs.Lays.n122 Tryd.prog Tryd.lays122_ren := {
  mixed := by kernel_rfl
  f122 := Tryd.func54.trans (congrArg some (by kernel_rfl))
  f215 := Tryd.func56.trans (congrArg some (by kernel_rfl))
  t3 := Tryd.underlying3
  a3 := Tryd.isAgg3
  z3 := Tryd.sizeOf3
  v3 := Tryd.zeroValue3
  t4 := Tryd.underlying4
  a4 := Tryd.isAgg4
  z4 := Tryd.sizeOf4
  v4 := Tryd.zeroValue4 }
open Go.RowKit in
/-- cmp.Compare at int: "Compare returns -1 if x is less than y, 0 if x equals y, +1 if x is greater than y.": IT RETURNS 'Lib.compareInt x y'; the world is as it was. (LAID: no walk: one application.) -/
theorem Tryd.cmp_Compare_int (x y : Int) (w : World) :
    Calls Tryd.prog 54 #[.int .i64 x, .int .i64 y] w fun e w' => e = .returned (.int .i64 (Lib.compareInt x y)) ∧ w' = w := Any.cmp_Compare_int Tryd.lays122 x y w
def Tryd.laysNm237_ren : Go.Shelf.Ren := ⟨fun | 37 => 56 | n => n, fun | 3 => 3 | 4 => 4 | n => n, fun | n => n⟩
theorem Tryd.laysNm237 : Go.Proofs.Lays2.n37 Tryd.prog Tryd.laysNm237_ren := {
  mixed := by kernel_rfl
  f37 := Tryd.func56.trans (congrArg some (by kernel_rfl))
  t3 := Tryd.underlying3
  a3 := Tryd.isAgg3
  z3 := Tryd.sizeOf3
  v3 := Tryd.zeroValue3
  t4 := Tryd.underlying4
  a4 := Tryd.isAgg4
  z4 := Tryd.sizeOf4
  v4 := Tryd.zeroValue4 }
open Go.RowKit Go.Lib in
/-- cmp.isNaN[int]: 'x != x': false. (LAID: no walk: one application.) -/
theorem Tryd.cmp_isNaN_int2 (x : Int) (w : World) :
    Calls Tryd.prog 56 #[.int .i64 x] w fun e w' => e = .returned (.bool false) ∧ w' = w := Any.cmp_isNaN_int2 Tryd.laysNm237 x w
end Go.Proofs
namespace Go.Proofs.YtaedmafmflohiaaDoor
open Go.RowKit

/-- Where a part begins: m is where its room ends. -/
def secA (A : Option Addr) (l m size : Nat) : Option Addr := if m = l then A else A.map (·.add (l * size))
theorem secA_block {A : Option Addr} {l m size : Nat} {a : Addr} (h : secA A l m size = some a) : ∃ b, A = some b ∧ a.block = b.block := by
  unfold secA at h
  split at h
  · exact ⟨a, h, rfl⟩
  · cases A with
    | none => cases h
    | some b => simp at h; exact ⟨b, rfl, by rw [← h, add_block]⟩
theorem secA_zero (A : Option Addr) (m size : Nat) : secA A 0 m size = A := by
  unfold secA
  split
  · rfl
  · cases A <;> simp [Addr.add]
theorem secA_none (l m size : Nat) : secA none l m size = none := by unfold secA; split <;> rfl
theorem Rd.sec {w : World} {A : Option Addr} {n size : Nat} {xs : List Value} (h : Rd w A n size xs) (l k m : Nat) (hk : l + k ≤ n) (hm : l + k ≤ m) : Rd w (secA A l m size) k size ((xs.drop (l * size)).take (k * size)) :=
  h.part l k hk (fun h0 ad e => by unfold secA; rw [if_neg (by omega), e]; rfl)
theorem RdB.sec {w : World} {A : Option Addr} {xs : List UInt8} (h : RdB w A xs) (l k m : Nat) (hk : l + k ≤ xs.length) (hm : l + k ≤ m) : RdB w (secA A l m 1) ((xs.drop l).take k) :=
  h.part l k hk (fun h0 ad e => by unfold secA; rw [if_neg (by omega), e]; simp)
theorem RdB.tail {w : World} {A : Option Addr} {xs : List UInt8} (h : RdB w A xs) (l m : Nat) (hk : l ≤ xs.length) (hm : xs.length ≤ m) : RdB w (secA A l m 1) (xs.drop l) := by
  have := h.sec l (xs.length - l) m (by omega) (by omega)
  rwa [List.take_of_length_le (by simp)] at this
theorem RdB.head {w : World} {A : Option Addr} {xs : List UInt8} (h : RdB w A xs) (k : Nat) (hk : k ≤ xs.length) : RdB w A (xs.take k) := by
  have := h.sec 0 k k (by omega) (by omega)
  rwa [secA_zero, List.drop_zero] at this

section
variable {P : Program} {w : World} {ops : Array Oper} {rest : List Oper} {o : Oper} {a : Act} {Q : Exit → Act → World → Prop}
theorem run_sliceBound (i : Int) (k : IntKind) (y : Nat) (code : BoundsCode) (w : World) (h0 : 0 ≤ i) (h1 : i ≤ y) : (Instr.sliceBound (.int k i) y code).run P w = .ok i.toNat w := by
  unfold Instr.sliceBound
  simp [asIntOf, h0, h1]
/-- A bound, as it stands in the text: none, or a number. -/
def Bnd (a : Act) (x : Option Operand) (d : Nat) (n : Nat) : Prop := (x = none ∧ n = d) ∨ ∃ y k, x = some y ∧ a.eval y = .int k (n : Int)
theorem Bnd.no {a : Act} {d : Nat} : Bnd a none d d := .inl ⟨rfl, rfl⟩
theorem Bnd.at_ {a : Act} {y : Operand} {d n : Nat} {k : IntKind} (h : a.eval y = .int k (n : Int)) : Bnd a (some y) d n := .inr ⟨y, k, rfl, h⟩
theorem run_slice_sec {t e : TypeId} {size : Nat} (ht : P.underlying t = some (.slice e)) (hi : (P.info? e).map (·.size) = some size) (lo hi' mx : Option Operand) (A : Option Addr) (len cap l h m : Nat)
    (hl : Bnd a lo 0 l) (hh : Bnd a hi' len h) (hm : Bnd a mx cap m) (h1 : l ≤ h) (h2 : h ≤ m) (h3 : m ≤ cap) (h4 : hi' = none → mx = none) :
    (Instr.slice t (.slice A len cap) (lo.map a.eval) (hi'.map a.eval) (mx.map a.eval)).run P w = .ok (.slice (secA A l m size) (h - l) (m - l)) w := by
  cases hq : P.info? e with
  | none => rw [hq] at hi; cases hi
  | some i =>
    have hs : i.size = size := by rw [hq] at hi; simpa using hi
    have bl : ∀ k code, (Instr.sliceBound (.int k (l : Int)) h code).run P w = .ok l w := fun k code => by simpa using run_sliceBound (P := P) (l : Int) k h code w (by omega) (by omega)
    have bh : ∀ k code, (Instr.sliceBound (.int k (h : Int)) m code).run P w = .ok h w := fun k code => by simpa using run_sliceBound (P := P) (h : Int) k m code w (by omega) (by omega)
    have bm : ∀ k code, (Instr.sliceBound (.int k (m : Int)) cap code).run P w = .ok m w := fun k code => by simpa using run_sliceBound (P := P) (m : Int) k cap code w (by omega) (by omega)
    unfold Instr.slice Instr.sliceBounds
    simp only [Sem.run_bind, run_underlying ht, Result.andThen_ok]
    rcases hm with ⟨rfl, rfl⟩ | ⟨y3, k3, rfl, e3⟩
    · rcases hh with ⟨rfl, rfl⟩ | ⟨y2, k2, rfl, e2⟩
      · rcases hl with ⟨rfl, rfl⟩ | ⟨y1, k1, rfl, e1⟩
        · simp [sizeOf, typeInfo, hq, hs, secA]
        · simp [sizeOf, typeInfo, hq, hs, secA, e1, Sem.run_bind, bl]
      · rcases hl with ⟨rfl, rfl⟩ | ⟨y1, k1, rfl, e1⟩
        · simp [sizeOf, typeInfo, hq, hs, secA, e2, Sem.run_bind, bh]
        · simp [sizeOf, typeInfo, hq, hs, secA, e1, e2, Sem.run_bind, bh, bl]
    · rcases hh with ⟨rfl, rfl⟩ | ⟨y2, k2, rfl, e2⟩
      · exact absurd (h4 rfl) (by simp)
      · rcases hl with ⟨rfl, rfl⟩ | ⟨y1, k1, rfl, e1⟩
        · simp [sizeOf, typeInfo, hq, hs, secA, e2, e3, Sem.run_bind, bm, bh]
        · simp [sizeOf, typeInfo, hq, hs, secA, e1, e2, e3, Sem.run_bind, bm, bh, bl]
theorem wpList_sec (hgd : o.guard = none) (t : TypeId) (x : Operand) (lo hi' mx : Option Operand) (ho : o.op = .slice t x lo hi' mx) {e : TypeId} {size : Nat} (ht : P.underlying t = some (.slice e)) (hi : (P.info? e).map (·.size) = some size)
    (A : Option Addr) (len cap l h m : Nat) (hx : a.eval x = .slice A len cap) (hl : Bnd a lo 0 l) (hh : Bnd a hi' len h) (hm : Bnd a mx cap m) (h1 : l ≤ h) (h2 : h ≤ m) (h3 : m ≤ cap) (h4 : hi' = none → mx = none)
    (hn : wpList P ops Q rest (a.put o.dst (.slice (secA A l m size) (h - l) (m - l))) w) : wpList P ops Q (o :: rest) a w := by
  refine wpList_plain hgd fun K hK => ?_
  have hr := run_slice_sec (P := P) (w := w) (a := a) ht hi lo hi' mx A len cap l h m hl hh hm h1 h2 h3 h4
  have hsl : ∀ v lo hi mx, (Instr.sliceAt t v lo hi mx).run P w = (Instr.slice t v lo hi mx).run P w := fun v lo hi mx => by simp [Instr.sliceAt, run_underlying ht]
  unfold Oper.wp execOp
  simp only [ho, hx, Sem.run_bind, hsl, hr, Result.andThen_ok, Sem.run_pure]
  exact hK _ _ hn
/-- A part of an array behind a pointer. -/
theorem wpList_secArr (hgd : o.guard = none) (t : TypeId) (x : Operand) (lo hi' mx : Option Operand) (ho : o.op = .slice t x lo hi' mx) {e : TypeId} {n size : Nat} (ht : P.underlying t = some (.array n e)) (hi : (P.info? e).map (·.size) = some size)
    (ad : Addr) (l h m : Nat) (hx : a.eval x = .pointer (some ad)) (hl : Bnd a lo 0 l) (hh : Bnd a hi' n h) (hm : Bnd a mx n m) (h1 : l ≤ h) (h2 : h ≤ m) (h3 : m ≤ n) (h4 : hi' = none → mx = none)
    (hn : wpList P ops Q rest (a.put o.dst (.slice (secA (some ad) l m size) (h - l) (m - l))) w) : wpList P ops Q (o :: rest) a w := by
  refine wpList_plain hgd fun K hK => ?_
  have hr : (Instr.sliceAt t (.pointer (some ad)) (lo.map a.eval) (hi'.map a.eval) (mx.map a.eval)).run P w = .ok (.slice (secA (some ad) l m size) (h - l) (m - l)) w := by
    cases hq : P.info? e with
    | none => rw [hq] at hi; cases hi
    | some i =>
      have hs : i.size = size := by rw [hq] at hi; simpa using hi
      have bl : ∀ k code, (Instr.sliceBound (.int k (l : Int)) h code).run P w = .ok l w := fun k code => by simpa using run_sliceBound (P := P) (l : Int) k h code w (by omega) (by omega)
      have bh : ∀ k code, (Instr.sliceBound (.int k (h : Int)) m code).run P w = .ok h w := fun k code => by simpa using run_sliceBound (P := P) (h : Int) k m code w (by omega) (by omega)
      have bm : ∀ k code, (Instr.sliceBound (.int k (m : Int)) n code).run P w = .ok m w := fun k code => by simpa using run_sliceBound (P := P) (m : Int) k n code w (by omega) (by omega)
      unfold Instr.sliceAt Instr.sliceBounds
      simp only [Sem.run_bind, run_underlying ht, Result.andThen_ok, Instr.sureAddr, Sem.run_pure]
      rcases hm with ⟨rfl, rfl⟩ | ⟨y3, k3, rfl, e3⟩
      · rcases hh with ⟨rfl, rfl⟩ | ⟨y2, k2, rfl, e2⟩
        · rcases hl with ⟨rfl, rfl⟩ | ⟨y1, k1, rfl, e1⟩
          · simp [sizeOf, typeInfo, hq, hs]; try (unfold secA; split <;> simp_all)
          · simp [sizeOf, typeInfo, hq, hs, e1, Sem.run_bind, bl]; try (unfold secA; split <;> simp_all)
        · rcases hl with ⟨rfl, rfl⟩ | ⟨y1, k1, rfl, e1⟩
          · simp [sizeOf, typeInfo, hq, hs, e2, Sem.run_bind, bh]; try (unfold secA; split <;> simp_all)
          · simp [sizeOf, typeInfo, hq, hs, e1, e2, Sem.run_bind, bh, bl]; try (unfold secA; split <;> simp_all)
      · rcases hh with ⟨rfl, rfl⟩ | ⟨y2, k2, rfl, e2⟩
        · exact absurd (h4 rfl) (by simp)
        · rcases hl with ⟨rfl, rfl⟩ | ⟨y1, k1, rfl, e1⟩
          · simp [sizeOf, typeInfo, hq, hs, e2, e3, Sem.run_bind, bm, bh]; try (unfold secA; split <;> simp_all)
          · simp [sizeOf, typeInfo, hq, hs, e1, e2, e3, Sem.run_bind, bm, bh, bl]; try (unfold secA; split <;> simp_all)
  unfold Oper.wp execOp
  simp only [ho, hx, Sem.run_bind, hr, Result.andThen_ok, Sem.run_pure]
  exact hK _ _ hn
/-- The same in a region that draws its order. -/
theorem yieldsIf_sec {S : World → Prop} (hw : Region.wanted o (yielded ops a.tmps) = true) (t : TypeId) (x : Operand) (lo hi' mx : Option Operand) (ho : o.op = .slice t x lo hi' mx) {e : TypeId} {size : Nat} (ht : P.underlying t = some (.slice e)) (hi : (P.info? e).map (·.size) = some size)
    (A : Option Addr) (len cap l h m : Nat) (hx : a.eval x = .slice A len cap) (hl : Bnd a lo 0 l) (hh : Bnd a hi' len h) (hm : Bnd a mx cap m) (h1 : l ≤ h) (h2 : h ≤ m) (h3 : m ≤ cap) (h4 : hi' = none → mx = none)
    (v : Value) (hv : v = .slice (secA A l m size) (h - l) (m - l)) : YieldsIf P ops S o v a :=
  .inl ⟨hw, fun w _ => by
    subst hv
    have hr := run_slice_sec (P := P) (w := w) (a := a) ht hi lo hi' mx A len cap l h m hl hh hm h1 h2 h3 h4
    have hsl : ∀ v lo hi mx, (Instr.sliceAt t v lo hi mx).run P w = (Instr.slice t v lo hi mx).run P w := fun v lo hi mx => by simp [Instr.sliceAt, run_underlying ht]
    unfold execOp
    simp only [ho, hx, Sem.run_bind, hsl, hr, Result.andThen_ok, Sem.run_pure]⟩
theorem secA_some {g o l m size : Nat} (h : l < m) : secA (some ⟨g, o, none⟩) l m size = some ⟨g, o + l * size, none⟩ := by
  unfold secA
  rw [if_neg (by omega), Option.map_some, add_new]
end
end Go.Proofs.YtaedmafmflohiaaDoor
namespace Go.Proofs.YtaedmafmflohiaaDoor
open Go.RowKit
theorem wpList_appendV {P : Program} {w : World} {ops : Array Oper} {rest : List Oper} {o : Oper} {a : Act} {Q : Exit → Act → World → Prop} (hgd : o.guard = none) (s x : Operand) (t E : TypeId)
    (ho : o.op = .call { callee := .builtin .append, args := #[s, x], argTypes := #[t, t] }) (ht : P.underlying t = some (.slice E)) (z : Value) (size bytes : Nat)
    (hinfo : (P.info? E).map (fun i => (i.zero, i.size, i.bytes)) = some (some z, size, bytes)) (hzs : z.cells.size = size) (hsz : 0 < size)
    (A : Option Addr) (cv n : Nat) (xs : List Value) (hs : a.eval s = .slice A n cv) (hown : w.ownsRow 0 E size (.slice A n cv) n xs)
    (A2 : Option Addr) (m c : Nat) (news : List Value) (hx : a.eval x = .slice A2 m c) (hr : Rd w A2 m size news) (h1 : ∀ u ∈ news, u.oneCell' = true) (h63 : n + m ≤ maxLen) (hb : (n + m) * bytes ≤ 140737488355328)
    (h : ∀ A' c' w', w'.ownsRow 0 E size (.slice A' (n + m) c') (n + m) (xs ++ news) → Keeps (blk A) w w' → (∀ a, A' = some a → a.block ∈ blk A ∨ w.heap.size ≤ a.block) → wpList P ops Q rest (a.put o.dst (.slice A' (n + m) c')) w') :
    wpList P ops Q (o :: rest) a w := by
  refine wpList_plain hgd fun K hK => ?_
  obtain ⟨A', c', w', hrun, h2, h3, h4⟩ := run_append_rd (P := P) w t o.type E z size bytes ht hinfo hzs hsz A n cv xs hown A2 m c news hr h1 h63 hb
  unfold Oper.wp execOp
  simp only [ho, resolve, invoke, builtin, Sem.run_bind, Sem.run_pure, Result.andThen_ok, List.map_toArray, List.map_cons, List.map_nil, hs, hx, hrun]
  exact hK _ _ (h A' c' w' h2 h3 h4)
/-- The same at an operation of its own. -/
theorem op_appendV {P : Program} {w : World} {o : Oper} {a : Act} {K : Act → World → Prop} {Q : Exit → Act → World → Prop} (s x : Operand) (t E : TypeId)
    (ho : o.op = .call { callee := .builtin .append, args := #[s, x], argTypes := #[t, t] }) (ht : P.underlying t = some (.slice E)) (z : Value) (size bytes : Nat)
    (hinfo : (P.info? E).map (fun i => (i.zero, i.size, i.bytes)) = some (some z, size, bytes)) (hzs : z.cells.size = size) (hsz : 0 < size)
    (A : Option Addr) (cv n : Nat) (xs : List Value) (hs : a.eval s = .slice A n cv) (hown : w.ownsRow 0 E size (.slice A n cv) n xs)
    (A2 : Option Addr) (m c : Nat) (news : List Value) (hx : a.eval x = .slice A2 m c) (hr : Rd w A2 m size news) (h1 : ∀ u ∈ news, u.oneCell' = true) (h63 : n + m ≤ maxLen) (hb : (n + m) * bytes ≤ 140737488355328)
    (h : ∀ A' c' w', w'.ownsRow 0 E size (.slice A' (n + m) c') (n + m) (xs ++ news) → Keeps (blk A) w w' → (∀ a, A' = some a → a.block ∈ blk A ∨ w.heap.size ≤ a.block) → K (a.put o.dst (.slice A' (n + m) c')) w') :
    o.wp P a w K Q := by
  obtain ⟨A', c', w', hrun, h2, h3, h4⟩ := run_append_rd (P := P) w t o.type E z size bytes ht hinfo hzs hsz A n cv xs hown A2 m c news hr h1 h63 hb
  unfold Oper.wp execOp
  simp only [ho, resolve, invoke, builtin, Sem.run_bind, Sem.run_pure, Result.andThen_ok, List.map_toArray, List.map_cons, List.map_nil, hs, hx, hrun]
  exact h A' c' w' h2 h3 h4
end Go.Proofs.YtaedmafmflohiaaDoor
namespace Go.Proofs.YtaedmafmflohiaaDoor
open Go.RowKit

theorem infoEn : (Tryd.prog.info? 39).map (fun i => (i.zero, i.size, i.bytes)) = some (some (.agg #[.string ByteArray.empty, .string ByteArray.empty, .bool false]), 3, 40) := by kernel_rfl
theorem infoEn3 : (Tryd.prog.info? 39).map (·.size) = some 3 := by kernel_rfl
def En.val (e : En) : Value := .agg #[.string (strB e.k), .string (strB e.v), .bool e.g]
/-- The cells of an entry in a row. -/
theorem en_cells {w : World} {A : Option Addr} {n : Nat} {l : List En} (h : Rd w A n 3 (encEn l)) {i : Nat} (hi : i < l.length) :
    ∃ g o, A = some ⟨g, o, none⟩ ∧ w.cell? ⟨g, o + i * 3, none⟩ = some (.string (strB l[i].k)) ∧ w.cell? ⟨g, o + i * 3 + 1, none⟩ = some (.string (strB l[i].v)) ∧ w.cell? ⟨g, o + i * 3 + 2, none⟩ = some (.bool l[i].g) := by
  have hl := encEn_len l
  obtain ⟨g, o, ha, hc⟩ := h.form (by omega)
  refine ⟨g, o, ha, ?_, ?_, ?_⟩
  · exact hc _ _ (by rw [Nat.mul_comm, ← Nat.add_zero (3 * i), encEn_get l i hi 0 (by decide)]; rfl)
  · rw [Nat.add_assoc]; exact hc _ _ (by rw [Nat.mul_comm, encEn_get l i hi 1 (by decide)]; rfl)
  · rw [Nat.add_assoc]; exact hc _ _ (by rw [Nat.mul_comm, encEn_get l i hi 2 (by decide)]; rfl)
end Go.Proofs.YtaedmafmflohiaaDoor
