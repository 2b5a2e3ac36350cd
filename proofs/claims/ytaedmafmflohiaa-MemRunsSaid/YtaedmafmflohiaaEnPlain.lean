/- Entries in order of their keys: plain lists. No program is named here. -/
import Derived.Test.YtaedmafmflohiaaStr
import Derived.Lib.Bytealg
namespace Go.Proofs.Ytaedmafmflohiaa
open Go.RowKit

/-- An entry: key, value, whether it is gone. -/
structure En where
  k : List UInt8
  v : List UInt8
  g : Bool
theorem En.ext' {a b : En} (h1 : a.k = b.k) (h2 : a.v = b.v) (h3 : a.g = b.g) : a = b := by
  cases a; cases b; simp at h1 h2 h3; simp [h1, h2, h3]
def En.cells (e : En) : List Value := [.string (strB e.k), .string (strB e.v), .bool e.g]
@[simp] theorem En.cells_len (e : En) : e.cells.length = 3 := rfl
def encEn (l : List En) : List Value := l.flatMap En.cells
theorem encEn_len (l : List En) : (encEn l).length = 3 * l.length := by
  unfold encEn
  induction l with
  | nil => rfl
  | cons e l ih => rw [List.flatMap_cons, List.length_append, ih, En.cells_len, List.length_cons]; omega
theorem encEn_append (a b : List En) : encEn (a ++ b) = encEn a ++ encEn b := List.flatMap_append
theorem encEn_cons (e : En) (l : List En) : encEn (e :: l) = e.cells ++ encEn l := rfl
theorem encEn_take (l : List En) (i : Nat) : (encEn l).take (3 * i) = encEn (l.take i) := by
  induction l generalizing i with
  | nil => simp [encEn]
  | cons e l ih =>
    cases i with
    | zero => simp [encEn]
    | succ i =>
      rw [encEn_cons, List.take_succ_cons, encEn_cons, List.take_append, En.cells_len, show 3 * (i + 1) - 3 = 3 * i by omega, ih, List.take_of_length_le (by simp; omega)]
theorem encEn_drop (l : List En) (i : Nat) : (encEn l).drop (3 * i) = encEn (l.drop i) := by
  induction l generalizing i with
  | nil => simp [encEn]
  | cons e l ih =>
    cases i with
    | zero => simp [encEn]
    | succ i =>
      rw [encEn_cons, List.drop_succ_cons, List.drop_append, En.cells_len, show 3 * (i + 1) - 3 = 3 * i by omega, ih, List.drop_of_length_le (by simp; omega)]
      rfl
theorem encEn_get (l : List En) (i : Nat) (h : i < l.length) (j : Nat) (hj : j < 3) : (encEn l)[3 * i + j]? = l[i].cells[j]? := by
  have h1 : (encEn l).drop (3 * i) = l[i].cells ++ encEn (l.drop (i + 1)) := by
    rw [encEn_drop, List.drop_eq_getElem_cons h, encEn_cons]
  rw [← List.getElem?_drop, h1, List.getElem?_append_left (by simpa using hj)]
theorem encEn_one (l : List En) : ∀ u ∈ encEn l, u.oneCell' = true := by
  intro u hu
  unfold encEn at hu
  obtain ⟨e, _, he⟩ := List.mem_flatMap.1 hu
  simp [En.cells] at he
  rcases he with rfl | rfl | rfl <;> rfl
theorem encEn_set (l : List En) (i : Nat) (h : i < l.length) (e : En) : (encEn l).take (3 * i) ++ e.cells ++ (encEn l).drop (3 * i + 3) = encEn (l.set i e) := by
  rw [encEn_take, show 3 * i + 3 = 3 * (i + 1) by omega, encEn_drop, List.set_eq_take_append_cons_drop, if_pos h, encEn_append, encEn_cons, List.append_assoc]

/-! ## The order of keys -/
theorem bl_same : ∀ x : List UInt8, Op.bytesLess x x = false
  | [] => rfl
  | a :: x => by unfold Op.bytesLess; simp [bl_same x]
theorem bl_trans : ∀ {x y z : List UInt8}, Op.bytesLess x y = true → Op.bytesLess y z = true → Op.bytesLess x z = true
  | _, [], _, h, _ => by simp [Op.bytesLess] at h
  | _, _ :: _, [], _, h => by simp [Op.bytesLess] at h
  | [], _ :: _, _ :: _, _, _ => rfl
  | a :: x, b :: y, c :: z, h1, h2 => by
    unfold Op.bytesLess at h1 h2 ⊢
    simp only [Bool.or_eq_true, decide_eq_true_eq, Bool.and_eq_true, beq_iff_eq] at h1 h2 ⊢
    rcases h1 with h1 | ⟨rfl, h1⟩
    · rcases h2 with h2 | ⟨rfl, h2⟩
      · exact .inl (UInt8.lt_trans h1 h2)
      · exact .inl h1
    · rcases h2 with h2 | ⟨rfl, h2⟩
      · exact .inl h2
      · exact .inr ⟨rfl, bl_trans h1 h2⟩
theorem bl_tri : ∀ (x y : List UInt8), Op.bytesLess x y = true ∨ x = y ∨ Op.bytesLess y x = true
  | [], [] => .inr (.inl rfl)
  | [], _ :: _ => .inl rfl
  | _ :: _, [] => .inr (.inr rfl)
  | a :: x, b :: y => by
    unfold Op.bytesLess
    simp only [Bool.or_eq_true, decide_eq_true_eq, Bool.and_eq_true, beq_iff_eq, List.cons.injEq]
    by_cases h1 : a < b
    · exact .inl (.inl h1)
    · by_cases h2 : b < a
      · exact .inr (.inr (.inl h2))
      · obtain rfl : a = b := UInt8.le_antisymm (UInt8.not_lt.1 h2) (UInt8.not_lt.1 h1)
        rcases bl_tri x y with h | rfl | h
        · exact .inl (.inr ⟨rfl, h⟩)
        · exact .inr (.inl ⟨rfl, rfl⟩)
        · exact .inr (.inr (.inr ⟨rfl, h⟩))
theorem bl_not_both {x y : List UInt8} (h1 : Op.bytesLess x y = true) (h2 : Op.bytesLess y x = true) : False := by
  have := bl_trans h1 h2
  rw [bl_same] at this
  cases this
theorem bl_nil (x : List UInt8) : Op.bytesLess x [] = false := by cases x <;> rfl
theorem cmp_is : ∀ (x y : List UInt8), Lib.compareBytes x y = if Op.bytesLess x y then -1 else if x = y then 0 else 1
  | [], [] => rfl
  | [], _ :: _ => rfl
  | _ :: _, [] => rfl
  | a :: x, b :: y => by
    unfold Lib.compareBytes Op.bytesLess
    rw [cmp_is x y]
    by_cases h1 : a < b
    · simp [h1]
    · by_cases h2 : b < a
      · have h3 : ¬ a = b := fun e => by subst e; exact h1 h2
        simp [h1, h2, h3]
      · obtain rfl : a = b := UInt8.le_antisymm (UInt8.not_lt.1 h2) (UInt8.not_lt.1 h1)
        simp [h1]
theorem cmp_lt (x y : List UInt8) : Lib.compareBytes x y < 0 ↔ Op.bytesLess x y = true := by
  rw [cmp_is]
  cases Op.bytesLess x y
  · simp; split <;> omega
  · simp
theorem cmp_eq0 (x y : List UInt8) : Lib.compareBytes x y = 0 ↔ x = y := by
  rw [cmp_is]
  by_cases h : x = y
  · subst h; simp [bl_same]
  · simp only [if_neg h]
    cases Op.bytesLess x y <;> simp [h]

/-! ## Rows in order -/
def Srt (l : List En) : Prop := l.Pairwise fun a b => Op.bytesLess a.k b.k = true
/-- Where a key is, or would be. -/
def lo (l : List En) (key : List UInt8) : Nat := (l.takeWhile fun e => Op.bytesLess e.k key).length
def hit (l : List En) (key : List UInt8) : Bool := (l[lo l key]?).any fun e => e.k == key
theorem lo_le (l : List En) (key : List UInt8) : lo l key ≤ l.length := (List.takeWhile_prefix _).length_le
theorem lo_nil (key : List UInt8) : lo [] key = 0 := rfl
theorem lo_cons (e : En) (l : List En) (key : List UInt8) : lo (e :: l) key = if Op.bytesLess e.k key then lo l key + 1 else 0 := by
  unfold lo
  rw [List.takeWhile_cons]
  split <;> simp
theorem lo_spec {l : List En} {key : List UInt8} : ∀ {i : Nat}, i ≤ l.length → (∀ j (h : j < l.length), j < i → Op.bytesLess l[j].k key = true) → (∀ h : i < l.length, Op.bytesLess l[i].k key = false) → lo l key = i := by
  induction l with
  | nil => intro i h _ _; simp at h; subst h; rfl
  | cons e l ih =>
    intro i hi h1 h2
    rw [lo_cons]
    cases i with
    | zero =>
      have := h2 (by simp)
      simp at this
      rw [this]; rfl
    | succ i =>
      have := h1 0 (by simp) (by omega)
      simp at this
      rw [this, if_pos rfl, ih (by simpa using hi) (fun j h hj => by have := h1 (j + 1) (by simpa using h) (by omega); simpa using this) (fun h => by have := h2 (by simpa using h); simpa using this)]
theorem lo_before {l : List En} {key : List UInt8} {j : Nat} (h : j < l.length) (hj : j < lo l key) : Op.bytesLess l[j].k key = true := by
  induction l generalizing j with
  | nil => simp at h
  | cons e l ih =>
    rw [lo_cons] at hj
    split at hj
    · rename_i he
      cases j with
      | zero => exact he
      | succ j => have := ih (j := j) (by simpa using h) (by omega); simpa using this
    · omega
theorem lo_at {l : List En} {key : List UInt8} (h : lo l key < l.length) : Op.bytesLess l[lo l key].k key = false := by
  induction l with
  | nil => simp at h
  | cons e l ih =>
    by_cases he : Op.bytesLess e.k key = true
    · have e1 : lo (e :: l) key = lo l key + 1 := by rw [lo_cons, if_pos he]
      have := ih (by rw [e1] at h; simpa using h)
      simp only [e1, List.getElem_cons_succ]
      exact this
    · have e1 : lo (e :: l) key = 0 := by rw [lo_cons, if_neg he]
      simp only [e1, List.getElem_cons_zero]
      simpa using he
theorem Srt.lt {l : List En} (h : Srt l) {i j : Nat} (hj : j < l.length) (hij : i < j) : Op.bytesLess (l[i]'(by omega)).k l[j].k = true := List.pairwise_iff_getElem.1 h i j (by omega) hj hij
/-- In a row in order: ahead of the place keys are less, from it on they aren't. -/
theorem Srt.after {l : List En} (h : Srt l) {key : List UInt8} {j : Nat} (hj : j < l.length) (h1 : lo l key ≤ j) : Op.bytesLess l[j].k key = false := by
  have h2 := lo_at (l := l) (key := key) (by omega)
  rcases Nat.lt_or_ge (lo l key) j with h3 | h3
  · have h4 := h.lt hj h3
    cases hb : Op.bytesLess l[j].k key with
    | false => rfl
    | true => rw [bl_trans h4 hb] at h2; cases h2
  · have : j = lo l key := by omega
    subst this
    exact h2
theorem hit_iff {l : List En} {key : List UInt8} : hit l key = true ↔ ∃ h : lo l key < l.length, l[lo l key].k = key := by
  unfold hit
  by_cases h : lo l key < l.length
  · rw [List.getElem?_eq_getElem h]
    simp [h]
  · rw [List.getElem?_eq_none (by omega)]
    simp [h]
/-- An entry that is gone has no value. -/
def En.norm (e : En) : En := if e.g then ⟨e.k, [], true⟩ else e
theorem En.norm_k (e : En) : e.norm.k = e.k := by unfold En.norm; split <;> rfl
theorem En.norm_g (e : En) : e.norm.g = e.g := by unfold En.norm; split <;> simp_all
/-- An entry laid in. -/
def putE (l : List En) (e : En) : List En := l.take (lo l e.k) ++ e.norm :: l.drop (lo l e.k + if hit l e.k then 1 else 0)
theorem putE_hit {l : List En} {e : En} (h : hit l e.k = true) : putE l e = l.set (lo l e.k) e.norm := by
  unfold putE
  rw [h, if_pos rfl, List.set_eq_take_append_cons_drop, if_pos (hit_iff.1 h).1]
theorem putE_not {l : List En} {e : En} (h : hit l e.k = false) : putE l e = l.take (lo l e.k) ++ e.norm :: l.drop (lo l e.k) := by
  unfold putE
  rw [h]
  rfl
theorem putE_len (l : List En) (e : En) : (putE l e).length = l.length + if hit l e.k then 0 else 1 := by
  cases h : hit l e.k with
  | true => rw [putE_hit h]; simp
  | false =>
    rw [putE_not h, List.length_append, List.length_cons, List.length_take, List.length_drop]
    have := lo_le l e.k
    simp
    omega
theorem putE_srt {l : List En} (h : Srt l) (e : En) : Srt (putE l e) := by
  have hl := lo_le l e.k
  unfold putE Srt
  rw [List.pairwise_append, List.pairwise_cons]
  refine ⟨h.sublist (List.take_sublist _ _), ⟨fun b hb => ?_, h.sublist (List.drop_sublist _ _)⟩, fun a ha b hb => ?_⟩
  · obtain ⟨j, hj, rfl⟩ := List.mem_iff_getElem.1 hb
    rw [List.getElem_drop]
    rw [List.length_drop] at hj
    rw [En.norm_k]
    have h1 := h.after (key := e.k) (j := lo l e.k + (if hit l e.k then 1 else 0) + j) (by omega) (by omega)
    rcases bl_tri (l[lo l e.k + (if hit l e.k then 1 else 0) + j]'(by omega)).k e.k with h2 | h2 | h2
    · rw [h1] at h2; cases h2
    · exfalso
      cases hh : hit l e.k with
      | true =>
        have h3 := hit_iff.1 hh
        have h4 := h.lt (i := lo l e.k) (j := lo l e.k + (if hit l e.k then 1 else 0) + j) (by omega) (by rw [hh]; simp; omega)
        rw [h2, h3.2, bl_same] at h4
        cases h4
      | false =>
        have hlt : lo l e.k < l.length := by omega
        have h5 : ¬ l[lo l e.k].k = e.k := fun e' => by rw [hit_iff.2 ⟨hlt, e'⟩] at hh; cases hh
        simp only [hh, Bool.false_eq_true, if_false, Nat.add_zero] at h2
        rcases Nat.eq_zero_or_pos j with h6 | h6
        · subst h6; exact h5 h2
        · have h4 := h.lt (i := lo l e.k) (j := lo l e.k + j) (by omega) (by omega)
          rw [h2, lo_at hlt] at h4
          cases h4
    · exact h2
  · obtain ⟨i, hi, rfl⟩ := List.mem_iff_getElem.1 ha
    rw [List.length_take] at hi
    have h1 : Op.bytesLess (l[i]'(by omega)).k e.k = true := lo_before (by omega) (by omega)
    rw [List.getElem_take]
    rcases List.mem_cons.1 hb with rfl | hb
    · rw [En.norm_k]; exact h1
    · obtain ⟨j, hj, rfl⟩ := List.mem_iff_getElem.1 hb
      rw [List.length_drop] at hj
      rw [List.getElem_drop]
      exact h.lt (by omega) (by omega)
/-- A key's entry. -/
def getE (l : List En) (key : List UInt8) : Option En := l.find? fun e => e.k == key
theorem getE_hit {l : List En} (h : Srt l) (key : List UInt8) : getE l key = if hit l key then l[lo l key]? else none := by
  unfold getE
  cases hh : hit l key with
  | true =>
    obtain ⟨h1, h2⟩ := hit_iff.1 hh
    rw [if_pos rfl, List.getElem?_eq_getElem h1, List.find?_eq_some_iff_getElem]
    refine ⟨by simpa using h2, lo l key, h1, rfl, fun j hj => ?_⟩
    have h3 := h.lt h1 hj
    simp only [Bool.not_eq_true', beq_eq_false_iff_ne, ne_eq]
    intro e
    rw [e, h2, bl_same] at h3
    cases h3
  | false =>
    rw [if_neg (by simp), List.find?_eq_none]
    intro x hx
    obtain ⟨j, hj, rfl⟩ := List.mem_iff_getElem.1 hx
    simp only [beq_iff_eq]
    intro e
    have h1 : lo l key = j := lo_spec (by omega) (fun t ht htj => by rw [← e]; exact h.lt hj htj) (fun _ => by rw [e]; exact bl_same _)
    have h2 : hit l key = true := hit_iff.2 ⟨by omega, by simp only [h1]; exact e⟩
    rw [h2] at hh
    cases hh
def wE (e : En) : Nat := e.k.length + e.v.length
def sizeE (l : List En) : Nat := (l.map wE).sum
theorem sizeE_append (a b : List En) : sizeE (a ++ b) = sizeE a + sizeE b := by unfold sizeE; simp
theorem sizeE_cons (e : En) (l : List En) : sizeE (e :: l) = wE e + sizeE l := by unfold sizeE; simp
theorem sizeE_take (l : List En) (i : Nat) (h : i < l.length) : sizeE (l.take (i + 1)) = sizeE (l.take i) + wE l[i] := by
  rw [List.take_succ_eq_append_getElem h, sizeE_append, sizeE_cons]; rfl
theorem sizeE_put_not {l : List En} {e : En} (h : hit l e.k = false) : sizeE (putE l e) = sizeE l + wE e.norm := by
  have h1 : sizeE l = sizeE (l.take (lo l e.k)) + sizeE (l.drop (lo l e.k)) := by rw [← sizeE_append, List.take_append_drop]
  rw [putE_not h, sizeE_append, sizeE_cons, h1]
  omega
theorem sizeE_put_hit {l : List En} {e : En} (h : hit l e.k = true) : sizeE (putE l e) + wE (l[lo l e.k]'(hit_iff.1 h).1) = sizeE l + wE e.norm := by
  have hl := (hit_iff.1 h).1
  have h1 : sizeE l = sizeE (l.take (lo l e.k)) + (wE l[lo l e.k] + sizeE (l.drop (lo l e.k + 1))) := by rw [← sizeE_cons, ← List.drop_eq_getElem_cons hl, ← sizeE_append, List.take_append_drop]
  have h2 : sizeE (putE l e) = sizeE (l.take (lo l e.k)) + (wE e.norm + sizeE (l.drop (lo l e.k + 1))) := by unfold putE; rw [h, if_pos rfl, sizeE_append, sizeE_cons]
  rw [h1, h2]
  omega
end Go.Proofs.Ytaedmafmflohiaa
