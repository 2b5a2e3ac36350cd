/- The sum's inner working, as the program does it: lanes as numbers. No program is named here. -/
import Derived.Test.YtomleanoofoejaaDoorBase
import Derived.Laws.BitsAllLaws
namespace Go.Proofs.YtomleanoofoejaaDoor
open Go.RowKit

def two64 : Nat := 18446744073709551616
/-- Lanes as cells. -/
def encN (l : List Nat) : List Value := l.map fun (n : Nat) => .int .u64 (n : Int)
@[simp] theorem length_encN (l : List Nat) : (encN l).length = l.length := by simp [encN]
theorem encN_set (l : List Nat) (i n : Nat) : encN (l.set i n) = (encN l).set i (.int .u64 (n : Int)) := by simp [encN, List.map_set]
theorem encN_one (l : List Nat) : ∀ u ∈ encN l, u.oneCell' = true := by
  intro u hu
  simp [encN] at hu
  obtain ⟨c, _, rfl⟩ := hu
  rfl
def ln (l : List Nat) (i : Nat) : Nat := l.getD i 0
theorem encN_get (l : List Nat) (i : Nat) (h : i < l.length) : (encN l)[i]? = some (.int .u64 (ln l i : Int)) := by
  simp [encN, ln, List.getElem?_eq_getElem h]
theorem ln_set (l : List Nat) (i j n : Nat) : ln (l.set i n) j = if i = j ∧ j < l.length then n else ln l j := by
  unfold ln
  rw [List.getD_eq_getElem?_getD, List.getD_eq_getElem?_getD, List.getElem?_set]
  by_cases h : i = j
  · subst h
    by_cases h2 : i < l.length
    · simp [h2]
    · simp [h2]
  · simp [h]

/-- Turned by k. -/
def rotl (x k : Nat) : Nat := (x * 2 ^ (k % 64) % 18446744073709551616) ||| (x / 2 ^ (64 - k % 64))
theorem rotl_lt (x k : Nat) (hx : x < 18446744073709551616) : rotl x k < 18446744073709551616 := by
  unfold rotl
  have h1 : x * 2 ^ (k % 64) % 18446744073709551616 < 2 ^ 64 := Nat.mod_lt _ (by decide)
  have h2 : x / 2 ^ (64 - k % 64) < 2 ^ 64 := Nat.lt_of_le_of_lt (Nat.div_le_self _ _) hx
  exact Nat.or_lt_two_pow h1 h2
def andn (a b : Nat) : Nat := a &&& (18446744073709551615 - b)
theorem andn_lt (a b : Nat) (ha : a < 18446744073709551616) : andn a b < 18446744073709551616 := Nat.lt_of_le_of_lt Nat.and_le_left ha
theorem xor_lt (a b : Nat) (ha : a < 18446744073709551616) (hb : b < 18446744073709551616) : a ^^^ b < 18446744073709551616 := Nat.xor_lt_two_pow (n := 64) ha hb

/-- Lanes that are so many, each of 64 bits. -/
def Wf (n : Nat) (l : List Nat) : Prop := l.length = n ∧ ∀ i, ln l i < 18446744073709551616
theorem Wf.set {n : Nat} {l : List Nat} (h : Wf n l) (i v : Nat) (hv : v < 18446744073709551616) : Wf n (l.set i v) := by
  refine ⟨by rw [List.length_set]; exact h.1, fun j => ?_⟩
  rw [ln_set]
  split
  · exact hv
  · exact h.2 j
theorem Wf.zero (n : Nat) : Wf n (List.replicate n 0) := by
  refine ⟨by simp, fun i => ?_⟩
  unfold ln
  rw [List.getD_eq_getElem?_getD, List.getElem?_replicate]
  split <;> simp
theorem foldl_inv {α β : Type} {f : β → α → β} {P : β → Prop} : ∀ (l : List α) (b : β), P b → (∀ b a, a ∈ l → P b → P (f b a)) → P (l.foldl f b)
  | [], _, hb, _ => hb
  | a :: l, b, hb, h => foldl_inv l (f b a) (h b a (by simp) hb) (fun b a ha => h b a (by simp [ha]))
theorem foldl_range_succ {β : Type} (f : β → Nat → β) (b : β) (n : Nat) : (List.range (n + 1)).foldl f b = f ((List.range n).foldl f b) n := by rw [List.range_succ, List.foldl_append]; rfl

def colStep (L c : List Nat) (i : Nat) : List Nat := c.set (i % 5) (ln c (i % 5) ^^^ ln L i)
def colsTo (L : List Nat) (n : Nat) : List Nat := (List.range n).foldl (colStep L) (List.replicate 5 0)
def cols (L : List Nat) : List Nat := colsTo L 25
theorem colsTo_succ (L : List Nat) (n : Nat) : colsTo L (n + 1) = colStep L (colsTo L n) n := foldl_range_succ _ _ _
theorem Wf.colsTo {n : Nat} {L : List Nat} (h : Wf n L) (k : Nat) : Wf 5 (colsTo L k) :=
  foldl_inv _ _ (Wf.zero 5) (fun _ _ _ hb => hb.set _ _ (xor_lt _ _ (hb.2 _) (h.2 _)))
def thetaStep (c L : List Nat) (i : Nat) : List Nat := L.set i (ln L i ^^^ (ln c ((i + 4) % 5) ^^^ rotl (ln c ((i + 1) % 5)) 1))
def thetaTo (c L : List Nat) (n : Nat) : List Nat := (List.range n).foldl (thetaStep c) L
def theta (L : List Nat) : List Nat := thetaTo (cols L) L 25
theorem thetaTo_succ (c L : List Nat) (n : Nat) : thetaTo c L (n + 1) = thetaStep c (thetaTo c L n) n := foldl_range_succ _ _ _
theorem Wf.thetaTo {n : Nat} {c L : List Nat} (hc : Wf 5 c) (h : Wf n L) (k : Nat) : Wf n (thetaTo c L k) :=
  foldl_inv _ _ h (fun _ _ _ hb => hb.set _ _ (xor_lt _ _ (hb.2 _) (xor_lt _ _ (hc.2 _) (rotl_lt _ _ (hc.2 _)))))

/-- Where the walk is: x, y, the lane in the hand, the lanes. -/
structure Wk where
  x : Nat
  y : Nat
  lane : Nat
  L : List Nat
def wkStep (s : Wk) (t : Nat) : Wk := ⟨s.y, (2 * s.x + 3 * s.y) % 5, ln s.L (5 * ((2 * s.x + 3 * s.y) % 5) + s.y), s.L.set (5 * ((2 * s.x + 3 * s.y) % 5) + s.y) (rotl s.lane ((t + 1) * (t + 2) / 2))⟩
def wkTo (L : List Nat) (n : Nat) : Wk := (List.range n).foldl wkStep ⟨1, 0, ln L 1, L⟩
def rhoPi (L : List Nat) : List Nat := (wkTo L 24).L
theorem wkTo_succ (L : List Nat) (n : Nat) : wkTo L (n + 1) = wkStep (wkTo L n) n := foldl_range_succ _ _ _
structure Wk.Ok (s : Wk) : Prop where
  x : s.x < 5
  y : s.y < 5
  lane : s.lane < 18446744073709551616
  L : Wf 25 s.L
theorem Wk.ok {L : List Nat} (h : Wf 25 L) (n : Nat) : (wkTo L n).Ok :=
  foldl_inv _ _ ⟨by show 1 < 5; decide, by show 0 < 5; decide, h.2 _, h⟩ (fun _ _ _ hb => ⟨hb.y, Nat.mod_lt _ (by decide), hb.L.2 _, hb.L.set _ _ (rotl_lt _ _ hb.lane)⟩)

def rowStep (row : List Nat) (y : Nat) (L : List Nat) (x : Nat) : List Nat := L.set (y + x) (ln row x ^^^ andn (ln row ((x + 2) % 5)) (ln row ((x + 1) % 5)))
def rowTo (L : List Nat) (y n : Nat) : List Nat := (List.range n).foldl (rowStep ((L.drop y).take 5) y) L
def chiTo (L : List Nat) (n : Nat) : List Nat := (List.range n).foldl (fun L k => rowTo L (5 * k) 5) L
def chi (L : List Nat) : List Nat := chiTo L 5
theorem rowTo_succ (L : List Nat) (y n : Nat) : rowTo L y (n + 1) = rowStep ((L.drop y).take 5) y (rowTo L y n) n := foldl_range_succ _ _ _
theorem chiTo_succ (L : List Nat) (n : Nat) : chiTo L (n + 1) = rowTo (chiTo L n) (5 * n) 5 := foldl_range_succ _ _ _
theorem ln_part (L : List Nat) (y n i : Nat) : ln ((L.drop y).take n) i = if i < n then ln L (y + i) else 0 := by
  unfold ln
  rw [List.getD_eq_getElem?_getD, List.getElem?_take, List.getD_eq_getElem?_getD]
  split
  · rw [List.getElem?_drop]
  · rfl
theorem Wf.part {n : Nat} {L : List Nat} (h : Wf n L) (y k : Nat) (hk : y + k ≤ n) : Wf k ((L.drop y).take k) := by
  refine ⟨by simp [h.1]; omega, fun i => ?_⟩
  rw [ln_part]
  split
  · exact h.2 _
  · decide
theorem Wf.rowTo {L : List Nat} (h : Wf 25 L) (y n : Nat) (hy : y + 5 ≤ 25) : Wf 25 (rowTo L y n) :=
  foldl_inv _ _ h (fun _ _ _ hb => hb.set _ _ (xor_lt _ _ ((h.part y 5 hy).2 _) (andn_lt _ _ ((h.part y 5 hy).2 _))))
theorem Wf.chiTo {L : List Nat} (h : Wf 25 L) (n : Nat) (hn : n ≤ 5) : Wf 25 (chiTo L n) :=
  foldl_inv _ _ h (fun _ _ ha hb => hb.rowTo _ _ (by have := List.mem_range.1 ha; omega))

/-- The rounds' own numbers. -/
def rcs : List Nat := [0x0000000000000001, 0x0000000000008082, 0x800000000000808a, 0x8000000080008000, 0x000000000000808b, 0x0000000080000001, 0x8000000080008081, 0x8000000000008009, 0x000000000000008a, 0x0000000000000088, 0x0000000080008009, 0x000000008000000a,
  0x000000008000808b, 0x800000000000008b, 0x8000000000008089, 0x8000000000008003, 0x8000000000008002, 0x8000000000000080, 0x000000000000800a, 0x800000008000000a, 0x8000000080008081, 0x8000000000008080, 0x0000000080000001, 0x8000000080008008]
theorem rcs_wf : Wf 24 rcs := by
  refine ⟨rfl, fun i => ?_⟩
  by_cases h : i < 24
  · exact (by decide : ∀ i : Fin 24, ln rcs i.val < 18446744073709551616) ⟨i, h⟩
  · unfold ln
    rw [List.getD_eq_getElem?_getD, List.getElem?_eq_none (by show 24 ≤ i; omega)]
    decide
def iota (L : List Nat) (r : Nat) : List Nat := L.set 0 (ln L 0 ^^^ ln rcs r)
def roundK (L : List Nat) (r : Nat) : List Nat := iota (chi (rhoPi (theta L))) r
def turnTo (L : List Nat) (n : Nat) : List Nat := (List.range n).foldl roundK L
def turnK (L : List Nat) : List Nat := turnTo L 24
theorem turnTo_succ (L : List Nat) (n : Nat) : turnTo L (n + 1) = roundK (turnTo L n) n := foldl_range_succ _ _ _
theorem Wf.theta {L : List Nat} (h : Wf 25 L) : Wf 25 (theta L) := Wf.thetaTo (h.colsTo 25) h 25
theorem Wf.rhoPi {L : List Nat} (h : Wf 25 L) : Wf 25 (rhoPi L) := (Wk.ok h 24).L
theorem Wf.chi {L : List Nat} (h : Wf 25 L) : Wf 25 (chi L) := h.chiTo 5 (by decide)
theorem Wf.iota {L : List Nat} (h : Wf 25 L) (r : Nat) : Wf 25 (iota L r) := h.set _ _ (xor_lt _ _ (h.2 _) (rcs_wf.2 _))
theorem Wf.roundK {L : List Nat} (h : Wf 25 L) (r : Nat) : Wf 25 (roundK L r) := (((h.theta).rhoPi).chi).iota r
theorem Wf.turnTo {L : List Nat} (h : Wf 25 L) (n : Nat) : Wf 25 (turnTo L n) := foldl_inv _ _ h (fun _ a _ hb => hb.roundK a)
end Go.Proofs.YtomleanoofoejaaDoor
