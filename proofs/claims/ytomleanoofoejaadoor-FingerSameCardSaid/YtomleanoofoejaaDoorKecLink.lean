/- The document's rounds are the program's, lanes told the other way round. No program is named here. -/
import Derived.Test.YtomleanoofoejaaDoorKecRefP
import Derived.RowKit
namespace Go.Proofs.YtomleanoofoejaaDoor
open Go.RowKit

/-- Lane (x, y) at 5x + y. -/
def tr (L : List Nat) : List Nat := (List.range 25).map fun j => ln L (5 * (j % 5) + j / 5)
def thetaAltStep (c L : List Nat) (i : Nat) : List Nat := L.set i (ln L i ^^^ ln c ((i + 4) % 5) ^^^ rotl (ln c ((i + 1) % 5)) 1)
def thetaAlt (L : List Nat) : List Nat := (List.range 25).foldl (thetaAltStep (cols L)) L
theorem thetaAlt_eq (L : List Nat) : theta L = thetaAlt L := by
  unfold theta thetaTo thetaAlt
  have : thetaStep (cols L) = thetaAltStep (cols L) := by
    funext M i
    unfold thetaStep thetaAltStep
    rw [Nat.xor_assoc]
  rw [this]
theorem lanes_of {L : List Nat} (h : L.length = 25) : ∃ l0 l1 l2 l3 l4 l5 l6 l7 l8 l9 l10 l11 l12 l13 l14 l15 l16 l17 l18 l19 l20 l21 l22 l23 l24, L = [l0, l1, l2, l3, l4, l5, l6, l7, l8, l9, l10, l11, l12, l13, l14, l15, l16, l17, l18, l19, l20, l21, l22, l23, l24] := by
  match L, h with
  | [l0, l1, l2, l3, l4, l5, l6, l7, l8, l9, l10, l11, l12, l13, l14, l15, l16, l17, l18, l19, l20, l21, l22, l23, l24], _ => exact ⟨l0, l1, l2, l3, l4, l5, l6, l7, l8, l9, l10, l11, l12, l13, l14, l15, l16, l17, l18, l19, l20, l21, l22, l23, l24, rfl⟩
set_option maxRecDepth 1000000 in
theorem theta_link (l0 l1 l2 l3 l4 l5 l6 l7 l8 l9 l10 l11 l12 l13 l14 l15 l16 l17 l18 l19 l20 l21 l22 l23 l24 : Nat) : dthetaTo (dcolsTo (tr [l0, l1, l2, l3, l4, l5, l6, l7, l8, l9, l10, l11, l12, l13, l14, l15, l16, l17, l18, l19, l20, l21, l22, l23, l24]) 25) (tr [l0, l1, l2, l3, l4, l5, l6, l7, l8, l9, l10, l11, l12, l13, l14, l15, l16, l17, l18, l19, l20, l21, l22, l23, l24]) 25 = tr (thetaAlt [l0, l1, l2, l3, l4, l5, l6, l7, l8, l9, l10, l11, l12, l13, l14, l15, l16, l17, l18, l19, l20, l21, l22, l23, l24]) := by kernel_rfl
/-- Where the walk is behind so many steps: x, y. -/
def pos (n : Nat) : Nat × Nat := ([(1, 0), (0, 2), (2, 1), (1, 2), (2, 3), (3, 3), (3, 0), (0, 1), (1, 3), (3, 1), (1, 4), (4, 4), (4, 0), (0, 3), (3, 4), (4, 3), (3, 2), (2, 2), (2, 0), (0, 4), (4, 2), (2, 4), (4, 1), (1, 1), (1, 0)] : List (Nat × Nat)).getD n (0, 0)
theorem pos_succ : ∀ n, n < 24 → pos (n + 1) = ((pos n).2, (2 * (pos n).1 + 3 * (pos n).2) % 5) := by decide
def wsStep (L M : List Nat) (t : Nat) : List Nat := M.set (5 * (pos (t + 1)).2 + (pos (t + 1)).1) (rotl (ln L (5 * (pos t).2 + (pos t).1)) ((t + 1) * (t + 2) / 2))
def wsTo (L : List Nat) (n : Nat) : List Nat := (List.range n).foldl (wsStep L) L
theorem wsTo_succ (L : List Nat) (n : Nat) : wsTo L (n + 1) = wsStep L (wsTo L n) n := foldl_range_succ _ _ _
theorem pos_apart : ∀ n, n < 24 → ∀ t, t < n → 5 * (pos (t + 1)).2 + (pos (t + 1)).1 ≠ 5 * (pos (n + 1)).2 + (pos (n + 1)).1 := by decide
theorem wsTo_old (L : List Nat) (m : Nat) : ∀ n, (∀ t, t < n → 5 * (pos (t + 1)).2 + (pos (t + 1)).1 ≠ m) → ln (wsTo L n) m = ln L m
  | 0, _ => rfl
  | n + 1, h => by
    rw [wsTo_succ]
    unfold wsStep
    rw [ln_set, if_neg (fun e => h n (Nat.lt_succ_self n) e.1)]
    exact wsTo_old L m n (fun t ht => h t (Nat.lt_succ_of_lt ht))
theorem wkTo_is (L : List Nat) : ∀ n, n ≤ 24 → wkTo L n = ⟨(pos n).1, (pos n).2, ln L (5 * (pos n).2 + (pos n).1), wsTo L n⟩
  | 0, _ => rfl
  | n + 1, h => by
    rw [wkTo_succ, wkTo_is L n (by omega)]
    have ho := wsTo_old L (5 * (pos (n + 1)).2 + (pos (n + 1)).1) n (fun t ht => pos_apart n (by omega) t ht)
    have hp := pos_succ n (by omega)
    have e1 : (pos n).2 = (pos (n + 1)).1 := by rw [hp]
    have e2 : (2 * (pos n).1 + 3 * (pos n).2) % 5 = (pos (n + 1)).2 := by rw [hp]
    rw [wsTo_succ]
    unfold wkStep wsStep
    simp only [Wk.mk.injEq]
    refine ⟨e1, e2, ?_, ?_⟩
    · rw [e2, e1]; exact ho
    · rw [e2, e1]
def dwsStep (a M : List Nat) (t : Nat) : List Nat := M.set (5 * (pos (t + 1)).1 + (pos (t + 1)).2) (rotl (ln a (5 * (pos t).1 + (pos t).2)) ((t + 1) * (t + 2) / 2))
def dwsTo (a : List Nat) (n : Nat) : List Nat := (List.range n).foldl (dwsStep a) a
theorem dwsTo_succ (a : List Nat) (n : Nat) : dwsTo a (n + 1) = dwsStep a (dwsTo a n) n := foldl_range_succ _ _ _
theorem dwTo_is (a : List Nat) : ∀ n, n ≤ 24 → dwTo a n = ⟨(pos n).1, (pos n).2, dwsTo a n⟩
  | 0, _ => rfl
  | n + 1, h => by
    have hp := pos_succ n (by omega)
    have e1 : (pos n).2 = (pos (n + 1)).1 := by rw [hp]
    have e2 : (2 * (pos n).1 + 3 * (pos n).2) % 5 = (pos (n + 1)).2 := by rw [hp]
    rw [dwTo_succ, dwTo_is a n (by omega), dwsTo_succ]
    unfold dwStep dwsStep
    simp only [Dw.mk.injEq]
    exact ⟨e1, e2, by rw [e2, e1]⟩
theorem dwTo_b (a : List Nat) (n : Nat) (h : n ≤ 24) : (dwTo a n).b = dwsTo a n := by rw [dwTo_is a n h]
theorem wkTo_L (L : List Nat) (n : Nat) (h : n ≤ 24) : (wkTo L n).L = wsTo L n := by rw [wkTo_is L n h]
theorem rhoPi_is (L : List Nat) : rhoPi L = wsTo L 24 := wkTo_L L 24 (Nat.le_refl _)
set_option maxRecDepth 1000000 in
theorem walk_prog (l0 l1 l2 l3 l4 l5 l6 l7 l8 l9 l10 l11 l12 l13 l14 l15 l16 l17 l18 l19 l20 l21 l22 l23 l24 : Nat) : wsTo [l0, l1, l2, l3, l4, l5, l6, l7, l8, l9, l10, l11, l12, l13, l14, l15, l16, l17, l18, l19, l20, l21, l22, l23, l24] 24 = [l0, rotl l6 ((23 + 1) * (23 + 2) / 2), rotl l12 ((17 + 1) * (17 + 2) / 2), rotl l18 ((5 + 1) * (5 + 2) / 2), rotl l24 ((11 + 1) * (11 + 2) / 2), rotl l3 ((6 + 1) * (6 + 2) / 2), rotl l9 ((22 + 1) * (22 + 2) / 2), rotl l10 ((1 + 1) * (1 + 2) / 2), rotl l16 ((8 + 1) * (8 + 2) / 2), rotl l22 ((21 + 1) * (21 + 2) / 2), rotl l1 ((0 + 1) * (0 + 2) / 2), rotl l7 ((2 + 1) * (2 + 2) / 2), rotl l13 ((16 + 1) * (16 + 2) / 2), rotl l19 ((15 + 1) * (15 + 2) / 2), rotl l20 ((19 + 1) * (19 + 2) / 2), rotl l4 ((12 + 1) * (12 + 2) / 2), rotl l5 ((7 + 1) * (7 + 2) / 2), rotl l11 ((3 + 1) * (3 + 2) / 2), rotl l17 ((4 + 1) * (4 + 2) / 2), rotl l23 ((14 + 1) * (14 + 2) / 2), rotl l2 ((18 + 1) * (18 + 2) / 2), rotl l8 ((9 + 1) * (9 + 2) / 2), rotl l14 ((20 + 1) * (20 + 2) / 2), rotl l15 ((13 + 1) * (13 + 2) / 2), rotl l21 ((10 + 1) * (10 + 2) / 2)] := by kernel_rfl
set_option maxRecDepth 1000000 in
theorem walk_tr (l0 l1 l2 l3 l4 l5 l6 l7 l8 l9 l10 l11 l12 l13 l14 l15 l16 l17 l18 l19 l20 l21 l22 l23 l24 : Nat) : tr [l0, l1, l2, l3, l4, l5, l6, l7, l8, l9, l10, l11, l12, l13, l14, l15, l16, l17, l18, l19, l20, l21, l22, l23, l24] = [l0, l5, l10, l15, l20, l1, l6, l11, l16, l21, l2, l7, l12, l17, l22, l3, l8, l13, l18, l23, l4, l9, l14, l19, l24] := by kernel_rfl
set_option maxRecDepth 1000000 in
theorem walk_doc (l0 l1 l2 l3 l4 l5 l6 l7 l8 l9 l10 l11 l12 l13 l14 l15 l16 l17 l18 l19 l20 l21 l22 l23 l24 : Nat) : dwsTo [l0, l5, l10, l15, l20, l1, l6, l11, l16, l21, l2, l7, l12, l17, l22, l3, l8, l13, l18, l23, l4, l9, l14, l19, l24] 24 = [l0, rotl l3 ((6 + 1) * (6 + 2) / 2), rotl l1 ((0 + 1) * (0 + 2) / 2), rotl l4 ((12 + 1) * (12 + 2) / 2), rotl l2 ((18 + 1) * (18 + 2) / 2), rotl l6 ((23 + 1) * (23 + 2) / 2), rotl l9 ((22 + 1) * (22 + 2) / 2), rotl l7 ((2 + 1) * (2 + 2) / 2), rotl l5 ((7 + 1) * (7 + 2) / 2), rotl l8 ((9 + 1) * (9 + 2) / 2), rotl l12 ((17 + 1) * (17 + 2) / 2), rotl l10 ((1 + 1) * (1 + 2) / 2), rotl l13 ((16 + 1) * (16 + 2) / 2), rotl l11 ((3 + 1) * (3 + 2) / 2), rotl l14 ((20 + 1) * (20 + 2) / 2), rotl l18 ((5 + 1) * (5 + 2) / 2), rotl l16 ((8 + 1) * (8 + 2) / 2), rotl l19 ((15 + 1) * (15 + 2) / 2), rotl l17 ((4 + 1) * (4 + 2) / 2), rotl l15 ((13 + 1) * (13 + 2) / 2), rotl l24 ((11 + 1) * (11 + 2) / 2), rotl l22 ((21 + 1) * (21 + 2) / 2), rotl l20 ((19 + 1) * (19 + 2) / 2), rotl l23 ((14 + 1) * (14 + 2) / 2), rotl l21 ((10 + 1) * (10 + 2) / 2)] := by kernel_rfl
theorem walk_link0 (l0 l1 l2 l3 l4 l5 l6 l7 l8 l9 l10 l11 l12 l13 l14 l15 l16 l17 l18 l19 l20 l21 l22 l23 l24 : Nat) : dwsTo (tr [l0, l1, l2, l3, l4, l5, l6, l7, l8, l9, l10, l11, l12, l13, l14, l15, l16, l17, l18, l19, l20, l21, l22, l23, l24]) 24 = tr (wsTo [l0, l1, l2, l3, l4, l5, l6, l7, l8, l9, l10, l11, l12, l13, l14, l15, l16, l17, l18, l19, l20, l21, l22, l23, l24] 24) := by
  rw [walk_prog, walk_tr, walk_doc, walk_tr]
theorem walk_link (l0 l1 l2 l3 l4 l5 l6 l7 l8 l9 l10 l11 l12 l13 l14 l15 l16 l17 l18 l19 l20 l21 l22 l23 l24 : Nat) : (dwTo (tr [l0, l1, l2, l3, l4, l5, l6, l7, l8, l9, l10, l11, l12, l13, l14, l15, l16, l17, l18, l19, l20, l21, l22, l23, l24]) 24).b = tr (rhoPi [l0, l1, l2, l3, l4, l5, l6, l7, l8, l9, l10, l11, l12, l13, l14, l15, l16, l17, l18, l19, l20, l21, l22, l23, l24]) := by
  rw [dwTo_b _ 24 (Nat.le_refl _), rhoPi_is]
  exact walk_link0 l0 l1 l2 l3 l4 l5 l6 l7 l8 l9 l10 l11 l12 l13 l14 l15 l16 l17 l18 l19 l20 l21 l22 l23 l24
set_option maxRecDepth 1000000 in
theorem chi_link (l0 l1 l2 l3 l4 l5 l6 l7 l8 l9 l10 l11 l12 l13 l14 l15 l16 l17 l18 l19 l20 l21 l22 l23 l24 s0 s1 s2 s3 s4 s5 s6 s7 s8 s9 s10 s11 s12 s13 s14 s15 s16 s17 s18 s19 s20 s21 s22 s23 s24 : Nat) : dchiTo (tr [l0, l1, l2, l3, l4, l5, l6, l7, l8, l9, l10, l11, l12, l13, l14, l15, l16, l17, l18, l19, l20, l21, l22, l23, l24]) [s0, s1, s2, s3, s4, s5, s6, s7, s8, s9, s10, s11, s12, s13, s14, s15, s16, s17, s18, s19, s20, s21, s22, s23, s24] 25 = tr (chi [l0, l1, l2, l3, l4, l5, l6, l7, l8, l9, l10, l11, l12, l13, l14, l15, l16, l17, l18, l19, l20, l21, l22, l23, l24]) := by kernel_rfl
end Go.Proofs.YtomleanoofoejaaDoor
