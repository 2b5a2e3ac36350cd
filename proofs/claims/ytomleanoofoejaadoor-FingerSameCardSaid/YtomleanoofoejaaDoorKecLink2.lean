/- The rounds joined. No program is named here. -/
import Derived.Test.YtomleanoofoejaaDoorKecLink
namespace Go.Proofs.YtomleanoofoejaaDoor
attribute [local irreducible] rotl

def rcStep (s : Nat × Nat) (j : Nat) : Nat × Nat := (if s.2 % 2 = 1 then s.1 ^^^ rotl 1 (2 ^ j - 1) else s.1, rowNext s.2)
def rcTo (row n : Nat) : Nat × Nat := (List.range n).foldl rcStep (0, row)
theorem rcTo_succ (row n : Nat) : rcTo row (n + 1) = rcStep (rcTo row n) n := foldl_range_succ _ _ _
theorem set_ln (X : List Nat) : X.set 0 (ln X 0) = X := by
  cases X with
  | nil => rfl
  | cons a t => rfl
theorem diTo_is (X : List Nat) (hX : X.length = 25) (row : Nat) : ∀ n, diTo (X, row) n = (X.set 0 (ln X 0 ^^^ (rcTo row n).1), (rcTo row n).2)
  | 0 => by
    show (X, row) = (X.set 0 (ln X 0 ^^^ 0), row)
    rw [Nat.xor_zero, set_ln]
  | n + 1 => by
    rw [diTo_succ, diTo_is X hX row n, rcTo_succ]
    unfold diStep rcStep
    simp only
    split
    · rw [ln_set, if_pos ⟨rfl, by omega⟩, List.set_set, Nat.xor_assoc]
    · rfl
def rowSeq (r : Nat) : Nat := (List.range r).foldl (fun row _ => (rcTo row 7).2) 1
theorem rowSeq_succ (r : Nat) : rowSeq (r + 1) = (rcTo (rowSeq r) 7).2 := foldl_range_succ _ _ _
set_option maxRecDepth 10000000 in
theorem rc_all : ∀ r, r < 24 → (rcTo (rowSeq r) 7).1 = ln rcs r := by decide +kernel
theorem theta_tr {L : List Nat} (h : L.length = 25) : dthetaTo (dcolsTo (tr L) 25) (tr L) 25 = tr (theta L) := by
  obtain ⟨l0, l1, l2, l3, l4, l5, l6, l7, l8, l9, l10, l11, l12, l13, l14, l15, l16, l17, l18, l19, l20, l21, l22, l23, l24, rfl⟩ := lanes_of h
  rw [theta_link, thetaAlt_eq]
theorem walk_trL {L : List Nat} (h : L.length = 25) : (dwTo (tr L) 24).b = tr (rhoPi L) := by
  obtain ⟨l0, l1, l2, l3, l4, l5, l6, l7, l8, l9, l10, l11, l12, l13, l14, l15, l16, l17, l18, l19, l20, l21, l22, l23, l24, rfl⟩ := lanes_of h
  exact walk_link l0 l1 l2 l3 l4 l5 l6 l7 l8 l9 l10 l11 l12 l13 l14 l15 l16 l17 l18 l19 l20 l21 l22 l23 l24
theorem chi_tr {L S : List Nat} (h : L.length = 25) (hS : S.length = 25) : dchiTo (tr L) S 25 = tr (chi L) := by
  obtain ⟨l0, l1, l2, l3, l4, l5, l6, l7, l8, l9, l10, l11, l12, l13, l14, l15, l16, l17, l18, l19, l20, l21, l22, l23, l24, rfl⟩ := lanes_of h
  obtain ⟨s0, s1, s2, s3, s4, s5, s6, s7, s8, s9, s10, s11, s12, s13, s14, s15, s16, s17, s18, s19, s20, s21, s22, s23, s24, rfl⟩ := lanes_of hS
  exact chi_link l0 l1 l2 l3 l4 l5 l6 l7 l8 l9 l10 l11 l12 l13 l14 l15 l16 l17 l18 l19 l20 l21 l22 l23 l24 s0 s1 s2 s3 s4 s5 s6 s7 s8 s9 s10 s11 s12 s13 s14 s15 s16 s17 s18 s19 s20 s21 s22 s23 s24
theorem tr_len (L : List Nat) : (tr L).length = 25 := by simp [tr]
theorem tr_ln0 (L : List Nat) : ln (tr L) 0 = ln L 0 := rfl
theorem tr_set0 {L : List Nat} (h : L.length = 25) (x : Nat) : tr (L.set 0 x) = (tr L).set 0 x := by
  obtain ⟨l0, l1, l2, l3, l4, l5, l6, l7, l8, l9, l10, l11, l12, l13, l14, l15, l16, l17, l18, l19, l20, l21, l22, l23, l24, rfl⟩ := lanes_of h
  rfl
theorem dmid_tr {L : List Nat} (h : Wf 25 L) : dmid (tr L) = tr (rhoPi (theta L)) := by
  unfold dmid
  rw [theta_tr h.1, walk_trL h.theta.1]
theorem round_tr {L : List Nat} (h : Wf 25 L) (r : Nat) (hr : r < 24) (i : Nat) : dround (tr L, rowSeq r) i = (tr (roundK L r), rowSeq (r + 1)) := by
  unfold dround
  simp only
  rw [dmid_tr h, chi_tr h.theta.rhoPi.1 (tr_len L), diTo_is _ (tr_len _), rc_all r hr, ← rowSeq_succ]
  unfold roundK iota
  rw [tr_set0 h.theta.rhoPi.chi.1, tr_ln0]
theorem turn_tr {L : List Nat} (h : Wf 25 L) : ∀ n, n ≤ 24 → drTo (tr L) n = (tr (turnTo L n), rowSeq n)
  | 0, _ => rfl
  | n + 1, hn => by
    rw [drTo_succ, turn_tr h n (by omega), round_tr (h.turnTo n) n (by omega), turnTo_succ]
theorem rounds_tr {L : List Nat} (h : Wf 25 L) : (drTo (tr L) 24).1 = tr (turnK L) := by
  rw [turn_tr h 24 (Nat.le_refl _)]
  rfl
end Go.Proofs.YtomleanoofoejaaDoor
