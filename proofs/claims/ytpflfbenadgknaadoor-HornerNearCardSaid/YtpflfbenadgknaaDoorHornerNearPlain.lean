/- Texts that differ within three bytes that follow one another have unlike sums: plain numbers. -/
import Derived.Test.YtpflfbenadgknaaDoorHornerPlain
namespace Go.Proofs.YtpflfbenadgknaaDoor
open Go.RowKit

theorem hmore_inj (s : List UInt8) : ∀ (n m : Int), 0 ≤ n ∧ n < 2147483647 → 0 ≤ m ∧ m < 2147483647 → hmore n s = hmore m s → n = m := by
  induction s with
  | nil => intro n m _ _ h; exact h
  | cons c s ih =>
    intro n m hn hm h
    have := ih ((n * 257 + (c.toNat : Int)) % 2147483647) ((m * 257 + (c.toNat : Int)) % 2147483647) (by omega) (by omega) h
    omega
theorem hm1 (n : Int) (a b : UInt8) (h : hmore n [a] = hmore n [b]) : a = b := by
  have ha := a.toNat_lt
  have hb := b.toNat_lt
  have h' : (n * 257 + (a.toNat : Int)) % 2147483647 = (n * 257 + (b.toNat : Int)) % 2147483647 := h
  exact UInt8.toNat_inj.1 (by omega)
theorem hm2 (n : Int) (a b a' b' : UInt8) (h : hmore n [a, b] = hmore n [a', b']) : a = a' ∧ b = b' := by
  have ha := a.toNat_lt
  have hb := b.toNat_lt
  have ha' := a'.toNat_lt
  have hb' := b'.toNat_lt
  have h' : ((n * 257 + (a.toNat : Int)) % 2147483647 * 257 + (b.toNat : Int)) % 2147483647 = ((n * 257 + (a'.toNat : Int)) % 2147483647 * 257 + (b'.toNat : Int)) % 2147483647 := h
  have key : (a.toNat : Int) * 257 + b.toNat = (a'.toNat : Int) * 257 + b'.toNat := by omega
  exact ⟨UInt8.toNat_inj.1 (by omega), UInt8.toNat_inj.1 (by omega)⟩
theorem hm3 (n : Int) (a b c a' b' c' : UInt8) (h : hmore n [a, b, c] = hmore n [a', b', c']) : a = a' ∧ b = b' ∧ c = c' := by
  have ha := a.toNat_lt
  have hb := b.toNat_lt
  have hc := c.toNat_lt
  have ha' := a'.toNat_lt
  have hb' := b'.toNat_lt
  have hc' := c'.toNat_lt
  have h' : (((n * 257 + (a.toNat : Int)) % 2147483647 * 257 + (b.toNat : Int)) % 2147483647 * 257 + (c.toNat : Int)) % 2147483647 = (((n * 257 + (a'.toNat : Int)) % 2147483647 * 257 + (b'.toNat : Int)) % 2147483647 * 257 + (c'.toNat : Int)) % 2147483647 := h
  have key : ((a.toNat : Int) * 257 + b.toNat) * 257 + c.toNat = ((a'.toNat : Int) * 257 + b'.toNat) * 257 + c'.toNat := by omega
  exact ⟨UInt8.toNat_inj.1 (by omega), UInt8.toNat_inj.1 (by omega), UInt8.toNat_inj.1 (by omega)⟩

/-- At most three bytes, other ones at the same place. -/
theorem hmid (n : Int) (m m' : List UInt8) (h3 : m.length ≤ 3) (hl : m.length = m'.length) (h : hmore n m = hmore n m') : m = m' := by
  match m, m', h3, hl with
  | [], [], _, _ => rfl
  | [a], [a'], _, _ => rw [hm1 n a a' h]
  | [a, b], [a', b'], _, _ => obtain ⟨rfl, rfl⟩ := hm2 n a b a' b' h; rfl
  | [a, b, c], [a', b', c'], _, _ => obtain ⟨rfl, rfl, rfl⟩ := hm3 n a b c a' b' c' h; rfl
  | _ :: _ :: _ :: _ :: _, _, h3, _ => simp at h3
theorem hnear (p m m' s : List UInt8) (h3 : m.length ≤ 3) (hl : m.length = m'.length) : hmore 1 (p ++ m ++ s) = hmore 1 (p ++ m' ++ s) ↔ m = m' := by
  constructor
  · intro h
    rw [hmore_append, hmore_append, hmore_append, hmore_append] at h
    have hp := hmore_range 1 p (by omega)
    have h1 := hmore_inj s _ _ (hmore_range _ m hp) (hmore_range _ m' hp) h
    exact hmid _ m m' h3 hl h1
  · intro h; rw [h]

/-- The text with some bytes turned, from place i on. -/
def xr (l : List UInt8) (i : Nat) (bs : List UInt8) : Nat → List UInt8
  | 0 => l
  | k + 1 => (xr l i bs k).set (i + k) (l.getD (i + k) 0 ^^^ bs.getD k 0)
@[simp] theorem length_xr (l : List UInt8) (i : Nat) (bs : List UInt8) (k : Nat) : (xr l i bs k).length = l.length := by
  induction k with
  | zero => rfl
  | succ k ih => simp [xr, ih]
/-- Which byte lies at a place. -/
theorem xr_get (l : List UInt8) (i : Nat) (bs : List UInt8) (k j : Nat) (hj : j < l.length) : (xr l i bs k).getD j 0 = if i ≤ j ∧ j < i + k then l.getD j 0 ^^^ bs.getD (j - i) 0 else l.getD j 0 := by
  induction k with
  | zero => rw [if_neg (by omega)]; rfl
  | succ k ih =>
    show ((xr l i bs k).set (i + k) (l.getD (i + k) 0 ^^^ bs.getD k 0)).getD j 0 = _
    rw [List.getD_eq_getElem?_getD, List.getElem?_set]
    by_cases h : i + k = j
    · subst h
      rw [if_pos rfl, if_pos (by simpa using hj), if_pos (by omega)]
      simp
    · rw [if_neg h, ← List.getD_eq_getElem?_getD, ih]
      by_cases h2 : i ≤ j ∧ j < i + k
      · rw [if_pos h2, if_pos (by omega)]
      · rw [if_neg h2, if_neg (by omega)]
theorem xor_self_iff (x y : UInt8) : x ^^^ y = x ↔ y = 0 := by
  constructor
  · intro h
    have : x ^^^ (x ^^^ y) = x ^^^ x := by rw [h]
    rwa [← UInt8.xor_assoc, UInt8.xor_self, UInt8.zero_xor] at this
  · rintro rfl; simp
/-- In three parts. -/
theorem cut3 (l : List UInt8) (i K : Nat) : l = l.take i ++ (l.drop i).take K ++ l.drop (i + K) := by
  rw [List.append_assoc, ← List.drop_drop, List.take_append_drop, List.take_append_drop]
theorem xr_parts (l : List UInt8) (i : Nat) (bs : List UInt8) (K : Nat) (hK : i + K ≤ l.length) : xr l i bs K = l.take i ++ ((xr l i bs K).drop i).take K ++ l.drop (i + K) := by
  have h := cut3 (xr l i bs K) i K
  have e1 : (xr l i bs K).take i = l.take i := by
    apply List.ext_getElem (by simp)
    intro j h1 h2
    simp at h1 h2
    have := xr_get l i bs K j (by omega)
    rw [if_neg (by omega)] at this
    rw [List.getElem_take, List.getElem_take]
    rw [List.getD_eq_getElem?_getD, List.getD_eq_getElem?_getD, List.getElem?_eq_getElem (by simp; omega), List.getElem?_eq_getElem (by omega)] at this
    simpa using this
  have e2 : (xr l i bs K).drop (i + K) = l.drop (i + K) := by
    apply List.ext_getElem (by simp)
    intro j h1 h2
    simp at h1 h2
    have := xr_get l i bs K (i + K + j) (by omega)
    rw [if_neg (by omega)] at this
    rw [List.getElem_drop, List.getElem_drop]
    rw [List.getD_eq_getElem?_getD, List.getD_eq_getElem?_getD, List.getElem?_eq_getElem (by simp; omega), List.getElem?_eq_getElem (by omega)] at this
    simpa using this
  rw [e1, e2] at h
  exact h
/-- The theorem: the sums are alike only if nothing was turned. -/
theorem near_iff (l : List UInt8) (i : Nat) (bs : List UInt8) (K : Nat) (h3 : K ≤ 3) (hK : i + K ≤ l.length) : hmore 1 (xr l i bs K) = hmore 1 l ↔ ∀ k, k < K → bs.getD k 0 = 0 := by
  have hx := xr_parts l i bs K hK
  have hl := cut3 l i K
  rw [hx]
  conv => lhs; rhs; rw [hl]
  rw [hnear _ _ _ _ (by simp; omega) (by simp)]
  constructor
  · intro h k hk
    have h1 := congrArg (fun z => z.getD k 0) h
    simp only [List.getD_eq_getElem?_getD, List.getElem?_take, if_pos hk, List.getElem?_drop] at h1
    have h2 := xr_get l i bs K (i + k) (by omega)
    rw [if_pos (by omega), show i + k - i = k by omega] at h2
    rw [← List.getD_eq_getElem?_getD, ← List.getD_eq_getElem?_getD, h2] at h1
    exact (xor_self_iff _ _).1 h1
  · intro h
    apply List.ext_getElem (by simp)
    intro k h1 h2
    simp at h1 h2
    have h4 := xr_get l i bs K (i + k) (by omega)
    rw [if_pos (by omega), show i + k - i = k by omega, h k (by omega)] at h4
    rw [List.getElem_take, List.getElem_take, List.getElem_drop, List.getElem_drop]
    rw [List.getD_eq_getElem?_getD, List.getD_eq_getElem?_getD, List.getElem?_eq_getElem (by simp; omega), List.getElem?_eq_getElem (by omega)] at h4
    simpa using h4
end Go.Proofs.YtpflfbenadgknaaDoor
