/- What is in a row behind what was laid in: plain lists. No program is named here. -/
import Derived.Test.YtaedmafmflohiaaEnPlain
namespace Go.Proofs.Ytaedmafmflohiaa
open Go.RowKit

theorem Srt.tail {e : En} {l : List En} (h : Srt (e :: l)) : Srt l := (List.pairwise_cons.1 h).2
theorem Srt.head {e : En} {l : List En} (h : Srt (e :: l)) {x : En} (hx : x ∈ l) : Op.bytesLess e.k x.k = true := (List.pairwise_cons.1 h).1 x hx
/-- Two rows in order that have the same entries are the same row. -/
theorem srt_ext : ∀ {a b : List En}, Srt a → Srt b → (∀ x, x ∈ a ↔ x ∈ b) → a = b
  | [], [], _, _, _ => rfl
  | [], y :: _, _, _, h => by have := (h y).2 (by simp); cases this
  | x :: _, [], _, _, h => by have := (h x).1 (by simp); cases this
  | x :: a, y :: b, ha, hb, h => by
    have hxy : x = y := by
      rcases List.mem_cons.1 ((h x).1 (by simp)) with e | e
      · exact e
      · rcases List.mem_cons.1 ((h y).2 (by simp)) with e2 | e2
        · exact e2.symm
        · exact (bl_not_both (hb.head e) (ha.head e2)).elim
    subst hxy
    congr 1
    refine srt_ext ha.tail hb.tail fun z => ?_
    constructor
    · intro hz
      rcases List.mem_cons.1 ((h z).1 (List.mem_cons_of_mem _ hz)) with e | e
      · subst e
        have := ha.head hz
        rw [bl_same] at this
        cases this
      · exact e
    · intro hz
      rcases List.mem_cons.1 ((h z).2 (List.mem_cons_of_mem _ hz)) with e | e
      · subst e
        have := hb.head hz
        rw [bl_same] at this
        cases this
      · exact e
theorem Srt.key {l : List En} (h : Srt l) {x y : En} (hx : x ∈ l) (hy : y ∈ l) (hk : x.k = y.k) : x = y := by
  obtain ⟨i, hi, rfl⟩ := List.mem_iff_getElem.1 hx
  obtain ⟨j, hj, rfl⟩ := List.mem_iff_getElem.1 hy
  rcases Nat.lt_trichotomy i j with h1 | h1 | h1
  · have := h.lt hj h1
    rw [hk, bl_same] at this
    cases this
  · subst h1; rfl
  · have := h.lt hi h1
    rw [hk, bl_same] at this
    cases this
theorem mem_putE {l : List En} (h : Srt l) (e x : En) : x ∈ putE l e ↔ x = e.norm ∨ (x ∈ l ∧ x.k ≠ e.k) := by
  have hl := lo_le l e.k
  unfold putE
  rw [List.mem_append, List.mem_cons]
  constructor
  · rintro (h1 | h1 | h1)
    · obtain ⟨j, hj, rfl⟩ := List.mem_iff_getElem.1 h1
      rw [List.length_take] at hj
      rw [List.getElem_take]
      have h2 : Op.bytesLess (l[j]'(by omega)).k e.k = true := lo_before (by omega) (by omega)
      exact .inr ⟨List.getElem_mem _, fun e' => by rw [e', bl_same] at h2; cases h2⟩
    · exact .inl h1
    · obtain ⟨j, hj, rfl⟩ := List.mem_iff_getElem.1 h1
      rw [List.length_drop] at hj
      rw [List.getElem_drop]
      refine .inr ⟨List.getElem_mem _, fun e' => ?_⟩
      cases hh : hit l e.k with
      | true =>
        obtain ⟨h2, h3⟩ := hit_iff.1 hh
        have h4 := h.lt (i := lo l e.k) (j := lo l e.k + (if hit l e.k then 1 else 0) + j) (by omega) (by rw [hh]; simp; omega)
        rw [e', h3, bl_same] at h4
        cases h4
      | false =>
        have h2 : lo l e.k < l.length := by omega
        have h3 : ¬ l[lo l e.k].k = e.k := fun e2 => by rw [hit_iff.2 ⟨h2, e2⟩] at hh; cases hh
        simp only [hh, Bool.false_eq_true, if_false, Nat.add_zero] at e'
        rcases Nat.eq_zero_or_pos j with h6 | h6
        · subst h6; exact h3 e'
        · have h4 := h.lt (i := lo l e.k) (j := lo l e.k + j) (by omega) (by omega)
          rw [e', lo_at h2] at h4
          cases h4
  · rintro (h1 | ⟨h1, h2⟩)
    · exact .inr (.inl h1)
    · obtain ⟨j, hj, rfl⟩ := List.mem_iff_getElem.1 h1
      rcases Nat.lt_or_ge j (lo l e.k) with h3 | h3
      · exact .inl (List.mem_iff_getElem.2 ⟨j, by rw [List.length_take]; omega, by rw [List.getElem_take]⟩)
      · refine .inr (.inr (List.mem_iff_getElem.2 ⟨j - (lo l e.k + if hit l e.k then 1 else 0), ?_, ?_⟩))
        all_goals
          have h4 : lo l e.k + (if hit l e.k then 1 else 0) ≤ j := by
            cases hh : hit l e.k with
            | false => simpa using h3
            | true =>
              simp
              rcases Nat.lt_or_ge (lo l e.k) j with h5 | h5
              · omega
              · exfalso
                obtain ⟨h6, h7⟩ := hit_iff.1 hh
                have : j = lo l e.k := by omega
                subst this
                exact h2 h7
        · rw [List.length_drop]; omega
        · rw [List.getElem_drop]
          congr 1
          omega
theorem getE_mem {l : List En} (h : Srt l) (key : List UInt8) (x : En) : getE l key = some x ↔ x ∈ l ∧ x.k = key := by
  unfold getE
  constructor
  · intro h1
    exact ⟨List.mem_of_find?_eq_some h1, by simpa using List.find?_some h1⟩
  · rintro ⟨h1, h2⟩
    cases hf : l.find? (fun e => e.k == key) with
    | none =>
      have := List.find?_eq_none.1 hf x h1
      simp [h2] at this
    | some y =>
      have h3 : y ∈ l := List.mem_of_find?_eq_some hf
      have h4 : y.k = key := by simpa using List.find?_some hf
      rw [h.key h1 h3 (by rw [h2, h4])]
theorem getE_none {l : List En} (key : List UInt8) : getE l key = none ↔ ∀ x ∈ l, x.k ≠ key := by
  unfold getE
  rw [List.find?_eq_none]
  simp
theorem getE_put {l : List En} (h : Srt l) (e : En) (key : List UInt8) : getE (putE l e) key = if e.k = key then some e.norm else getE l key := by
  split
  · rename_i hk
    rw [getE_mem (putE_srt h e)]
    exact ⟨(mem_putE h e _).2 (.inl rfl), by rw [En.norm_k]; exact hk⟩
  · rename_i hk
    cases hg : getE l key with
    | some x =>
      obtain ⟨h1, h2⟩ := (getE_mem h key x).1 hg
      rw [getE_mem (putE_srt h e)]
      exact ⟨(mem_putE h e x).2 (.inr ⟨h1, fun e' => hk (by rw [← e', h2])⟩), h2⟩
    | none =>
      rw [getE_none]
      intro x hx
      rcases (mem_putE h e x).1 hx with rfl | ⟨h1, h2⟩
      · rw [En.norm_k]; exact hk
      · exact (getE_none key).1 hg x h1
/-! ## The order in which unlike keys are put -/
section
variable (en : Nat → En) (n : Nat)
/-- No later one has its key. -/
def LastB (i : Nat) : Prop := ∀ k, i < k → k < n → (en k).k ≠ (en i).k
/-- Behind the first i: only the last ones of their keys. -/
def InM (i : Nat) (l : List En) : Prop := Srt l ∧ ∀ x, x ∈ l ↔ ∃ j, j < i ∧ LastB en n j ∧ x = (en j).norm
/-- Behind the last t, from the end on: those that were not there. -/
def InW (t : Nat) (l : List En) : Prop := Srt l ∧ (∀ x, x ∈ l ↔ ∃ j, n - t ≤ j ∧ j < n ∧ LastB en n j ∧ x = (en j).norm) ∧ ∀ k, n - t ≤ k → k < n → ∃ x ∈ l, x.k = (en k).k
theorem InM.zero : InM en n 0 [] := ⟨List.Pairwise.nil, fun x => ⟨fun h => (by cases h), fun h => (by obtain ⟨j, h1, _⟩ := h; omega)⟩⟩
theorem InW.zero : InW en n 0 [] := ⟨List.Pairwise.nil, fun x => ⟨fun h => (by cases h), fun h => (by obtain ⟨j, h1, h2, _⟩ := h; omega)⟩, fun k h1 h2 => (by omega)⟩
variable {en n}
theorem InM.put {i : Nat} {l : List En} (h : InM en n i l) (hi : i < n) (hl : LastB en n i) : InM en n (i + 1) (putE l (en i)) := by
  refine ⟨putE_srt h.1 _, fun x => ?_⟩
  rw [mem_putE h.1, h.2]
  constructor
  · rintro (rfl | ⟨⟨j, h1, h2, rfl⟩, _⟩)
    · exact ⟨i, by omega, hl, rfl⟩
    · exact ⟨j, by omega, h2, rfl⟩
  · rintro ⟨j, h1, h2, rfl⟩
    by_cases e : j = i
    · subst e; exact .inl rfl
    · exact .inr ⟨⟨j, by omega, h2, rfl⟩, by rw [En.norm_k]; exact fun e' => h2 i (by omega) hi e'.symm⟩
theorem InM.skip {i : Nat} {l : List En} (h : InM en n i l) (hl : ¬ LastB en n i) : InM en n (i + 1) l := by
  refine ⟨h.1, fun x => ?_⟩
  rw [h.2]
  constructor
  · rintro ⟨j, h1, h2, rfl⟩; exact ⟨j, by omega, h2, rfl⟩
  · rintro ⟨j, h1, h2, rfl⟩
    by_cases e : j = i
    · subst e; exact absurd h2 hl
    · exact ⟨j, by omega, h2, rfl⟩
theorem InW.last {t : Nat} {l : List En} (h : InW en n t l) (ht : t < n) : LastB en n (n - 1 - t) ↔ getE l (en (n - 1 - t)).k = none := by
  rw [getE_none]
  constructor
  · intro hl x hx e
    obtain ⟨j, h1, h2, _, rfl⟩ := (h.2.1 x).1 hx
    rw [En.norm_k] at e
    exact hl j (by omega) h2 e
  · intro hn k h1 h2 e
    obtain ⟨x, h3, h4⟩ := h.2.2 k (by omega) h2
    exact hn x h3 (by rw [h4, e])
theorem InW.put {t : Nat} {l : List En} (h : InW en n t l) (ht : t < n) (hl : getE l (en (n - 1 - t)).k = none) : InW en n (t + 1) (putE l (en (n - 1 - t))) := by
  have hL := (h.last ht).2 hl
  refine ⟨putE_srt h.1 _, fun x => ?_, fun k h1 h2 => ?_⟩
  · rw [mem_putE h.1, h.2.1]
    constructor
    · rintro (rfl | ⟨⟨j, h1, h2, h3, rfl⟩, _⟩)
      · exact ⟨n - 1 - t, by omega, by omega, hL, rfl⟩
      · exact ⟨j, by omega, h2, h3, rfl⟩
    · rintro ⟨j, h1, h2, h3, rfl⟩
      by_cases e : j = n - 1 - t
      · subst e; exact .inl rfl
      · exact .inr ⟨⟨j, by omega, h2, h3, rfl⟩, by rw [En.norm_k]; exact hL j (by omega) h2⟩
  · by_cases e : k = n - 1 - t
    · subst e; exact ⟨_, (mem_putE h.1 _ _).2 (.inl rfl), En.norm_k _⟩
    · obtain ⟨x, h3, h4⟩ := h.2.2 k (by omega) h2
      exact ⟨x, (mem_putE h.1 _ _).2 (.inr ⟨h3, by rw [h4]; exact hL k (by omega) h2⟩), h4⟩
theorem InW.skip {t : Nat} {l : List En} (h : InW en n t l) (ht : t < n) (hl : getE l (en (n - 1 - t)).k ≠ none) : InW en n (t + 1) l := by
  have hL : ¬ LastB en n (n - 1 - t) := fun hh => hl ((h.last ht).1 hh)
  refine ⟨h.1, fun x => ?_, fun k h1 h2 => ?_⟩
  · rw [h.2.1]
    constructor
    · rintro ⟨j, h1, h2, h3, rfl⟩; exact ⟨j, by omega, h2, h3, rfl⟩
    · rintro ⟨j, h1, h2, h3, rfl⟩
      by_cases e : j = n - 1 - t
      · subst e; exact absurd h3 hL
      · exact ⟨j, by omega, h2, h3, rfl⟩
  · by_cases e : k = n - 1 - t
    · subst e
      cases hg : getE l (en (n - 1 - t)).k with
      | none => exact absurd hg hl
      | some x => exact ⟨x, (getE_mem h.1 _ x).1 hg⟩
    · exact h.2.2 k (by omega) h2
theorem InM_InW {a b : List En} (ha : InM en n n a) (hb : InW en n n b) : a = b :=
  srt_ext ha.1 hb.1 fun x => by
    rw [ha.2, hb.2.1]
    constructor
    · rintro ⟨j, h1, h2, h3⟩; exact ⟨j, by omega, h1, h2, h3⟩
    · rintro ⟨j, _, h1, h2, h3⟩; exact ⟨j, h1, h2, h3⟩
end
/-! ## What was put last -/
/-- Behind the first i of all. -/
def putsE (en : Nat → En) : Nat → List En
  | 0 => []
  | i + 1 => putE (putsE en i) (en i)
theorem puts_srt (en : Nat → En) : ∀ i, Srt (putsE en i)
  | 0 => List.Pairwise.nil
  | i + 1 => putE_srt (puts_srt en i) _
theorem puts_len (en : Nat → En) : ∀ i, (putsE en i).length ≤ i
  | 0 => Nat.le_refl _
  | i + 1 => by
    have := puts_len en i
    show (putE _ _).length ≤ _
    rw [putE_len]
    split <;> omega
theorem puts_get (en : Nat → En) {j : Nat} : ∀ n, j < n → LastB en n j → getE (putsE en n) (en j).k = some (en j).norm
  | 0, h, _ => by omega
  | n + 1, h, hl => by
    show getE (putE _ _) _ = _
    rw [getE_put (puts_srt en n)]
    by_cases e : j = n
    · subst e; rw [if_pos rfl]
    · rw [if_neg (hl n (by omega) (by omega)), puts_get en n (by omega) (fun k h1 h2 => hl k h1 (by omega))]
end Go.Proofs.Ytaedmafmflohiaa
