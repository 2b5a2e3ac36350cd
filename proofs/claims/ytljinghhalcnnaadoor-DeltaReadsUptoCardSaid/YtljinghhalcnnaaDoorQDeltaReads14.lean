/- What tells a block makes it of the same base: plain. Parts as bytes: the walk. A block told by another one, as bytes: a contract. An operation under a guard that is met is as one without a guard. No program is named here. -/
import Derived.Test.YtljinghhalcnnaaDoorQDeltaReads12
import Derived.Test.YtljinghhalcnnaaDoorQDeltaReads11
import Derived.Test.YtljinghhalcnnaaDoorQDeltaReads13
import Derived.Test.YtljinghhalcnnaaDoorQDeltaReads7
import Derived.Test.YtljinghhalcnnaaDoorQDeltaReads9
import Derived.Deep.DeepCutAuto
import Derived.Test.YtljinghhalcnnaaDoorQDeltaReads1
namespace Go.Proofs.YtljinghhalcnnaaDoor
open Go.RowKit

/-- What a part can be. -/
def Pa.ok (p : Pa) : Prop := (p.cp = true → 0 ≤ p.fr ∧ p.fr ≤ 64 ∧ 0 ≤ p.ln ∧ p.ln ≤ 64 ∧ p.b = []) ∧ (p.cp = false → p.fr = 0 ∧ p.ln = 0 ∧ p.b.length ≤ 64)
theorem uN_small (z : Int) (h1 : 0 ≤ z) (h2 : z < 18446744073709551616) : (uN z : Int) = z := by
  have h := (uN_is z).1
  rw [← h, IntKind.wrap_u64]
  omega
theorem uintB_short (n : Nat) (h : n < 128) : (uintB n).length = 1 := by
  have hb : bh n = 0 := by unfold bh; rw [if_pos (by omega)]
  simp [hb]
theorem partR_enc (p : Pa) (h : p.ok) (rest : List UInt8) : partR (encP p ++ rest) 0 = (rest, 0, p) := by
  cases hc : p.cp with
  | true =>
    obtain ⟨h1, h2, h3, h4, h5⟩ := h.1 hc
    have hf := uN_small p.fr h1 (by omega)
    have hn := uN_small p.ln h3 (by omega)
    have e1 : encP p ++ rest = [if true then 1 else 0] ++ (uintB (uN p.fr) ++ (uintB (uN p.ln) ++ rest)) := by
      unfold encP
      rw [hc]
      simp
    have e2 := boolR_bool true (uintB (uN p.fr) ++ (uintB (uN p.ln) ++ rest))
    rw [← e1] at e2
    have e3 : ∀ (n : Nat) (r : List UInt8), n ≤ 64 → uintR 64 (uintB n ++ r) 0 = (r, 0, n) := fun n r hn => by
      unfold uintR
      rw [if_neg (by simp), bnd_uint n (by omega) _ _ _ _ hn (by simp)]
    rw [partR_copy _ _ (by rw [e2]), e2]
    simp only
    rw [e3 _ _ (by omega)]
    simp only
    rw [e3 _ _ (by omega)]
    simp only
    rw [hf, hn]
    obtain ⟨cp, fr, ln, b⟩ := p
    simp only at hc h5
    rw [hc, h5]
  | false =>
    obtain ⟨h1, h2, h3⟩ := h.2 hc
    have e1 : encP p ++ rest = [if false then 1 else 0] ++ (lenB p.b ++ rest) := by
      unfold encP
      rw [hc]
      simp
    have e2 := boolR_bool false (lenB p.b ++ rest)
    rw [← e1] at e2
    have e3 : bytesR 64 (lenB p.b ++ rest) 0 = (rest, 0, p.b) := by
      unfold bytesR lenB
      rw [if_neg (by simp), if_neg (by omega), List.append_assoc, bnd_uint _ (by omega) _ _ _ _ (by simpa using h3) (by simp)]
      simp
    rw [partR_told _ _ (by rw [e2]), e2]
    simp only
    rw [e3]
    obtain ⟨cp, fr, ln, b⟩ := p
    simp only at hc h1 h2
    rw [hc, h1, h2]
theorem partsR_enc (ps : List Pa) (h : ∀ p ∈ ps, p.ok) : ∀ k, k ≤ ps.length → partsR k (ps.flatMap encP) 0 = ((ps.drop k).flatMap encP, 0, ps.take k)
  | 0, _ => by simp [partsR]
  | k + 1, hk => by
    have hk' : k < ps.length := by omega
    rw [partsR_succ k _ _ (partsR_enc ps h k (by omega)), List.drop_eq_getElem_cons hk', List.flatMap_cons, partR_enc _ (h _ (List.getElem_mem _)), List.take_succ_eq_append_getElem hk']
theorem encP_pos (p : Pa) : 1 ≤ (encP p).length := by
  unfold encP
  rw [List.length_append, List.length_singleton]
  omega
theorem encPs_pos : ∀ ps : List Pa, ps.length ≤ (ps.flatMap encP).length
  | [] => by simp
  | p :: ps => by
    have h1 := encP_pos p
    have h2 := encPs_pos ps
    rw [List.flatMap_cons, List.length_append, List.length_cons]
    omega
theorem decE10_enc (ps : List Pa) (h : ∀ p ∈ ps, p.ok) (hl : ps.length ≤ 64) : decE10 (encE10 ps) = .ok ps := by
  have e1 : countR 64 (encE10 ps) 0 = (ps.flatMap encP, 0, ps.length) := by
    unfold countR encE10
    rw [if_neg (by simp), bnd_uint _ (by omega) _ _ _ _ (by simpa using hl) (fun _ => encPs_pos ps)]
  unfold decE10
  rw [e1]
  simp only
  rw [partsR_enc ps h _ (Nat.le_refl _)]
  simp [doneR_nil]
/-- What a part makes of a base. -/
def partBy (base : List UInt8) (p : Pa) : List UInt8 := if p.cp then (base.drop p.fr.toNat).take p.ln.toNat else p.b
/-- Parts that tell a block up to a place. -/
structure Tl (base target : List UInt8) (a : Nat) (l : List Pa) : Prop where
  ok : ∀ p ∈ l, p.ok
  cp : ∀ p ∈ l, p.cp = true → 0 ≤ p.fr ∧ 4 ≤ p.ln ∧ p.fr + p.ln ≤ 64
  td : ∀ p ∈ l, p.cp = false → p.b ≠ [] ∧ p.b.length ≤ a
  is : l.flatMap (partBy base) = target.take a
  two : ∀ i (h : i + 1 < l.length), l[i].cp = true ∨ l[i + 1].cp = true
  enc : 4 * (l.flatMap encP).length ≤ 5 * a + (if l.getLast?.map Pa.cp = some false then 8 else 0)
  len : l.length ≤ a
theorem Tl.nil (base target : List UInt8) : Tl base target 0 [] :=
  ⟨by simp, by simp, by simp, by simp, by simp, by simp, by simp⟩
theorem two_add {l : List Pa} {p : Pa} (h : ∀ i (h : i + 1 < l.length), l[i].cp = true ∨ l[i + 1].cp = true) (hp : p.cp = true ∨ l.getLast?.map Pa.cp ≠ some false) (i : Nat) (hi : i + 1 < (l ++ [p]).length) : (l ++ [p])[i].cp = true ∨ (l ++ [p])[i + 1].cp = true := by
  rw [List.length_append, List.length_singleton] at hi
  rcases Nat.lt_or_ge (i + 1) l.length with h1 | h1
  · rw [List.getElem_append_left (by omega), List.getElem_append_left h1]
    exact h i h1
  · have h2 : i + 1 = l.length := by omega
    rcases hp with h3 | h3
    · right
      rw [List.getElem_append_right (by omega)]
      simpa [h2] using h3
    · left
      rw [List.getElem_append_left (by omega)]
      rw [List.getLast?_eq_getElem?, show l.length - 1 = i from by omega, List.getElem?_eq_getElem (by omega)] at h3
      simpa using h3
theorem encP_copy (p : Pa) (h : p.ok) (hc : p.cp = true) : (encP p).length = 3 := by
  obtain ⟨h1, h2, h3, h4, h5⟩ := h.1 hc
  have hf := uN_small p.fr h1 (by omega)
  have hn := uN_small p.ln h3 (by omega)
  unfold encP
  rw [hc, if_pos rfl, if_pos rfl]
  simp only [List.length_append, List.length_singleton]
  rw [uintB_short _ (by omega), uintB_short _ (by omega)]
theorem encP_told (p : Pa) (h : p.ok) (hc : p.cp = false) : (encP p).length = 2 + p.b.length := by
  obtain ⟨h1, h2, h3⟩ := h.2 hc
  unfold encP lenB
  rw [hc, if_neg (by simp), if_neg (by simp)]
  simp only [List.length_append, List.length_singleton]
  rw [uintB_short _ (by omega)]
  omega
theorem mat_is (base target : List UInt8) (hb : base.length = 64) (_ht : target.length = 64) (a : Nat) (_ha : a < 64) : ((base.drop (mat base target a).1).take (mat base target a).2 = (target.drop a).take (mat base target a).2) ∧ (mat base target a).1 + (mat base target a).2 ≤ 64 := by
  have hle := best_len base (target.drop a) base.length (Nat.le_refl _)
  rw [List.length_drop] at hle
  unfold mat
  refine ⟨?_, by omega⟩
  rcases best_at base (target.drop a) base.length with ⟨h1, h2⟩ | ⟨h1, h2, h3, h4⟩
  · rw [h1]; simp
  · exact (com_iff _ _ _ (by rw [List.length_drop]; omega) (by rw [List.length_drop]; omega)).1 (by omega)
theorem Tl.copy {base target : List UInt8} {a : Nat} {l : List Pa} (hb : base.length = 64) (ht : target.length = 64) (h : Tl base target a l) (ha : a < 64) (h4 : 4 ≤ (mat base target a).2) : Tl base target (a + (mat base target a).2) (l ++ [⟨true, (mat base target a).1, (mat base target a).2, []⟩]) := by
  obtain ⟨m1, m2⟩ := mat_is base target hb ht a ha
  have m3 := mat_len base target hb ht a (by omega)
  generalize mat base target a = m at h4 m1 m2 m3 ⊢
  obtain ⟨f, n⟩ := m
  simp only at h4 m1 m2 m3 ⊢
  have hok : Pa.ok ⟨true, f, n, []⟩ := ⟨fun _ => ⟨by simp, by simp only; omega, by simp, by simp only; omega, rfl⟩, fun h => by cases h⟩
  refine ⟨fun p hp => ?_, fun p hp hc => ?_, fun p hp hc => ?_, ?_, two_add h.two (.inl rfl), ?_, by rw [List.length_append, List.length_singleton]; have := h.len; omega⟩
  · rcases List.mem_append.1 hp with h1 | h1
    · exact h.ok p h1
    · obtain rfl := List.mem_singleton.1 h1
      exact hok
  · rcases List.mem_append.1 hp with h1 | h1
    · exact h.cp p h1 hc
    · obtain rfl := List.mem_singleton.1 h1
      exact ⟨by simp, by simp only; omega, by simp only; omega⟩
  · rcases List.mem_append.1 hp with h1 | h1
    · have := h.td p h1 hc
      exact ⟨this.1, by omega⟩
    · obtain rfl := List.mem_singleton.1 h1
      cases hc
  · rw [List.flatMap_append, h.is, List.take_add]
    simp [partBy, m1]
  · have h5 := h.enc
    have h6 := encP_copy _ hok rfl
    rw [List.flatMap_append, List.length_append, List.flatMap_singleton, h6]
    split at h5 <;> split <;> omega
theorem take_one {t : List UInt8} {a : Nat} (h : a < t.length) : t.take (a + 1) = t.take a ++ [t.getD a 0] := by
  rw [List.take_succ_eq_append_getElem h, List.getD_eq_getElem?_getD, List.getElem?_eq_getElem h]
  rfl
theorem Tl.newTold {base target : List UInt8} {a : Nat} {l : List Pa} (ht : target.length = 64) (h : Tl base target a l) (ha : a < 64) (hlast : l.getLast?.map Pa.cp ≠ some false) : Tl base target (a + 1) (l ++ [⟨false, 0, 0, [target.getD a 0]⟩]) := by
  have hok : Pa.ok ⟨false, 0, 0, [target.getD a 0]⟩ := ⟨fun h => (by cases h), fun _ => ⟨rfl, rfl, by simp⟩⟩
  refine ⟨fun p hp => ?_, fun p hp hc => ?_, fun p hp hc => ?_, ?_, two_add h.two (.inr hlast), ?_, by rw [List.length_append, List.length_singleton]; have := h.len; omega⟩
  · rcases List.mem_append.1 hp with h1 | h1
    · exact h.ok p h1
    · obtain rfl := List.mem_singleton.1 h1
      exact hok
  · rcases List.mem_append.1 hp with h1 | h1
    · exact h.cp p h1 hc
    · obtain rfl := List.mem_singleton.1 h1
      cases hc
  · rcases List.mem_append.1 hp with h1 | h1
    · have := h.td p h1 hc
      exact ⟨this.1, by omega⟩
    · obtain rfl := List.mem_singleton.1 h1
      exact ⟨by simp, by simp⟩
  · rw [List.flatMap_append, h.is, take_one (by omega)]
    simp [partBy]
  · have h5 := h.enc
    have h6 : (encP ⟨false, 0, 0, [target.getD a 0]⟩).length = 3 := encP_told _ hok rfl
    rw [if_neg hlast] at h5
    rw [List.flatMap_append, List.length_append, List.flatMap_singleton, h6, List.getLast?_concat, if_pos (show Option.map Pa.cp (some _) = some false from rfl)]
    omega
theorem Tl.grow {base target : List UInt8} {a : Nat} {us : List Pa} {p : Pa} (ht : target.length = 64) (h : Tl base target a (us ++ [p])) (ha : a < 64) (hc : p.cp = false) : Tl base target (a + 1) (us ++ [⟨p.cp, p.fr, p.ln, p.b ++ [target.getD a 0]⟩]) := by
  have h0 := (h.ok p (by simp)).2 hc
  have h1 := h.td p (by simp) hc
  have hok : Pa.ok ⟨p.cp, p.fr, p.ln, p.b ++ [target.getD a 0]⟩ := ⟨fun h => (by rw [hc] at h; cases h), fun _ => ⟨h0.1, h0.2.1, by rw [List.length_append, List.length_singleton]; omega⟩⟩
  have hle := h.len
  refine ⟨fun q hq => ?_, fun q hq hc' => ?_, fun q hq hc' => ?_, ?_, fun i hi => ?_, ?_, by rw [List.length_append, List.length_singleton] at hle ⊢; omega⟩
  · rcases List.mem_append.1 hq with h2 | h2
    · exact h.ok q (by simp [h2])
    · obtain rfl := List.mem_singleton.1 h2
      exact hok
  · rcases List.mem_append.1 hq with h2 | h2
    · exact h.cp q (by simp [h2]) hc'
    · obtain rfl := List.mem_singleton.1 h2
      rw [hc] at hc'; cases hc'
  · rcases List.mem_append.1 hq with h2 | h2
    · have := h.td q (by simp [h2]) hc'
      exact ⟨this.1, by omega⟩
    · obtain rfl := List.mem_singleton.1 h2
      exact ⟨by simp, by rw [List.length_append, List.length_singleton]; omega⟩
  · have h3 := h.is
    rw [List.flatMap_append, List.flatMap_singleton] at h3
    rw [List.flatMap_append, List.flatMap_singleton, take_one (by omega), ← h3, List.append_assoc]
    simp [partBy, hc]
  · have hi' : i + 1 < (us ++ [p]).length := by simpa using hi
    have h3 := h.two i hi'
    have e1 : ∀ j (h1 : j < (us ++ [p]).length) (h2 : j < (us ++ [(⟨p.cp, p.fr, p.ln, p.b ++ [target.getD a 0]⟩ : Pa)]).length), (us ++ [(⟨p.cp, p.fr, p.ln, p.b ++ [target.getD a 0]⟩ : Pa)])[j].cp = (us ++ [p])[j].cp := fun j h1 h2 => by
      rcases Nat.lt_or_ge j us.length with h4 | h4
      · rw [List.getElem_append_left h4, List.getElem_append_left h4]
      · rw [List.getElem_append_right h4, List.getElem_append_right h4]
        simp
    rw [e1 i (by omega), e1 (i + 1) hi']
    exact h3
  · have h5 := h.enc
    have h6 := encP_told _ hok hc
    have h7 := encP_told p (h.ok p (by simp)) hc
    rw [List.getLast?_concat, if_pos (by simp [hc]), List.flatMap_append, List.length_append, List.flatMap_singleton, h7] at h5
    rw [List.getLast?_concat, if_pos (by simp [hc]), List.flatMap_append, List.length_append, List.flatMap_singleton, h6, List.length_append, List.length_singleton]
    omega
theorem Tl.tell {base target : List UInt8} {a : Nat} {l : List Pa} (ht : target.length = 64) (h : Tl base target a l) (ha : a < 64) : Tl base target (a + 1) (tell l (target.getD a 0)) := by
  rcases List.eq_nil_or_concat l with h1 | ⟨us, p, h1⟩
  · subst h1
    rw [tell_nil]
    exact h.newTold ht ha (by simp)
  · rw [List.concat_eq_append] at h1
    subst h1
    cases hc : p.cp with
    | true =>
      rw [tell_cp _ _ _ hc]
      exact h.newTold ht ha (by rw [List.getLast?_concat]; simp [hc])
    | false =>
      rw [tell_told _ _ _ hc]
      exact h.grow ht ha hc
theorem opsF_tl (base target : List UInt8) (hb : base.length = 64) (ht : target.length = 64) : ∀ (f a : Nat) (l : List Pa), Tl base target a l → a ≤ 64 → 64 - a ≤ f → Tl base target 64 (opsF base target f a l)
  | 0, a, l, h, h1, h2 => by
    obtain rfl : a = 64 := by omega
    exact h
  | f + 1, a, l, h, h1, h2 => by
    unfold opsF
    split
    · rename_i h3
      obtain rfl : a = 64 := by omega
      exact h
    · rename_i h3
      split
      · rename_i h4
        have := (mat_len base target hb ht a h1).2
        exact opsF_tl base target hb ht f _ _ (h.copy hb ht (by omega) h4) this (by omega)
      · exact opsF_tl base target hb ht f _ _ (h.tell ht (by omega)) (by omega) (by omega)
theorem opsE_tl (base target : List UInt8) (hb : base.length = 64) (ht : target.length = 64) : Tl base target 64 (opsE base target) := opsF_tl base target hb ht 64 0 [] (Tl.nil _ _) (by omega) (by omega)
theorem partB_by (base : List UInt8) (p : Pa) (h1 : p.cp = true → 0 ≤ p.fr ∧ 4 ≤ p.ln ∧ p.fr + p.ln ≤ 64) (h2 : p.cp = false → p.b ≠ []) : partB base p = .ok (partBy base p) := by
  unfold partB partBy
  cases hc : p.cp with
  | true =>
    have := h1 hc
    rw [if_pos rfl, if_pos rfl, if_neg (by omega)]
  | false => rw [if_neg (by simp), if_neg (h2 hc), if_neg (by simp)]
theorem applyF_by (base target : List UInt8) (ht : target.length = 64) : ∀ (ps : List Pa) (all : List UInt8), (∀ p ∈ ps, partB base p = .ok (partBy base p)) → all ++ ps.flatMap (partBy base) = target → applyF base ps all = .ok target
  | [], all, _, h => by
    have e : all = target := by simpa using h
    subst e
    unfold applyF
    rw [if_pos ht]
  | p :: ps, all, hp, h => by
    rw [List.flatMap_cons, ← List.append_assoc] at h
    have hl : (all ++ partBy base p).length ≤ 64 := by rw [← ht, ← h]; simp
    rw [List.length_append] at hl
    unfold applyF
    rw [hp p (by simp)]
    simp only
    rw [if_neg (by omega)]
    exact applyF_by base target ht ps _ (fun q hq => hp q (by simp [hq])) h
/-- The theorem of stage 10. -/
theorem back10 (base target : List UInt8) (hb : base.length = 64) (ht : target.length = 64) : decE10 (encE10 (opsE base target)) = .ok (opsE base target) ∧ applyE base (opsE base target) = .ok target ∧ (encE10 (opsE base target)).length ≤ 83 := by
  have h := opsE_tl base target hb ht
  refine ⟨decE10_enc _ h.ok h.len, applyF_by base target ht _ [] (fun p hp => partB_by base p (h.cp p hp) (fun hc => (h.td p hp hc).1)) ?_, ?_⟩
  · rw [List.nil_append, h.is, List.take_of_length_le (by omega)]
  · have h1 := h.enc
    have h2 := h.len
    unfold encE10
    rw [List.length_append, uintB_short _ (by omega)]
    split at h1 <;> omega
/-- A block by itself. -/
theorem mat_self (b : List UInt8) (hb : b.length = 64) : mat b b 0 = (0, 64) := by
  have hc : com b b = 64 := com_is b b 64 (by omega) (by omega) rfl (.inl hb.symm)
  have h1 := best_le b b b.length 0 (by omega)
  have h2 := best_len b b b.length (Nat.le_refl _)
  rw [List.drop_zero, hc] at h1
  have e1 : (best b b b.length).2 = 64 := by omega
  unfold mat
  rw [List.drop_zero]
  refine Prod.ext ?_ e1
  rcases best_at b b b.length with ⟨h3, _⟩ | ⟨_, _, _, h4⟩
  · omega
  · rcases Nat.eq_zero_or_pos (best b b b.length).1 with h5 | h5
    · exact h5
    · have := h4 0 h5
      rw [List.drop_zero, hc] at this
      omega
theorem opsE_self (b : List UInt8) (hb : b.length = 64) : opsE b b = [⟨true, 0, 64, []⟩] := by
  unfold opsE opsF
  rw [mat_self b hb, if_neg (by omega), if_pos (by omega)]
  simp only
  rw [opsF_end _ _ _ _ _ (by omega)]
  rfl
end Go.Proofs.YtljinghhalcnnaaDoor
namespace Go.Proofs.YtljinghhalcnnaaDoor
open Go.RowKit

theorem EnX.keeps0 {w wr wr' : World} {g : Nat} {A : Option Addr} {c : Nat} {out : List UInt8} {gx : Nat} {t : Pt} (h : EnX w wr g A c out gx t) (hk : Keeps [] wr wr') : EnX w wr' g A c out gx t :=
  ⟨h.wi.keeps0 hk, (hk.block gx (lt_of_block h.pc) (by simp)).trans h.pc, h.gx0⟩
set_option maxRecDepth 100000 in
set_option maxHeartbeats 8000000 in
theorem enc_any (A : Option Addr) (c : Nat) (ts : List Pt) (w : World) (hr : Rd w A ts.length 4 (encPt ts)) (hbs : ∀ t ∈ ts, RdB w t.A t.p.b) (hl : ts.length ≤ 1000) (htot : (encE10 (ts.map Pt.p)).length + 100 ≤ 140737488355328) :
    Calls Tryd.prog 13 #[.slice A ts.length c] w (NewB 5 (encE10 (ts.map Pt.p)) w) := by
  have HR := Lib.hid (And.intro hr hbs)
  obtain ⟨ps, hps⟩ : ∃ ps, ps = ts.map Pt.p := ⟨_, rfl⟩
  obtain ⟨n, hn⟩ : ∃ n, n = ts.length := ⟨_, rfl⟩
  have HN := Lib.hid (show n = ts.length ∧ ps = ts.map Pt.p ∧ ps.length = n from ⟨hn, hps, by rw [hps, List.length_map, hn]⟩)
  rw [← hps] at htot ⊢
  rw [← hn] at hl ⊢
  have HT := Lib.hid htot
  clear hr hbs htot hps hn
  go_enter Tryd.func13, Tryd.ntmps13
  go_wp2_with fail
  refine (new_any w).mono ?_
  rintro r w1 ⟨rfl, hw1, hk1⟩
  obtain ⟨g, hg⟩ : ∃ g, g = w.heap.size := ⟨_, rfl⟩
  rw [← hg] at hw1 ⊢
  have H1 := Lib.hid (show WrI w w1 g none 0 [] from ⟨hw1, hk1, by omega, by simp⟩)
  have e1 : IntKind.u64.wrap (n : Int) = (n : Int) := by rw [IntKind.wrap_u64]; omega
  clear hw1 hk1 hg
  go_wp2_with fail
  refine (uint_any n g none 0 [] w1 (by omega) H1.out.wr_ (by simp)).mono ?_
  intro r w2 hp
  obtain ⟨A2, c2, o2, rfl, ho2, h2, _, _⟩ := H1.out.post hp
  have D0 := Lib.hid (show WrI w w2 g A2 c2 o2 ∧ o2 = uintB ps.length ++ (ps.take 0).flatMap encP from ⟨h2, by rw [ho2, HN.out.2.2]; simp⟩)
  clear hp ho2 h2 H1 e1
  go_wp2_with fail
  go_loopw [13] (fun s13 wr => ∃ i : Nat, s13 = .int .i64 i ∧ Hid (i ≤ n ∧ ∃ A2 c2 out, WrI w wr g A2 c2 out ∧ out = uintB ps.length ++ (ps.take i).flatMap encP)) (fun s13 _ => n - (intOf s13).toNat)
  case atStart => exact ⟨0, rfl, ⟨Nat.zero_le _, A2, c2, o2, D0.out⟩⟩
  case round =>
    clear D0
    obtain ⟨i, rfl, HH⟩ := hrel
    obtain ⟨hi0, A3, c3, out, hwi, hout⟩ := HH.out
    have D := Lib.hid (show WrI w wr g A3 c3 out ∧ out = uintB ps.length ++ (ps.take i).flatMap encP ∧ out.length + 100 ≤ 140737488355328 from ⟨hwi, hout, by rw [hout]; have := encE_le ps i; have := HT.out; omega⟩)
    clear hwi hout HH
    by_cases hin : i < n
    · have hini : (i : Int) < (n : Int) := by omega
      have HIL := Lib.hid (show i < ts.length ∧ i < ps.length ∧ i < n from by have := HN.out; omega)
      obtain ⟨ga, oa, rfl, k0, k1, k2, k3⟩ := pt_cells (HR.out.1.keeps0 D.out.1.kp) HIL.out.1
      obtain ⟨t, ht⟩ : ∃ t, t = ts[i]'(HIL.out.1) := ⟨_, rfl⟩
      rw [← ht] at k0 k1 k2 k3
      have HTT := Lib.hid (show t ∈ ts ∧ ps[i]'(HIL.out.2.1) = t.p from ⟨by rw [ht]; exact List.getElem_mem _, by rw [ht]; simp [HN.out.2.1]⟩)
      have HST := Lib.hid (show uintB ps.length ++ (ps.take (i + 1)).flatMap encP = out ++ encP t.p ∧ (out ++ encP t.p).length + 100 ≤ 140737488355328 from by
        have h1 := encE_take ps HIL.out.2.1
        rw [HTT.out.2, ← D.out.2.1] at h1
        refine ⟨h1, ?_⟩
        rw [← h1]
        have := encE_le ps (i + 1)
        have := HT.out
        omega)
      obtain ⟨gx, hgx⟩ : ∃ gx, gx = wr.heap.size := ⟨_, rfl⟩
      obtain ⟨w4, hw4⟩ : ∃ w4, w4 = wr.alloc (.cells #[.bool t.p.cp, .int .i64 t.p.fr, .int .i64 t.p.ln, .slice t.A t.p.b.length t.c] 50) := ⟨_, rfl⟩
      have HX := Lib.hid (show EnX w w4 g A3 c3 out gx t from by
        have hka : Keeps [] wr w4 := by rw [hw4]; exact (Keeps.refl [] wr).alloc _
        refine ⟨D.out.1.keeps0 hka, by rw [hw4, hgx]; exact heap_alloc_new _ _, ?_, fun hm => ?_⟩
        · have := D.out.1.wr_.lt; omega
        · obtain ⟨b, e1, e2⟩ := mem_blk.1 hm
          have := D.out.1.wr_.2.1.lt b e1
          omega)
      have HW := Lib.hid (And.intro hw4 hgx)
      clear hw4 hgx ht hin hi0
      go_upto_region 5 with fail
      rw [← HW.out.1, ← HW.out.2]
      clear k0 k1 k2 k3
      obtain ⟨k0, k1, k2, k3⟩ := HX.out.cells
      go_wp2_with fail
      refine (bool_any t.p.cp g A3 c3 out w4 HX.out.wi.wr_ (by have := D.out.2.2; omega)).mono ?_
      intro r w5 hp
      obtain ⟨A5, c5, o5, rfl, ho5, h5⟩ := HX.out.post hp
      have H5 := Lib.hid (show EnX w w5 g A5 c5 o5 gx t ∧ o5 = out ++ [if t.p.cp then 1 else 0] ∧ o5.length = out.length + 1 from ⟨h5, ho5, by rw [ho5]; simp⟩)
      clear hp ho5 h5 k0 k1 k2 k3 HX
      obtain ⟨k0, k1, k2, k3⟩ := H5.out.1.cells
      cases hcp : t.p.cp with
      | true =>
        rw [hcp] at k0
        have HCP := Lib.hid hcp
        clear hcp
        have HEN := Lib.hid (show out ++ encP t.p = (o5 ++ uintB (uN t.p.fr)) ++ uintB (uN t.p.ln) from by rw [H5.out.2.1]; unfold encP; rw [HCP.out]; simp)
        obtain ⟨f, hf⟩ : ∃ f, f = uN t.p.fr := ⟨_, rfl⟩
        obtain ⟨m, hm⟩ : ∃ m, m = uN t.p.ln := ⟨_, rfl⟩
        have ef : IntKind.u64.wrap t.p.fr = (f : Int) := by rw [hf]; exact (uN_is _).1
        have em : IntKind.u64.wrap t.p.ln = (m : Int) := by rw [hm]; exact (uN_is _).1
        have HF := Lib.hid (show f < 18446744073709551616 ∧ m < 18446744073709551616 from ⟨by rw [hf]; exact (uN_is _).2, by rw [hm]; exact (uN_is _).2⟩)
        rw [← hf, ← hm] at HEN
        clear hf hm
        go_upto_region 7 with fail
        have qa : ∀ z : World, (z.cell? ⟨gx, 1, none⟩ = some (.int .i64 t.p.fr) ∧ z.cell? ⟨gx, 2, none⟩ = some (.int .i64 t.p.ln)) → z.cell? ⟨gx, 1, none⟩ = some (.int .i64 t.p.fr) := fun z hz => hz.1
        have qb : ∀ z : World, (z.cell? ⟨gx, 1, none⟩ = some (.int .i64 t.p.fr) ∧ z.cell? ⟨gx, 2, none⟩ = some (.int .i64 t.p.ln)) → z.cell? ⟨gx, 2, none⟩ = some (.int .i64 t.p.ln) := fun z hz => hz.2
        refine seq_start (by kernel_rfl) (fun z => (z.cell? ⟨gx, 1, none⟩ = some (.int .i64 t.p.fr) ∧ z.cell? ⟨gx, 2, none⟩ = some (.int .i64 t.p.ln))) 9 [0, 1, 2, 3, 4, 5, 6, 7, 8] rfl (⟨k1, k2⟩) (fun hS => ?_)
        have HV := Lib.hid (H5.out.1.keeps0 (Keeps.refl [] w5).drew)
        clear k0 k1 k2 k3
        generalize w5.drew = V at HV hS ⊢
        refine seq_take (v := ?_) rfl (by kernel_rfl) (by kernel_rfl) (by kernel_rfl) (Or.inl ⟨by rfl, fun w' hSw => ?_⟩) (by assumption) ?_
        rotate_left
        · go_simp
          with_reducible rfl
        simp only [Act.put, List.setIfInBounds_toArray, List.set_cons_zero, List.set_cons_succ]
        refine seq_take (v := ?_) rfl (by kernel_rfl) (by kernel_rfl) (by kernel_rfl) (Or.inl ⟨by rfl, fun w' hSw => ?_⟩) (by assumption) ?_
        rotate_left
        · go_simp
          with_reducible rfl
        simp only [Act.put, List.setIfInBounds_toArray, List.set_cons_zero, List.set_cons_succ]
        refine seq_take (v := ?_) rfl (by kernel_rfl) (by kernel_rfl) (by kernel_rfl) (Or.inl ⟨by rfl, fun w' hSw => ?_⟩) (by assumption) ?_
        rotate_left
        · go_simp
          with_reducible rfl
        simp only [Act.put, List.setIfInBounds_toArray, List.set_cons_zero, List.set_cons_succ]
        refine seq_take (v := ?_) rfl (by kernel_rfl) (by kernel_rfl) (by kernel_rfl) (Or.inl ⟨by rfl, fun w' hSw => ?_⟩) (by assumption) ?_
        rotate_left
        · go_simp
          with_reducible rfl
        simp only [Act.put, List.setIfInBounds_toArray, List.set_cons_zero, List.set_cons_succ]
        iterate 1 (refine seq_later ?_; simp only [List.cons_append, List.nil_append])
        refine seq_take (v := ?_) rfl (by kernel_rfl) (by kernel_rfl) (by kernel_rfl) (Or.inl ⟨by rfl, fun w' hSw => ?_⟩) (by assumption) ?_
        rotate_left
        · go_simp
          with_reducible rfl
        simp only [Act.put, List.setIfInBounds_toArray, List.set_cons_zero, List.set_cons_succ]
        refine seq_take (v := ?_) rfl (by kernel_rfl) (by kernel_rfl) (by kernel_rfl) (Or.inl ⟨by rfl, fun w' hSw => ?_⟩) (by assumption) ?_
        rotate_left
        · go_simp
          with_reducible rfl
        simp only [Act.put, List.setIfInBounds_toArray, List.set_cons_zero, List.set_cons_succ]
        refine seq_take (v := ?_) rfl (by kernel_rfl) (by kernel_rfl) (by kernel_rfl) (Or.inl ⟨by rfl, fun w' hSw => ?_⟩) (by assumption) ?_
        rotate_left
        · go_simp
          with_reducible rfl
        simp only [Act.put, List.setIfInBounds_toArray, List.set_cons_zero, List.set_cons_succ]
        iterate 1 (refine seq_later ?_; simp only [List.cons_append, List.nil_append])
        refine seq_do rfl (by kernel_rfl) (by rfl) (fun K hK => ?_)
        go_simp
        refine (uint_any f g A5 c5 o5 V HF.out.1 HV.out.wi.wr_ (by have := D.out.2.2; have := H5.out.2.2; omega)).mono ?_
        intro r w6 hp
        obtain ⟨A6, c6, o6, rfl, ho6, h6⟩ := HV.out.post hp
        have H6 := Lib.hid (show EnX w w6 g A6 c6 o6 gx t ∧ o6 = o5 ++ uintB f ∧ o6.length ≤ o5.length + 9 from ⟨h6, ho6, by rw [ho6, List.length_append]; have := length_uintB_le f; omega⟩)
        clear hp ho6 h6 HV
        refine hK.out (fun z => (z.cell? ⟨gx, 1, none⟩ = some (.int .i64 t.p.fr) ∧ z.cell? ⟨gx, 2, none⟩ = some (.int .i64 t.p.ln))) _ _ (fun _ h => h) ⟨H6.out.1.cells.2.1, H6.out.1.cells.2.2.1⟩ (fun hS => ?_)
        refine seq_do rfl (by kernel_rfl) (by rfl) (fun K hK => ?_)
        go_simp
        refine (uint_any m g A6 c6 o6 w6 HF.out.2 H6.out.1.wi.wr_ (by have := D.out.2.2; have := H5.out.2.2; have := H6.out.2.2; omega)).mono ?_
        intro r w7 hp
        obtain ⟨A7, c7, o7, rfl, ho7, h7⟩ := H6.out.1.post hp
        refine hK.out (fun z => (z.cell? ⟨gx, 1, none⟩ = some (.int .i64 t.p.fr) ∧ z.cell? ⟨gx, 2, none⟩ = some (.int .i64 t.p.ln))) _ _ (fun _ h => h) ⟨h7.cells.2.1, h7.cells.2.2.1⟩ (fun hS => ?_)
        refine seq_done (by kernel_rfl) ?_
        all_goals skip
        have D6 := Lib.hid (show i + 1 ≤ n ∧ ∃ A2 c2 out, WrI w w7 g A2 c2 out ∧ out = uintB ps.length ++ (ps.take (i + 1)).flatMap encP from ⟨HIL.out.2.2, A7, c7, o7, h7.wi, by rw [HST.out.1, HEN.out, ho7, H6.out.2.1]⟩)
        clear hp ho7 h7 H6 H5 hS qa qb ef em hK
        go_wp2_with fail
        go_roundw
        case rel => exact ⟨i + 1, by go_num, D6⟩
        case measure => have := HIL.out; simp [intOf]; omega
      | false =>
        rw [hcp] at k0
        have HCP := Lib.hid hcp
        clear hcp
        have HEN := Lib.hid (show out ++ encP t.p = o5 ++ lenB t.p.b from by rw [H5.out.2.1]; unfold encP; rw [HCP.out]; simp)
        go_wp2_with fail
        refine (bytes_any g A5 c5 o5 t.A t.p.b t.c w5 H5.out.1.wi.wr_ ((HR.out.2 t HTT.out.1).keeps0 H5.out.1.wi.kp) (fun a ha h0 => ?_) ?_).mono ?_
        · have h1 := (HR.out.2 t HTT.out.1).lt (by rw [length_encB]; exact h0) ha
          have h2 := H5.out.1.wi.g0
          refine ⟨by omega, fun hm => ?_⟩
          obtain ⟨b, e1, e2⟩ := mem_blk.1 hm
          have := H5.out.1.wi.a0 b e1
          omega
        · have h1 := HST.out.2
          rw [HEN.out, List.length_append] at h1
          have h2 : t.p.b.length ≤ (lenB t.p.b).length := by unfold lenB; rw [List.length_append]; omega
          omega
        intro r w6 hp
        obtain ⟨A6, c6, o6, rfl, ho6, h6⟩ := H5.out.1.post hp
        have D6 := Lib.hid (show i + 1 ≤ n ∧ ∃ A2 c2 out, WrI w w6 g A2 c2 out ∧ out = uintB ps.length ++ (ps.take (i + 1)).flatMap encP from ⟨HIL.out.2.2, A6, c6, o6, h6.wi, by rw [HST.out.1, HEN.out, ho6]⟩)
        clear hp ho6 h6 H5 k0 k1 k2 k3
        go_wp2_with fail
        go_roundw
        case rel => exact ⟨i + 1, by go_num, D6⟩
        case measure => have := HIL.out; simp [intOf]; omega
    · have hini : ¬ (i : Int) < (n : Int) := by omega
      have HE := Lib.hid (show out = encE10 ps from by
        rw [D.out.2.1, List.take_of_length_le (by have := HN.out; omega)]
        rfl)
      clear hin
      go_wp2_with fail
      refine (done_any g A3 c3 out wr D.out.1.wr_ (by have := D.out.2.2; omega)).mono ?_
      rintro r w5 ⟨A5, c5, l5, hl5, rfl, ho5, hf5, hk5⟩
      have H5 := Lib.hid (show l5 = encE10 ps ∧ OwnB 5 w5 A5 c5 l5 ∧ (∀ a, A5 = some a → w.heap.size ≤ a.block) ∧ Keeps [] w w5 from ⟨by rw [hl5.out, HE.out], ho5, fun a ha => Nat.le_trans D.out.1.kp.size (hf5 a ha), D.out.1.kp.trans hk5 (by simp)⟩)
      clear hl5 ho5 hf5 hk5
      go_wp2_with fail
      go_ret
      exact ⟨A5, c5, l5, H5.out.1, rfl, H5.out.2.1, H5.out.2.2.1, H5.out.2.2.2⟩
end Go.Proofs.YtljinghhalcnnaaDoor
namespace Go.Proofs.YtljinghhalcnnaaDoor
open Go.RowKit

theorem encP_len (p : Pa) (h : p.b.length ≤ 64) : (encP p).length ≤ 80 := by
  unfold encP
  cases p.cp with
  | true =>
    have h1 := length_uintB_le (uN p.fr)
    have h2 := length_uintB_le (uN p.ln)
    rw [if_pos rfl, if_pos rfl, List.length_append, List.length_append]
    simp only [List.length_singleton]
    omega
  | false =>
    have h1 := length_uintB_le p.b.length
    rw [if_neg (by simp), if_neg (by simp), List.length_append]
    unfold lenB
    rw [List.length_append]
    simp only [List.length_singleton]
    omega
theorem encE10_len : ∀ (ps : List Pa), (∀ p ∈ ps, p.b.length ≤ 64) → (ps.flatMap encP).length ≤ 80 * ps.length
  | [], _ => by simp
  | p :: ps, h => by
    have h1 := encP_len p (h p (by simp))
    have h2 := encE10_len ps (fun q hq => h q (by simp [hq]))
    rw [List.flatMap_cons, List.length_append, List.length_cons]
    omega
set_option maxRecDepth 100000 in
set_option maxHeartbeats 4000000 in
theorem diff_any (base target : List UInt8) (hb : base.length = 64) (ht : target.length = 64) (w : World) :
    Calls Tryd.prog 18 #[.agg (encB base).toArray, .agg (encB target).toArray] w (NewB 5 (encE10 (opsE base target)) w) := by
  have HL := Lib.hid (And.intro hb ht)
  obtain ⟨bs, hbs⟩ : ∃ bs, bs = (encB base).toArray := ⟨_, rfl⟩
  obtain ⟨us, hus⟩ : ∃ us, us = (encB target).toArray := ⟨_, rfl⟩
  obtain ⟨g, hg⟩ : ∃ g, g = w.heap.size := ⟨_, rfl⟩
  obtain ⟨gh, hh⟩ : ∃ gh, gh = w.heap.size + 1 := ⟨_, rfl⟩
  obtain ⟨W, hW⟩ : ∃ W, W = (w.alloc (.cells bs 23)).alloc (.cells us 23) := ⟨_, rfl⟩
  have HB := Lib.hid (show Bx w W g gh base target from by
    refine ⟨?_, ?_, ?_⟩
    · rw [hW, hg, hbs]; exact heap_alloc2_old _ _ _
    · rw [hW, hh, hus]; exact heap_alloc2_new _ _ _
    · rw [hW]; exact ((Keeps.refl [] w).alloc _).alloc _)
  have HW := Lib.hid (show W = (w.alloc (.cells bs 23)).alloc (.cells us 23) ∧ gh = w.heap.size + 1 ∧ g = w.heap.size from ⟨hW, hh, hg⟩)
  have HS := Lib.hid (show bs = (encB base).toArray ∧ us = (encB target).toArray from ⟨hbs, hus⟩)
  have HIA := Lib.hid (show (Tryd.prog.info? 23).map (·.size) = some bs.size from by rw [hbs, List.size_toArray, length_encB, hb]; exact infoBlk)
  have HIB := Lib.hid (show (Tryd.prog.info? 23).map (·.size) = some us.size from by rw [hus, List.size_toArray, length_encB, ht]; exact infoBlk)
  rw [← hbs, ← hus]
  clear hb ht hbs hus hg hh hW
  go_enter Tryd.func18, Tryd.ntmps18
  go_upto_region 1 with fail
  rw [← HW.out.1, ← HW.out.2.1, ← HW.out.2.2]
  go_wp2_with (first
    | (refine wpList_load_row rfl 23 (.tmp 2) rfl g rfl 23 bs (0, 0) _ (by rw [HS.out.1]; exact HB.out.b) Tryd.underlying23 rfl HIA.out ?_)
    | (refine wpList_load_row rfl 23 (.tmp 3) rfl gh rfl 23 us (0, 0) _ (by rw [HS.out.2]; exact HB.out.t) Tryd.underlying23 rfl HIB.out ?_))
  have HC := ops_any base target HL.out.1 HL.out.2 W
  rw [← HS.out.1, ← HS.out.2] at HC
  refine HC.mono ?_
  clear HC
  rintro r w1 ⟨A, c, ts, rfl, ho, hp, hl, hbl⟩
  have H1 := Lib.hid (show Keeps [] w w1 ∧ ts.map Pt.p = opsE base target from ⟨HB.out.kp.trans ho.kp (by simp), hp⟩)
  have HE := enc_any A c ts w1 (Rd.of_own ho.own) (fun t ht => (ho.rd t ht).1.rd) (by omega) (by
    unfold encE10
    have h1 := length_uintB_le (ts.map Pt.p).length
    have h2 := encE10_len (ts.map Pt.p) (fun p hp => by obtain ⟨t, ht, rfl⟩ := List.mem_map.1 hp; exact hbl t ht)
    rw [List.length_append]
    rw [List.length_map] at h2
    omega)
  have HEE := Lib.hid HE
  clear ho hp hl hbl HE
  go_wp2_with fail
  refine HEE.out.mono ?_
  rintro r w2 ⟨A2, c2, l, hl, rfl, ho, hf, hk⟩
  have H2 := Lib.hid (show l = encE10 (opsE base target) ∧ OwnB 5 w2 A2 c2 l ∧ (∀ a, A2 = some a → w.heap.size ≤ a.block) ∧ Keeps [] w w2 from ⟨by rw [hl.out, H1.out.2], ho, fun a ha => Nat.le_trans H1.out.1.size (hf a ha), H1.out.1.trans hk (by simp)⟩)
  clear hl ho hf hk
  go_wp2_with fail
  go_ret
  exact ⟨A2, c2, l, H2.out.1, rfl, H2.out.2.1, H2.out.2.2.1, H2.out.2.2.2⟩
end Go.Proofs.YtljinghhalcnnaaDoor
namespace Go.Proofs.YtljinghhalcnnaaDoor
open Go.RowKit
theorem wpList_unguard {P : Program} {ops : Array Oper} {Q : Exit → Act → World → Prop} {a : Act} {w : World} {rest : List Oper} {o : Oper} (hw : Region.wanted o (yielded ops a.tmps) = true)
    (h : wpList P ops Q ({ o with guard := none } :: rest) a w) : wpList P ops Q (o :: rest) a w := by
  unfold wpList at h ⊢
  rw [if_pos hw]
  have h1 : Region.wanted { o with guard := none } (yielded ops a.tmps) = true := by simp [Region.wanted]
  rw [if_pos h1] at h
  exact h
end Go.Proofs.YtljinghhalcnnaaDoor
