/- The longest text in common: plain lists. No program is named here. Words on memory that all proofs of this seat share: what a call keeps, what a slice reads as, an append onto a row of the call's own. No program is named here. Arrays of bytes by value: when they are equal, and as the model compares them. No program is named here. -/
import Derived.WalkKit
import Derived.KernelRfl
import Derived.Lib.Hide
import Derived.Deep.LoopGhost
import Derived.Deep.Draws
import Derived.Lib.SlBytesConst
import Derived.Maps.AppendAt
import Derived.ChangeKeysEq
namespace Go.Proofs.YtljinghhalcnnaaDoor

/-- How many bytes two texts begin with alike. -/
def com : List UInt8 → List UInt8 → Nat
  | a :: x, b :: y => if a = b then com x y + 1 else 0
  | _, _ => 0
theorem com_nil (b : List UInt8) : com [] b = 0 := rfl
theorem com_nil' (a : List UInt8) : com a [] = 0 := by cases a <;> rfl
theorem com_le : ∀ (a b : List UInt8), com a b ≤ a.length ∧ com a b ≤ b.length
  | [], b => by simp [com]
  | a :: x, [] => by simp [com]
  | a :: x, b :: y => by
    have := com_le x y
    unfold com
    split
    · simp only [List.length_cons]; omega
    · simp
/-- Texts are alike for as long as that. -/
theorem com_iff : ∀ (a b : List UInt8) (n : Nat), n ≤ a.length → n ≤ b.length → (n ≤ com a b ↔ a.take n = b.take n)
  | _, _, 0, _, _ => by simp
  | [], _, n + 1, h, _ => by simp at h
  | a :: x, [], n + 1, _, h => by simp at h
  | a :: x, b :: y, n + 1, h1, h2 => by
    have ih := com_iff x y n (by simpa using h1) (by simpa using h2)
    unfold com
    simp only [List.take_succ_cons, List.cons.injEq]
    by_cases h : a = b
    · rw [if_pos h]
      constructor
      · intro h3; exact ⟨h, ih.1 (by omega)⟩
      · rintro ⟨_, h3⟩; have := ih.2 h3; omega
    · rw [if_neg h]
      constructor
      · intro h3; omega
      · rintro ⟨h3, _⟩; exact absurd h3 h
theorem com_is (a b : List UInt8) (n : Nat) (h1 : n ≤ a.length) (h2 : n ≤ b.length) (h : a.take n = b.take n) (hend : n = a.length ∨ n = b.length ∨ ∃ (ha : n < a.length) (hb : n < b.length), a[n] ≠ b[n]) : com a b = n := by
  have h3 := (com_iff a b n h1 h2).2 h
  have h4 := com_le a b
  rcases Nat.lt_or_ge n (com a b) with h5 | h5
  · exfalso
    have h6 := (com_iff a b (n + 1) (by omega) (by omega)).1 (by omega)
    rcases hend with h7 | h7 | ⟨ha, hb, hne⟩
    · omega
    · omega
    · rw [List.take_succ_eq_append_getElem ha, List.take_succ_eq_append_getElem hb, h] at h6
      have h8 := List.append_cancel_left h6
      injection h8 with h9
      exact hne h9
  · omega
/-- Where a base has the longest text that a block goes on with: of the first i places. -/
def best (base t : List UInt8) : Nat → Nat × Nat
  | 0 => (0, 0)
  | i + 1 => if (best base t i).2 < com (base.drop i) t then (i, com (base.drop i) t) else best base t i
def mat (base target : List UInt8) (at_ : Nat) : Nat × Nat := best base (target.drop at_) base.length
theorem best_le (base t : List UInt8) : ∀ i j, j < i → com (base.drop j) t ≤ (best base t i).2
  | 0, j, h => by omega
  | i + 1, j, h => by
    unfold best
    rcases Nat.lt_or_ge j i with h1 | h1
    · have := best_le base t i j h1
      split
      · simp only; omega
      · exact this
    · obtain rfl : j = i := by omega
      split
      · simp
      · omega
theorem best_at (base t : List UInt8) : ∀ i, (best base t i).2 = 0 ∧ (best base t i).1 = 0 ∨ (0 < (best base t i).2 ∧ (best base t i).1 < i ∧ com (base.drop (best base t i).1) t = (best base t i).2 ∧ ∀ j, j < (best base t i).1 → com (base.drop j) t < (best base t i).2)
  | 0 => .inl ⟨rfl, rfl⟩
  | i + 1 => by
    have ih := best_at base t i
    unfold best
    split
    · rename_i h
      exact .inr ⟨by simp only; omega, by simp, rfl, fun j hj => by
        have h1 := best_le base t i j hj
        simp only
        omega⟩
    · rename_i h
      rcases ih with h1 | ⟨h1, h2, h3, h4⟩
      · exact .inl h1
      · exact .inr ⟨h1, by omega, h3, h4⟩
theorem best_len (base t : List UInt8) (i : Nat) (hi : i ≤ base.length) : (best base t i).1 ≤ base.length ∧ (best base t i).2 ≤ t.length ∧ (best base t i).1 + (best base t i).2 ≤ base.length := by
  rcases best_at base t i with ⟨h1, h2⟩ | ⟨h1, h2, h3, _⟩
  · omega
  · have h4 := com_le (base.drop (best base t i).1) t
    rw [List.length_drop] at h4
    omega
end Go.Proofs.YtljinghhalcnnaaDoor
namespace Go.Proofs.YtljinghhalcnnaaDoor
open Go.RowKit

/-! ## Small words -/
theorem ret_val {a b : Value} (h : a = b) : Ending.returned a = .returned b := by rw [h]
theorem ret_int {k : IntKind} {a b : Int} (h : a = b) : Ending.returned (.int k a) = .returned (.int k b) := by rw [h]

theorem add_block (a : Addr) (n : Nat) : (a.add n).block = a.block := by unfold Addr.add; split <;> rfl
theorem add_add (a : Addr) (i j : Nat) : (a.add i).add j = a.add (i + j) := by
  unfold Addr.add
  by_cases hi : i = 0 <;> by_cases hj : j = 0 <;> simp [hi, hj, Nat.add_assoc]
theorem add_new (g o n : Nat) : (⟨g, o, none⟩ : Addr).add n = ⟨g, o + n, none⟩ := by
  unfold Addr.add; split <;> simp_all

/-! ## What a call keeps: all blocks that were there but those of a list -/
structure Keeps (S : List Nat) (w w' : World) : Prop where
  os : w'.os = w.os
  tape : w'.tape = w.tape
  output : w'.output = w.output
  size : w.heap.size ≤ w'.heap.size
  block : ∀ k, k < w.heap.size → k ∉ S → w'.heap[k]? = w.heap[k]?

theorem Keeps.refl (S : List Nat) (w : World) : Keeps S w w := ⟨rfl, rfl, rfl, Nat.le_refl _, fun _ _ _ => rfl⟩
theorem Keeps.trans {S T : List Nat} {a b c : World} (h : Keeps S a b) (k : Keeps T b c) (hT : ∀ t ∈ T, t ∈ S ∨ a.heap.size ≤ t) : Keeps S a c :=
  ⟨k.os.trans h.os, k.tape.trans h.tape, k.output.trans h.output, Nat.le_trans h.size k.size, fun i hi hn =>
    (k.block i (Nat.lt_of_lt_of_le hi h.size) (fun ht => (hT i ht).elim hn (fun h' => absurd hi (by omega)))).trans (h.block i hi hn)⟩
theorem Keeps.mono {S T : List Nat} {a b : World} (h : Keeps S a b) (hT : ∀ t ∈ S, t ∈ T ∨ a.heap.size ≤ t) : Keeps T a b :=
  ⟨h.os, h.tape, h.output, h.size, fun i hi hn => h.block i hi (fun hs => (hT i hs).elim hn (fun h' => absurd hi (by omega)))⟩
theorem Keeps.drew {S : List Nat} {a b : World} (h : Keeps S a b) : Keeps S a b.drew := ⟨h.os, h.tape, h.output, h.size, h.block⟩
theorem Keeps.drewN {S : List Nat} {a b : World} (h : Keeps S a b) (n : Nat) : Keeps S a (b.drewN n) := ⟨h.os, h.tape, h.output, h.size, h.block⟩
theorem Keeps.undrew {S : List Nat} {a b : World} (h : Keeps S a.drew b) : Keeps S a b := ⟨h.os, h.tape, h.output, h.size, h.block⟩
theorem Keeps.undrewN {S : List Nat} {a b : World} {n : Nat} (h : Keeps S (a.drewN n) b) : Keeps S a b := ⟨h.os, h.tape, h.output, h.size, h.block⟩
theorem Keeps.alloc {S : List Nat} {a b : World} (h : Keeps S a b) (o : Obj) : Keeps S a (b.alloc o) :=
  h.trans (T := []) ⟨rfl, rfl, rfl, by simp, fun k hk _ => Below.heap_alloc _ _ _ hk⟩ (fun _ h => by simp at h)
theorem Keeps.setCell {S : List Nat} {a b : World} (h : Keeps S a b) {p : Addr} (hp : p.block ∈ S ∨ a.heap.size ≤ p.block) (u : Value) : Keeps S a (b.setCell p u) :=
  h.trans (T := [p.block]) ⟨rfl, rfl, rfl, by simp [World.setCell], fun k _ hk => heap_setCell_other _ _ _ _ (by simpa using hk)⟩ (fun t ht => by simp at ht; subst ht; exact hp)
theorem Keeps.grown {S : List Nat} {a b c : World} {row : Option Nat} (h : Keeps S a b) (hg : b.grownBy c row) (hr : ∀ g, row = some g → g ∈ S ∨ a.heap.size ≤ g) : Keeps S a c :=
  h.trans (T := row.toList) ⟨hg.os, hg.tape, hg.output, hg.size, fun k hk hn => hg.block k hk (fun e => hn (by rw [← e]; simp))⟩ (fun t ht => hr t (by simpa using ht))
theorem Keeps.below {S : List Nat} {w w' : World} (h : Keeps S w w') {B : Nat} (hB : B ≤ w.heap.size) (hS : ∀ s ∈ S, B ≤ s) : Below B w w' :=
  ⟨h.os, h.tape, h.output, h.size, fun k hk => h.block k (by omega) (fun hs => absurd (hS k hs) (by omega))⟩
theorem Keeps.of_below {w w' : World} (h : Below w.heap.size w w') (S : List Nat) : Keeps S w w' := ⟨h.os, h.tape, h.output, h.size, fun k hk _ => h.block k hk⟩
theorem Keeps.cell {S : List Nat} {w w' : World} (h : Keeps S w w') {p : Addr} {v : Value} (hc : w.cell? p = some v) (hp : p.block ∉ S) : w'.cell? p = some v :=
  (World.cell?_of_block (w := w) (h.block p.block (block_lt_of_cell hc) hp)).trans hc

/-! ## What a slice reads as -/
def Rd (w : World) (A : Option Addr) (n size : Nat) (xs : List Value) : Prop :=
  xs.length = n * size ∧ (0 < xs.length → ∃ ad, A = some ad ∧ ∀ j u, xs[j]? = some u → w.cell? (ad.add j) = some u)

theorem Rd.nil (w : World) (A : Option Addr) (size : Nat) : Rd w A 0 size [] := ⟨by simp, fun h => absurd h (by simp)⟩
theorem Rd.cells {w : World} {A : Option Addr} {n size : Nat} {xs : List Value} (h : Rd w A n size xs) {ad : Addr} (e : A = some ad) : ∀ j u, xs[j]? = some u → w.cell? (ad.add j) = some u := by
  intro j u hu
  have hl : 0 < xs.length := by
    rcases Nat.eq_zero_or_pos xs.length with h0 | h0
    · rw [List.eq_nil_of_length_eq_zero h0] at hu; simp at hu
    · exact h0
  obtain ⟨ad', e', hc⟩ := h.2 hl
  rw [e] at e'
  obtain rfl := Option.some.inj e'
  exact hc j u hu
theorem Rd.at_ {w : World} {A : Option Addr} {n size : Nat} {xs : List Value} (h : Rd w A n size xs) {k : Nat} (hk : k < xs.length) : ∃ ad, A = some ad ∧ w.cell? (ad.add k) = some xs[k] := by
  obtain ⟨ad, e, hc⟩ := h.2 (by omega)
  exact ⟨ad, e, hc k _ (List.getElem?_eq_getElem hk)⟩
theorem Rd.lt {w : World} {A : Option Addr} {n size : Nat} {xs : List Value} (h : Rd w A n size xs) (hl : 0 < xs.length) {ad : Addr} (e : A = some ad) : ad.block < w.heap.size := by
  have := h.cells e 0 _ (List.getElem?_eq_getElem hl)
  have := block_lt_of_cell this
  simpa [add_block] using this
theorem Rd.keep {w w' : World} {A : Option Addr} {n size : Nat} {xs : List Value} (h : Rd w A n size xs)
    (hk : ∀ p : Addr, (∀ ad, A = some ad → p.block = ad.block) → ∀ v, w.cell? p = some v → w'.cell? p = some v) : Rd w' A n size xs :=
  ⟨h.1, fun hn => by
    obtain ⟨ad, e, hc⟩ := h.2 hn
    exact ⟨ad, e, fun j u hu => hk _ (fun ad' e' => by rw [e] at e'; rw [add_block, Option.some.inj e']) _ (hc j u hu)⟩⟩
theorem Rd.keeps {S : List Nat} {w w' : World} {A : Option Addr} {n size : Nat} {xs : List Value} (h : Rd w A n size xs) (hk : Keeps S w w')
    (hA : ∀ ad, A = some ad → 0 < xs.length → ad.block ∉ S) : Rd w' A n size xs :=
  ⟨h.1, fun hn => by
    obtain ⟨ad, e, hc⟩ := h.2 hn
    exact ⟨ad, e, fun j u hu => hk.cell (hc j u hu) (by rw [add_block]; exact hA ad e hn)⟩⟩
theorem Rd.keeps0 {w w' : World} {A : Option Addr} {n size : Nat} {xs : List Value} (h : Rd w A n size xs) (hk : Keeps [] w w') : Rd w' A n size xs := h.keeps hk (fun _ _ _ => by simp)
theorem Rd.below {B : Nat} {w w' : World} {A : Option Addr} {n size : Nat} {xs : List Value} (h : Rd w A n size xs) (hk : Below B w w')
    (hA : ∀ ad, A = some ad → 0 < xs.length → ad.block < B) : Rd w' A n size xs :=
  ⟨h.1, fun hn => by
    obtain ⟨ad, e, hc⟩ := h.2 hn
    exact ⟨ad, e, fun j u hu => (hk.cell (by rw [add_block]; exact hA ad e hn)).trans (hc j u hu)⟩⟩
theorem Rd.alloc {w : World} {A : Option Addr} {n size : Nat} {xs : List Value} (h : Rd w A n size xs) (o : Obj) : Rd (w.alloc o) A n size xs := h.keeps0 ((Keeps.refl [] w).alloc o)
theorem Rd.drew {w : World} {A : Option Addr} {n size : Nat} {xs : List Value} (h : Rd w A n size xs) : Rd w.drew A n size xs := h
theorem Rd.drewN {w : World} {A : Option Addr} {n size : Nat} {xs : List Value} (h : Rd w A n size xs) (k : Nat) : Rd (w.drewN k) A n size xs := h
theorem Rd.of_own {w : World} {base e size n c : Nat} {A : Option Addr} {xs : List Value} (h : w.ownsRow base e size (.slice A n c) n xs) : Rd w A n size xs := by
  refine ⟨h.1, fun hn => ?_⟩
  rcases h.2 with ⟨_, hn0⟩ | ⟨g, cap, cur, hv, _⟩
  · exfalso; have := h.1; rw [hn0] at this; omega
  · have hA : A = some ⟨g, 0, none⟩ := by injection hv
    subst hA
    exact ⟨_, rfl, h.cells (g := g) rfl⟩
/-- A part of a slice: from place k on, m of its elements. -/
theorem Rd.part {w : World} {A : Option Addr} {n size : Nat} {xs : List Value} (h : Rd w A n size xs) (k m : Nat) (hk : k + m ≤ n) {A' : Option Addr}
    (hA : 0 < m → ∀ ad, A = some ad → A' = some (ad.add (k * size))) : Rd w A' m size ((xs.drop (k * size)).take (m * size)) := by
  have hle : k * size + m * size ≤ n * size := by rw [← Nat.add_mul]; exact Nat.mul_le_mul_right _ hk
  have hlen : ((xs.drop (k * size)).take (m * size)).length = m * size := by rw [List.length_take, List.length_drop, h.1]; omega
  refine ⟨hlen, fun hn => ?_⟩
  rw [hlen] at hn
  have hm : 0 < m := Nat.pos_of_mul_pos_right hn
  obtain ⟨ad, e, hc⟩ := h.2 (by rw [h.1]; omega)
  refine ⟨ad.add (k * size), hA hm ad e, fun j u hu => ?_⟩
  rw [add_add]
  rw [List.getElem?_take] at hu
  split at hu
  · rw [List.getElem?_drop] at hu; exact hc _ u hu
  · cases hu

/-! ## Bytes -/
def encB (l : List UInt8) : List Value := l.map fun c => .int .u8 (c.toNat : Int)
@[simp] theorem length_encB (l : List UInt8) : (encB l).length = l.length := by simp [encB]
theorem encB_append (a b : List UInt8) : encB (a ++ b) = encB a ++ encB b := by simp [encB]
theorem encB_take (l : List UInt8) (n : Nat) : encB (l.take n) = (encB l).take n := by simp [encB]
theorem encB_drop (l : List UInt8) (n : Nat) : encB (l.drop n) = (encB l).drop n := by simp [encB]
theorem encB_get (l : List UInt8) (k : Nat) (h : k < l.length) : (encB l)[k]'(by simpa using h) = .int .u8 (l[k].toNat : Int) := by simp [encB]
theorem encB_one (l : List UInt8) : ∀ u ∈ encB l, u.oneCell' = true := by
  intro u hu
  simp [encB] at hu
  obtain ⟨c, _, rfl⟩ := hu
  rfl
/-- These bytes lie at the slice. -/
def RdB (w : World) (A : Option Addr) (l : List UInt8) : Prop := Rd w A l.length 1 (encB l)
theorem RdB.nil (w : World) (A : Option Addr) : RdB w A [] := Rd.nil w A 1
theorem RdB.at_ {w : World} {A : Option Addr} {l : List UInt8} (h : RdB w A l) {k : Nat} (hk : k < l.length) : ∃ ad, A = some ad ∧ w.cell? (ad.add k) = some (.int .u8 (l[k].toNat : Int)) := by
  obtain ⟨ad, e, hc⟩ := Rd.at_ h (k := k) (by simpa using hk)
  exact ⟨ad, e, by rw [hc, encB_get l k hk]⟩
theorem RdB.alloc {w : World} {A : Option Addr} {l : List UInt8} (h : RdB w A l) (o : Obj) : RdB (w.alloc o) A l := Rd.alloc h o
theorem RdB.drew {w : World} {A : Option Addr} {l : List UInt8} (h : RdB w A l) : RdB w.drew A l := h
theorem RdB.drewN {w : World} {A : Option Addr} {l : List UInt8} (h : RdB w A l) (k : Nat) : RdB (w.drewN k) A l := h
theorem RdB.keeps0 {w w' : World} {A : Option Addr} {l : List UInt8} (h : RdB w A l) (hk : Keeps [] w w') : RdB w' A l := Rd.keeps0 h hk
theorem RdB.keeps {S : List Nat} {w w' : World} {A : Option Addr} {l : List UInt8} (h : RdB w A l) (hk : Keeps S w w') (hA : ∀ ad, A = some ad → 0 < l.length → ad.block ∉ S) : RdB w' A l :=
  Rd.keeps h hk (fun ad e hl => hA ad e (by simpa using hl))
/-- A literal's bytes, in a block just made. -/
theorem RdB.lit (w : World) (l : List UInt8) (e : TypeId) (fr : Nat × Nat) : RdB (w.alloc (.cells (encB l).toArray e fr)) (some ⟨w.heap.size, 0, none⟩) l := by
  refine ⟨by simp, fun _ => ⟨_, rfl, fun j u hu => ?_⟩⟩
  rw [add_new, cell_of_row _ _ _ _ _ _ (heap_alloc_new _ _)]
  simpa using hu
theorem RdB.part {w : World} {A : Option Addr} {l : List UInt8} (h : RdB w A l) (k m : Nat) (hk : k + m ≤ l.length) {A' : Option Addr}
    (hA : 0 < m → ∀ ad, A = some ad → A' = some (ad.add k)) : RdB w A' ((l.drop k).take m) := by
  have := Rd.part h k m hk (A' := A') (by simpa using hA)
  unfold RdB
  rw [encB_take, encB_drop]
  simpa [show min m (l.length - k) = m by omega] using this

/-! ## An append onto a row of one's own, the source nil, empty or not -/
theorem run_append_nil_src {P : Program} (w : World) (base : Nat) (t ty e : TypeId) (i : TypeInfo) (size : Nat) (ht : P.underlying t = some (.slice e)) (hi : P.info? e = some i)
    (v : Value) (n : Nat) (xs : List Value) (hown : w.ownsRow base e size v n xs) (c : Nat) : (Builtin.append_ #[t, t] ty #[v, .slice none 0 c]).run P w = .ok v w := by
  rcases hown.2 with ⟨rfl, rfl⟩ | ⟨g, cap, cur, rfl, _, _, hnc, _⟩
  · simp [Builtin.append_, run_underlying ht, sizeOf, typeInfo, hi, Builtin.lenOf, Builtin.firstCells]
  · simp [Builtin.append_, run_underlying ht, sizeOf, typeInfo, hi, Builtin.lenOf, Builtin.firstCells, hnc, storeCells]

theorem run_append_rd {P : Program} (w : World) (t ty e : TypeId) (z : Value) (size bytes : Nat) (ht : P.underlying t = some (.slice e))
    (hinfo : (P.info? e).map (fun i => (i.zero, i.size, i.bytes)) = some (some z, size, bytes)) (hzs : z.cells.size = size) (hsz : 0 < size)
    (A : Option Addr) (n cv : Nat) (xs : List Value) (hown : w.ownsRow 0 e size (.slice A n cv) n xs)
    (A2 : Option Addr) (m c : Nat) (news : List Value) (hr : Rd w A2 m size news) (h1 : ∀ u ∈ news, u.oneCell' = true) (h63 : n + m ≤ maxLen) (hbytes : (n + m) * bytes ≤ 140737488355328) :
    ∃ A' c' w', (Builtin.append_ #[t, t] ty #[.slice A n cv, .slice A2 m c]).run P w = .ok (.slice A' (n + m) c') w' ∧ w'.ownsRow 0 e size (.slice A' (n + m) c') (n + m) (xs ++ news) ∧
      Keeps (A.map (·.block)).toList w w' ∧ (∀ a, A' = some a → a.block ∈ (A.map (·.block)).toList ∨ w.heap.size ≤ a.block) := by
  obtain ⟨i, hi, hz0, hz1, hz2⟩ := info_parts hinfo
  have key : ∃ v' w', (Builtin.append_ #[t, t] ty #[.slice A n cv, .slice A2 m c]).run P w = .ok v' w' ∧ w'.ownsRow 0 e size v' (n + m) (xs ++ news) ∧ w.grownBy w' (Value.ownBlock (.slice A n cv)) ∧
      (v'.ownBlock = Value.ownBlock (.slice A n cv) ∨ v'.ownBlock = some w.heap.size) := by
    rcases A2 with _ | ad
    · have hm : news.length = 0 := by
        rcases Nat.eq_zero_or_pos news.length with h0 | h0
        · exact h0
        · obtain ⟨ad, h, _⟩ := hr.2 h0
          cases h
      have hm0 : m = 0 := by
        have := hr.1; rw [hm] at this
        rcases Nat.eq_zero_or_pos m with h0 | h0
        · exact h0
        · have := Nat.mul_pos h0 hsz; omega
      subst hm0
      have hn : news = [] := List.eq_nil_of_length_eq_zero hm
      subst hn
      exact ⟨_, w, run_append_nil_src w 0 t ty e i size ht hi _ n xs hown c, by simpa using hown, World.grownBy.refl w _, .inl rfl⟩
    · obtain ⟨v', w', h1, h2, h3, _, h5⟩ := run_append_own_at (P := P) w 0 t ty e i z size bytes ht hi hz0 hz1 hz2 hzs hsz _ n xs hown ad m c news hr.1 (hr.cells rfl) h1 h63 hbytes (Nat.zero_le _)
      exact ⟨v', w', h1, h2, h3, h5⟩
  obtain ⟨v', w', hrun, ho, hg, hb⟩ := key
  have hshape : ∃ A' c', v' = .slice A' (n + m) c' := by
    rcases ho.2 with ⟨h, h0⟩ | ⟨g, cap, cur, h, _⟩
    · exact ⟨none, 0, by rw [h, h0]⟩
    · exact ⟨_, cap, h⟩
  obtain ⟨A', c', rfl⟩ := hshape
  refine ⟨A', c', w', hrun, ho, ⟨hg.os, hg.tape, hg.output, hg.size, fun k hk hn => hg.block k hk (fun e => hn ?_)⟩, fun a ha => ?_⟩
  · cases A with
    | none => simp [Value.ownBlock] at e
    | some a0 => simp only [Value.ownBlock, Option.some.injEq] at e; simp [e]
  · subst ha
    cases A with
    | none => rcases hb with hb | hb <;> simp [Value.ownBlock] at hb ⊢; omega
    | some a0 => rcases hb with hb | hb <;> simp [Value.ownBlock] at hb ⊢ <;> omega

theorem ownsRow_keeps {S : List Nat} {w w' : World} {base e size n m c : Nat} {A : Option Addr} {xs : List Value} (h : w.ownsRow base e size (.slice A m c) n xs) (hk : Keeps S w w')
    (hA : ∀ ad, A = some ad → ad.block ∉ S) : w'.ownsRow base e size (.slice A m c) n xs := by
  refine ⟨h.1, ?_⟩
  rcases h.2 with h2 | ⟨g, cap, cur, hv, hg, hh, r⟩
  · exact .inl h2
  · have hA' : A = some ⟨g, 0, none⟩ := by injection hv
    exact .inr ⟨g, cap, cur, hv, hg, (hk.block g (lt_of_block hh) (hA _ hA')).trans hh, r⟩
theorem ownsRow_lt {w : World} {base e size n m c : Nat} {A : Option Addr} {xs : List Value} (h : w.ownsRow base e size (.slice A m c) n xs) : ∀ ad, A = some ad → ad.block < w.heap.size := by
  intro ad e
  exact (h.lt ad.block (by rw [e]; rfl)).2

/-! ## Bytes of one's own -/
def OwnB (E : TypeId) (w : World) (A : Option Addr) (c : Nat) (l : List UInt8) : Prop := w.ownsRow 0 E 1 (.slice A l.length c) l.length (encB l)
def blk (A : Option Addr) : List Nat := (A.map (·.block)).toList
theorem mem_blk {A : Option Addr} {b : Nat} : b ∈ blk A ↔ ∃ a, A = some a ∧ a.block = b := by cases A <;> simp [blk, eq_comm]
theorem blk_none : blk none = [] := rfl
theorem OwnB.rd {E : TypeId} {w : World} {A : Option Addr} {c : Nat} {l : List UInt8} (h : OwnB E w A c l) : RdB w A l := Rd.of_own h
theorem OwnB.nil (E : TypeId) (w : World) : OwnB E w none 0 [] := World.ownsRow_nil w 0 E 1
theorem OwnB.keeps {E : TypeId} {S : List Nat} {w w' : World} {A : Option Addr} {c : Nat} {l : List UInt8} (h : OwnB E w A c l) (hk : Keeps S w w') (hA : ∀ ad, A = some ad → ad.block ∉ S) : OwnB E w' A c l := ownsRow_keeps h hk hA
theorem OwnB.keeps0 {E : TypeId} {w w' : World} {A : Option Addr} {c : Nat} {l : List UInt8} (h : OwnB E w A c l) (hk : Keeps [] w w') : OwnB E w' A c l := ownsRow_keeps h hk (fun _ _ => by simp)
theorem OwnB.lt {E : TypeId} {w : World} {A : Option Addr} {c : Nat} {l : List UInt8} (h : OwnB E w A c l) : ∀ ad, A = some ad → ad.block < w.heap.size := ownsRow_lt h
theorem OwnB.drew {E : TypeId} {w : World} {A : Option Addr} {c : Nat} {l : List UInt8} (h : OwnB E w A c l) : OwnB E w.drew A c l := h
theorem OwnB.alloc {E : TypeId} {w : World} {A : Option Addr} {c : Nat} {l : List UInt8} (h : OwnB E w A c l) (o : Obj) : OwnB E (w.alloc o) A c l := World.ownsRow.alloc h o
/-- A call hands back bytes in new memory, and nothing else has turned. -/
def NewB (E : TypeId) (spec : List UInt8) (w : World) (e : Ending) (w' : World) : Prop :=
  ∃ A c l, Hid (l = spec) ∧ e = .returned (.slice A l.length c) ∧ OwnB E w' A c l ∧ (∀ a, A = some a → w.heap.size ≤ a.block) ∧ Keeps [] w w'

/-- 'append(xs, ys...)' at bytes: xs one's own, ys whatever. -/
theorem wpList_appendB {P : Program} {w : World} {ops : Array Oper} {rest : List Oper} {o : Oper} {a : Act} {Q : Exit → Act → World → Prop} (hgd : o.guard = none) (s x : Operand) (t E : TypeId)
    (ho : o.op = .call { callee := .builtin .append, args := #[s, x], argTypes := #[t, t] }) (ht : P.underlying t = some (.slice E))
    (hinfo : (P.info? E).map (fun i => (i.zero, i.size, i.bytes)) = some (some (.int .u8 0), 1, 1))
    (A : Option Addr) (cv : Nat) (l : List UInt8) (hs : a.eval s = .slice A l.length cv) (hown : OwnB E w A cv l)
    (A2 : Option Addr) (c : Nat) (l2 : List UInt8) (hx : a.eval x = .slice A2 l2.length c) (hr : RdB w A2 l2) (hb : l.length + l2.length ≤ 140737488355328)
    (h : ∀ A' c' w' l', Hid (l' = l ++ l2) → OwnB E w' A' c' l' → Keeps (blk A) w w' → (∀ a, A' = some a → a.block ∈ blk A ∨ w.heap.size ≤ a.block) → wpList P ops Q rest (a.put o.dst (.slice A' l'.length c')) w') :
    wpList P ops Q (o :: rest) a w := by
  refine wpList_plain hgd fun K hK => ?_
  obtain ⟨A', c', w', hrun, h2, h3, h4⟩ := run_append_rd (P := P) w t o.type E (.int .u8 0) 1 1 ht hinfo rfl (by decide) A l.length cv (encB l) hown A2 l2.length c (encB l2) hr (encB_one l2) (by unfold maxLen; omega) (by omega)
  have hl : l.length + l2.length = (l ++ l2).length := by simp
  rw [hl] at h2 hrun
  rw [← encB_append] at h2
  unfold Oper.wp execOp
  simp only [ho, resolve, invoke, builtin, Sem.run_bind, Sem.run_pure, Result.andThen_ok, List.map_toArray, List.map_cons, List.map_nil, hs, hx, hrun]
  exact hK _ _ (h A' c' w' (l ++ l2) rfl h2 h3 h4)

/-- The same at a step of a region that draws its order. -/
theorem step_appendB {P : Program} {w : World} {ops : Array Oper} {o : Oper} {a : Act} {K : Act → World → Prop} {Q : Exit → Act → World → Prop} {E' : Prop} (hgd : o.guard = none) (s x : Operand) (t E : TypeId)
    (ho : o.op = .call { callee := .builtin .append, args := #[s, x], argTypes := #[t, t] }) (ht : P.underlying t = some (.slice E))
    (hinfo : (P.info? E).map (fun i => (i.zero, i.size, i.bytes)) = some (some (.int .u8 0), 1, 1))
    (A : Option Addr) (cv : Nat) (l : List UInt8) (hs : a.eval s = .slice A l.length cv) (hown : OwnB E w A cv l)
    (A2 : Option Addr) (c : Nat) (l2 : List UInt8) (hx : a.eval x = .slice A2 l2.length c) (hr : RdB w A2 l2) (hb : l.length + l2.length ≤ 140737488355328)
    (h : ∀ A' c' w' l', Hid (l' = l ++ l2) → OwnB E w' A' c' l' → Keeps (blk A) w w' → (∀ a, A' = some a → a.block ∈ blk A ∨ w.heap.size ≤ a.block) → K (a.put o.dst (.slice A' l'.length c')) w') :
    if Region.wanted o (yielded ops a.tmps) then o.wp P a w K Q else E' := by
  rw [if_pos (by simp [Region.wanted, hgd])]
  obtain ⟨A', c', w', hrun, h2, h3, h4⟩ := run_append_rd (P := P) w t o.type E (.int .u8 0) 1 1 ht hinfo rfl (by decide) A l.length cv (encB l) hown A2 l2.length c (encB l2) hr (encB_one l2) (by unfold maxLen; omega) (by omega)
  have hl : l.length + l2.length = (l ++ l2).length := by simp
  rw [hl] at h2 hrun
  rw [← encB_append] at h2
  unfold Oper.wp execOp
  simp only [ho, resolve, invoke, builtin, Sem.run_bind, Sem.run_pure, Result.andThen_ok, List.map_toArray, List.map_cons, List.map_nil, hs, hx, hrun]
  exact h A' c' w' (l ++ l2) rfl h2 h3 h4

/-- What was written behind a fresh value's block is as nothing to the world before. -/
theorem Keeps.fresh {A : Option Addr} {a b c : World} (h : Keeps [] a b) (k : Keeps (blk A) b c) (hn : ∀ ad, A = some ad → a.heap.size ≤ ad.block) : Keeps [] a c :=
  h.trans k (fun t ht => by
    obtain ⟨a1, e1, e2⟩ := mem_blk.1 ht
    have := hn a1 e1
    exact .inr (by omega))
theorem fresh_append {A A' : Option Addr} {w : World} {B : Nat} (hb : ∀ a, A' = some a → a.block ∈ blk A ∨ w.heap.size ≤ a.block) (hn : ∀ ad, A = some ad → B ≤ ad.block) (hB : B ≤ w.heap.size) : ∀ a, A' = some a → B ≤ a.block := by
  intro a ha
  rcases hb a ha with h | h
  · obtain ⟨a1, e1, e2⟩ := mem_blk.1 h
    have := hn a1 e1
    omega
  · omega
/-- Where the bytes lie. -/
theorem Rd.form {w : World} {A : Option Addr} {n size : Nat} {xs : List Value} (h : Rd w A n size xs) (hl : 0 < xs.length) : ∃ g o, A = some ⟨g, o, none⟩ ∧ ∀ j u, xs[j]? = some u → w.cell? ⟨g, o + j, none⟩ = some u := by
  obtain ⟨ad, e, hc⟩ := h.2 hl
  have h0 := hc 0 _ (List.getElem?_eq_getElem hl)
  have hs : ad.spot = none := by
    have : (ad.add 0) = ad := by simp [Addr.add]
    rw [this] at h0
    unfold World.cell? at h0
    split at h0
    · split at h0
      · cases h0
      · rename_i hs; simpa using hs
    · cases h0
  obtain ⟨g, o, sp⟩ := ad
  simp only at hs
  subst hs
  exact ⟨g, o, e, fun j u hu => by have := hc j u hu; rwa [add_new] at this⟩
theorem RdB.form {w : World} {A : Option Addr} {l : List UInt8} (h : RdB w A l) (hl : 0 < l.length) : ∃ g o, A = some ⟨g, o, none⟩ ∧ ∀ j (hj : j < l.length), w.cell? ⟨g, o + j, none⟩ = some (.int .u8 (l[j].toNat : Int)) := by
  obtain ⟨g, o, e, hc⟩ := Rd.form h (by simpa using hl)
  exact ⟨g, o, e, fun j hj => hc j _ (by rw [List.getElem?_eq_getElem (by simpa using hj), encB_get l j hj])⟩
theorem RdB.empty {w : World} {l : List UInt8} (h : RdB w none l) : l = [] := by
  rcases Nat.eq_zero_or_pos l.length with h0 | h0
  · exact List.eq_nil_of_length_eq_zero h0
  · obtain ⟨ad, e, _⟩ := h.at_ (k := 0) h0
    cases e
end Go.Proofs.YtljinghhalcnnaaDoor
namespace Go.Proofs.YtljinghhalcnnaaDoor
open Go.RowKit

section
variable {P : Program} (w : World)
theorem run_part_one {e : TypeId} {d : TypeDesc} (he : P.underlying e = some d) (hd : (match d with | .struct _ => true | .array _ _ => true | _ => false) = false) (xs : Array Value) (i : Nat) (v : Value) (h : xs[i]? = some v) :
    (part e xs i).run P w = .ok v w := by
  unfold part isAgg
  simp only [Sem.run_bind, run_underlying he, Result.andThen_ok, h]
  cases d <;> simp_all

theorem run_eqItems_u8 {e : TypeId} (he : P.underlying e = some (.int .u8)) (hc : P.cellsOf e = 1) (d : Nat) (a b : List UInt8) (hab : a.length = b.length) :
    ∀ m k, k + m = a.length → (Op.eqItems (d + 1) e (P.cellsOf e) (encB a).toArray (encB b).toArray (List.range' k m)).run P w = .ok (a.drop k == b.drop k) w := by
  intro m
  induction m with
  | zero =>
    intro k hk
    rw [List.drop_of_length_le (by omega), List.drop_of_length_le (by omega)]
    simp [Op.eqItems]
  | succ m ih =>
    intro k hk
    have h1 : (encB a).toArray[k * P.cellsOf e]? = some (.int .u8 (a[k].toNat : Int)) := by simp [hc, encB, List.getElem?_eq_getElem (show k < a.length by omega)]
    have h2 : (encB b).toArray[k * P.cellsOf e]? = some (.int .u8 (b[k].toNat : Int)) := by simp [hc, encB, List.getElem?_eq_getElem (show k < b.length by omega)]
    rw [List.range'_succ]
    simp only [Op.eqItems, Sem.run_bind, run_part_one w he rfl _ _ _ h1, run_part_one w he rfl _ _ _ h2, Result.andThen_ok]
    simp only [Op.equalIn, Sem.run_bind, run_underlying he, Result.andThen_ok, if_true, Sem.run_pure]
    rw [List.drop_eq_getElem_cons (show k < a.length by omega), List.drop_eq_getElem_cons (show k < b.length by omega)]
    by_cases h : a[k] = b[k]
    · have e1 : ((a[k].toNat : Int) == (b[k].toNat : Int)) = true := by simp [h]
      rw [e1]
      simp only [Bool.not_true, Bool.false_eq_true, if_false, ih (k + 1) (by omega)]
      rw [List.cons_beq_cons, show (a[k] == b[k]) = true by simpa using h, Bool.true_and]
    · have e1 : ((a[k].toNat : Int) == (b[k].toNat : Int)) = false := by
        rw [beq_eq_false_iff_ne]
        intro hh
        exact h (UInt8.toNat_inj.1 (by omega))
      rw [e1]
      simp only [Bool.not_false, if_true, Sem.run_pure]
      rw [List.cons_beq_cons, show (a[k] == b[k]) = false by simpa using h, Bool.false_and]

theorem run_equalIn_arrB {t e : TypeId} {n : Nat} (hu : P.underlying t = some (.array n e)) (he : P.underlying e = some (.int .u8)) (hsome : (P.info? e).isSome = true) (hc : P.cellsOf e = 1)
    (a b : List UInt8) (ha : a.length = n) (hb : b.length = n) : (Op.equalIn 10000 t (.agg (encB a).toArray) (.agg (encB b).toArray)).run P w = .ok (a == b) w := by
  obtain ⟨i, hi⟩ := Option.isSome_iff_exists.1 hsome
  have h := run_eqItems_u8 (P := P) w he hc 9998 a b (by omega) n 0 (by omega)
  rw [List.drop_zero, List.drop_zero, ← List.range_eq_range'] at h
  rw [run_equalIn_array w 9999 (encB a).toArray (encB b).toArray hu hi]
  exact h
theorem run_eql_arrB {t e : TypeId} {n : Nat} (hu : P.underlying t = some (.array n e)) (he : P.underlying e = some (.int .u8)) (hsome : (P.info? e).isSome = true) (hc : P.cellsOf e = 1)
    (a b : List UInt8) (ha : a.length = n) (hb : b.length = n) : (binOp .eql t (.agg (encB a).toArray) (.agg (encB b).toArray)).run P w = .ok (.bool (a == b)) w := by
  obtain ⟨i, hi⟩ := Option.isSome_iff_exists.1 hsome
  have h := run_eqItems_u8 (P := P) w he hc 9998 a b (by omega) n 0 (by omega)
  rw [List.drop_zero, List.drop_zero, ← List.range_eq_range'] at h
  simp only [binOp]
  simp [Op.equal, Op.maxDepth, run_equalIn_array w 9999 (encB a).toArray (encB b).toArray hu hi, h]
theorem run_neq_arrB {t e : TypeId} {n : Nat} (hu : P.underlying t = some (.array n e)) (he : P.underlying e = some (.int .u8)) (hsome : (P.info? e).isSome = true) (hc : P.cellsOf e = 1)
    (a b : List UInt8) (ha : a.length = n) (hb : b.length = n) : (binOp .neq t (.agg (encB a).toArray) (.agg (encB b).toArray)).run P w = .ok (.bool (!(a == b))) w := by
  obtain ⟨i, hi⟩ := Option.isSome_iff_exists.1 hsome
  have h := run_eqItems_u8 (P := P) w he hc 9998 a b (by omega) n 0 (by omega)
  rw [List.drop_zero, List.drop_zero, ← List.range_eq_range'] at h
  simp only [binOp]
  simp [Op.equal, Op.maxDepth, run_equalIn_array w 9999 (encB a).toArray (encB b).toArray hu hi, h]
theorem run_eqGuard_arr {t : TypeId} (h : P.eqGuardType P.depth t = false) (op : BinOp) (x y : Operand) (a b : Array Value) : (eqGuard op t x y (.agg a) (.agg b)).run P w = .ok () w := by
  cases op <;> simp [eqGuard, h]
/-- A slice as an array's pointer. -/
theorem run_arrayAt {t e : TypeId} {n : Nat} (hu : P.underlying t = some (.array n e)) (a : Addr) (l c : Nat) (h : n ≤ l) : (Instr.arrayAt t (.slice (some a) l c)).run P w = .ok (.pointer (some a)) w := by
  unfold Instr.arrayAt
  simp [run_underlying hu]
  intro hlt
  omega
end
end Go.Proofs.YtljinghhalcnnaaDoor
