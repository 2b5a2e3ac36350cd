/- How a law on package mem begins, and two rows that lie apart. -/
import Derived.Test.YtaedmafmflohiaaMemEq
import Derived.Test.YtaedmafmflohiaaMemPlain
import Derived.Test.YtaedmafmflohiaaKinds
import Derived.Test.YtaedmafmflohiaaBulk
namespace Go.Proofs.Ytaedmafmflohiaa
open Go.RowKit

def enOf (x : ByteArray × ByteArray × Bool × Unit) : En := ⟨x.1.data.toList, x.2.1.data.toList, x.2.2.1⟩
/-- The kind of an entry. -/
abbrev KE : K := K.st (K.pair K.str (K.pair K.str (K.pair K.bool K.nil)))
theorem read_en {w : World} {A : Option Addr} {c : Nat} {xs : List (ByteArray × ByteArray × Bool × Unit)} (h : (K.slice 40 KE).ok w ((A, c), xs)) :
    (xs.map enOf).length = xs.length ∧ Rd w A (xs.map enOf).length 3 (encEn (xs.map enOf)) ∧ EnOk (xs.map enOf) ∧ xs.length ≤ 140737488351232 := by
  obtain ⟨_, h2, h3, h4⟩ := h
  refine ⟨by simp, ?_, ?_, ?_⟩
  · have e : encEn (xs.map enOf) = xs.flatMap (K.cells KE) := by
      unfold encEn
      rw [List.flatMap_map]
      rfl
    rw [e, List.length_map]
    exact h3
  · intro e he
    obtain ⟨x, hx, rfl⟩ := List.mem_map.1 he
    obtain ⟨h5, h6, _⟩ := h4 x hx
    exact ⟨h5, h6⟩
  · have h5 : xs.length * 40 ≤ 140737488351232 := h2
    omega
structure Two (w0 W : World) (g h : Nat) (A B : Option Addr) (c d : Nat) (la lb : List En) : Prop where
  ma : MemS W g A c la
  mb : MemS W h B d lb
  kp : Keeps [] w0 W
  gh : g ≠ h
  g0 : w0.heap.size ≤ g
  h0 : w0.heap.size ≤ h
  a0 : ∀ a, A = some a → w0.heap.size ≤ a.block ∧ a.block ≠ h
  b0 : ∀ b, B = some b → w0.heap.size ≤ b.block ∧ b.block ≠ g
  ab : ∀ a b, A = some a → B = some b → a.block ≠ b.block
theorem Two.swap {w0 W : World} {g h : Nat} {A B : Option Addr} {c d : Nat} {la lb : List En} (t : Two w0 W g h A B c d la lb) : Two w0 W h g B A d c lb la :=
  ⟨t.mb, t.ma, t.kp, fun e => t.gh e.symm, t.h0, t.g0, t.b0, t.a0, fun a b ha hb e => t.ab b a hb ha e.symm⟩
theorem Two.keeps0 {w0 W W' : World} {g h : Nat} {A B : Option Addr} {c d : Nat} {la lb : List En} (t : Two w0 W g h A B c d la lb) (hk : Keeps [] W W') : Two w0 W' g h A B c d la lb :=
  ⟨t.ma.keeps0 hk, t.mb.keeps0 hk, t.kp.trans hk (by simp), t.gh, t.g0, t.h0, t.a0, t.b0, t.ab⟩
theorem Two.left {w0 W W' : World} {g h : Nat} {A B : Option Addr} {c d : Nat} {la lb l' : List En} {r : Ending} (t : Two w0 W g h A B c d la lb) (hp : PutP g A l' W r W') : r = .returned (.tuple #[]) ∧ ∃ A' c', Two w0 W' g h A' B c' d l' lb := by
  obtain ⟨h1, A', c', h2, h3, h4⟩ := hp
  have hB : ∀ b, B = some b → b.block ∉ g :: blk A := fun b hb hm => by
    rcases List.mem_cons.1 hm with e | e
    · exact (t.b0 b hb).2 e
    · obtain ⟨a, e1, e2⟩ := mem_blk.1 e
      exact t.ab a b e1 hb e2
  have hh : h ∉ g :: blk A := fun hm => by
    rcases List.mem_cons.1 hm with e | e
    · exact t.gh e.symm
    · obtain ⟨a, e1, e2⟩ := mem_blk.1 e
      exact (t.a0 a e1).2 e2
  have hlh := lt_of_block t.mb.1
  refine ⟨h1, A', c', h2, t.mb.keeps h3 hh hB, t.kp.trans h3 (fun x hx => ?_), t.gh, t.g0, t.h0, fun a ha => ?_, t.b0, fun a b ha hb => ?_⟩
  · rcases List.mem_cons.1 hx with rfl | hx
    · exact .inr t.g0
    · obtain ⟨a, e1, e2⟩ := mem_blk.1 hx
      exact .inr (by rw [← e2]; exact (t.a0 a e1).1)
  · rcases h4 a ha with e | e
    · obtain ⟨a1, e1, e2⟩ := mem_blk.1 e
      rw [← e2]
      exact t.a0 a1 e1
    · have := t.kp.size
      exact ⟨by omega, by omega⟩
  · rcases h4 a ha with e | e
    · obtain ⟨a1, e1, e2⟩ := mem_blk.1 e
      rw [← e2]
      exact t.ab a1 b e1 hb
    · have := ownsRow_lt t.mb.2.1 b hb
      omega
theorem Two.right {w0 W W' : World} {g h : Nat} {A B : Option Addr} {c d : Nat} {la lb l' : List En} {r : Ending} (t : Two w0 W g h A B c d la lb) (hp : PutP h B l' W r W') : r = .returned (.tuple #[]) ∧ ∃ B' d', Two w0 W' g h A B' c d' la l' := by
  obtain ⟨h1, B', d', h2⟩ := t.swap.left hp
  exact ⟨h1, B', d', h2.swap⟩
/-- An entry of a row, by its number. -/
def enAt (l : List En) (i : Nat) : En := l.getD i zeroE
theorem enAt_get {l : List En} {i : Nat} (h : i < l.length) : l[i] = enAt l i := by
  unfold enAt
  rw [List.getD_eq_getElem?_getD, List.getElem?_eq_getElem h]
  rfl
theorem enAt_ok {l : List En} (h : EnOk l) (i : Nat) : (enAt l i).k.length ≤ 140737488351232 ∧ (enAt l i).v.length ≤ 140737488351232 := by
  unfold enAt
  rw [List.getD_eq_getElem?_getD]
  cases hq : l[i]? with
  | none => exact ⟨by decide, by decide⟩
  | some e => exact h e (List.mem_of_getElem? hq)
theorem putE_ok {l : List En} (h : EnOk l) (hs : Srt l) {e : En} (he : e.k.length ≤ 140737488351232 ∧ e.v.length ≤ 140737488351232) : EnOk (putE l e) := by
  intro x hx
  rcases (mem_putE hs e x).1 hx with rfl | ⟨h1, _⟩
  · unfold En.norm
    split
    · exact ⟨he.1, Nat.zero_le _⟩
    · exact he
  · exact h x h1
end Go.Proofs.Ytaedmafmflohiaa
