/- The reader's state, and what takes things off it: contracts. -/
import Derived.Test.YthppbefemfkccaaPackR
import Derived.Test.YthppbefemfkccaaClone
namespace Go.Proofs.Ythppbefemfkccaa
open Go.RowKit

/-- A reader: its block, the bytes that are left, the first error. -/
def Rdr (w : World) (g : Nat) (A : Option Addr) (c : Nat) (l : List UInt8) (e : Int) : Prop :=
  w.heap[g]? = some (.cells #[.slice A l.length c, errV e] 64 (0, 0)) ∧ RdB w A l ∧ l.length ≤ c ∧ l.length ≤ 140737488351232 ∧ (∀ a, A = some a → 0 < l.length → a.block ≠ g)
theorem Rdr.lt {w : World} {g : Nat} {A : Option Addr} {c : Nat} {l : List UInt8} {e : Int} (h : Rdr w g A c l e) : g < w.heap.size := lt_of_block h.1
theorem Rdr.keeps {S : List Nat} {w w' : World} {g : Nat} {A : Option Addr} {c : Nat} {l : List UInt8} {e : Int} (h : Rdr w g A c l e) (hk : Keeps S w w') (hg : g ∉ S) (hA : ∀ a, A = some a → 0 < l.length → a.block ∉ S) : Rdr w' g A c l e :=
  ⟨(hk.block g h.lt hg).trans h.1, h.2.1.keeps hk hA, h.2.2.1, h.2.2.2.1, h.2.2.2.2⟩
theorem Rdr.keeps0 {w w' : World} {g : Nat} {A : Option Addr} {c : Nat} {l : List UInt8} {e : Int} (h : Rdr w g A c l e) (hk : Keeps [] w w') : Rdr w' g A c l e := h.keeps hk (by simp) (by simp)
theorem Rdr.c0 {w : World} {g : Nat} {A : Option Addr} {c : Nat} {l : List UInt8} {e : Int} (h : Rdr w g A c l e) : w.cell? ⟨g, 0, none⟩ = some (.slice A l.length c) := by rw [cell_of_row _ _ _ _ _ _ h.1]; rfl
theorem Rdr.c1 {w : World} {g : Nat} {A : Option Addr} {c : Nat} {l : List UInt8} {e : Int} (h : Rdr w g A c l e) : w.cell? ⟨g, 1, none⟩ = some (errV e) := by rw [cell_of_row _ _ _ _ _ _ h.1]; rfl
theorem Rdr.f0 {w : World} {g : Nat} {A : Option Addr} {c : Nat} {l : List UInt8} {e : Int} (h : Rdr w g A c l e) : w.frozen? ⟨g, 0, none⟩ = false := frozen_of_row w g 0 _ _ h.1
theorem Rdr.f1 {w : World} {g : Nat} {A : Option Addr} {c : Nat} {l : List UInt8} {e : Int} (h : Rdr w g A c l e) : w.frozen? ⟨g, 1, none⟩ = false := frozen_of_row w g 1 _ _ h.1
theorem Rdr.bad {w : World} {g : Nat} {A : Option Addr} {c : Nat} {l : List UInt8} {e : Int} (h : Rdr w g A c l e) (e' : Int) : Rdr (w.setCell ⟨g, 1, none⟩ (errV e')) g A c l e' :=
  ⟨by rw [heap_setCell_same w g 1 _ _ _ h.1]; rfl, h.2.1.keeps (Keeps.setCell (S := [g]) (p := ⟨g, 1, none⟩) (Keeps.refl [g] w) (.inl (by simp)) _) (fun a ha hl => by simpa using h.2.2.2.2 a ha hl), h.2.2⟩
theorem Rdr.took {w : World} {g : Nat} {A : Option Addr} {c : Nat} {l : List UInt8} {e : Int} (h : Rdr w g A c l e) (A' : Option Addr) (c' : Nat) (l' : List UInt8) (hr : RdB w A' l') (hc : l'.length ≤ c') (hl : l'.length ≤ 140737488351232)
    (hA : ∀ a, A' = some a → 0 < l'.length → a.block ≠ g) : Rdr (w.setCell ⟨g, 0, none⟩ (.slice A' l'.length c')) g A' c' l' e :=
  ⟨by rw [heap_setCell_same w g 0 _ _ _ h.1]; rfl, hr.keeps (Keeps.setCell (S := [g]) (p := ⟨g, 0, none⟩) (Keeps.refl [g] w) (.inl (by simp)) _) (fun a ha hl => by simpa using hA a ha hl), hc, hl, hA⟩
/-- The slice behind the first k of a slice. -/
theorem RdB.behind {w : World} {g o : Nat} {l : List UInt8} (h : RdB w (some ⟨g, o, none⟩) l) (k : Nat) (hk : k ≤ l.length) (A' : Option Addr) (hA : 0 < l.length - k → A' = some ⟨g, o + k, none⟩) : RdB w A' (l.drop k) := by
  have := h.part k (l.length - k) (by omega) (A' := A') (fun hm ad e => by rw [hA hm, ← Option.some.inj e, add_new])
  rwa [List.take_of_length_le (by simp)] at this
theorem RdB.front {w : World} {g o : Nat} {l : List UInt8} (h : RdB w (some ⟨g, o, none⟩) l) (k : Nat) (hk : k ≤ l.length) (A' : Option Addr) (hA : 0 < k → A' = some ⟨g, o, none⟩) : RdB w A' (l.take k) := by
  have := h.part 0 k (by omega) (A' := A') (fun hm ad e => by rw [hA hm, ← Option.some.inj e, add_new]; rfl)
  simpa using this

/-- A reader's call: what is left, the error, the value. -/
def RdPost (g : Nat) (A : Option Addr) (l : List UInt8) (e : Int) (v : Value) (w : World) (en : Ending) (w' : World) : Prop :=
  ∃ A' c' l', Hid (l' = l) ∧ en = .returned v ∧ Rdr w' g A' c' l' e ∧ Keeps [g] w w' ∧ (∀ a, A' = some a → a.block ∈ blk A)
theorem Rdr.post {w : World} {g : Nat} {A : Option Addr} {c : Nat} {l : List UInt8} {e : Int} (h : Rdr w g A c l e) (v : Value) : RdPost g A l e v w (.returned v) w := ⟨A, c, l, rfl, rfl, h, Keeps.refl _ _, fun a ha => mem_blk.2 ⟨a, ha, rfl⟩⟩
theorem RdPost.before {w w1 w' : World} {g : Nat} {A : Option Addr} {l : List UInt8} {e : Int} {v : Value} {en : Ending} (hk : Keeps [g] w w1) (h : RdPost g A l e v w1 en w') : RdPost g A l e v w en w' := by
  obtain ⟨A', c', l', hl, he, hr, hk1, ha⟩ := h
  exact ⟨A', c', l', hl, he, hr, hk.trans hk1 (fun t ht => .inl ht), ha⟩
theorem RdPost.block {w w' : World} {g : Nat} {A B : Option Addr} {l : List UInt8} {e : Int} {v : Value} {en : Ending} (hB : ∀ a, B = some a → a.block ∈ blk A) (h : RdPost g B l e v w en w') : RdPost g A l e v w en w' := by
  obtain ⟨A', c', l', hl, he, hr, hk1, ha⟩ := h
  refine ⟨A', c', l', hl, he, hr, hk1, fun a h1 => ?_⟩
  obtain ⟨b, e1, e2⟩ := mem_blk.1 (ha a h1)
  rw [← e2]; exact hB b e1

theorem read_any (A : Option Addr) (l : List UInt8) (c : Nat) (w : World) (hl : l.length ≤ 140737488351232) (hc : l.length ≤ c) (hr : RdB w A l) (hA : ∀ a, A = some a → 0 < l.length → a.block < w.heap.size) :
    Calls Try.prog 18 #[.slice A l.length c] w fun e w' => e = .returned (.pointer (some ⟨w.heap.size, 0, none⟩)) ∧ Rdr w' w.heap.size A c l 0 ∧ Keeps [] w w' := by
  have HR := Lib.hid hr
  clear hr
  go_enter Try.func18, Try.ntmps18
  go_wp2_with fail
  go_ret
  exact ⟨rfl, ⟨heap_alloc_new _ _, HR.out.alloc _, hc, hl, fun a ha h => Nat.ne_of_lt (hA a ha h)⟩, (Keeps.refl [] w).alloc _⟩

theorem stuck_nil (w : World) : Calls Try.prog 28 #[.pointer none] w fun e w' => e = .returned (.bool true) ∧ w = w' := by
  go_enter Try.func28, Try.ntmps28
  go_wp2_with fail
  go_ret
  exact ⟨rfl, rfl⟩
theorem stuck_any (g : Nat) (A : Option Addr) (c : Nat) (l : List UInt8) (e : Int) (w : World) (h : Rdr w g A c l e) : Calls Try.prog 28 #[.pointer (some ⟨g, 0, none⟩)] w fun en w' => en = .returned (.bool (decide (e ≠ 0))) ∧ w = w' := by
  have c1 := h.c1
  clear h
  by_cases he : e = 0
  · subst he
    rw [errV_zero] at c1
    go_enter Try.func28, Try.ntmps28
    go_wp2_with fail
    go_ret
    exact ⟨rfl, rfl⟩
  · rw [errV_other he] at c1
    go_enter Try.func28, Try.ntmps28
    go_wp2_with fail
    go_ret
    exact ⟨by simp [he], rfl⟩
end Go.Proofs.Ythppbefemfkccaa
