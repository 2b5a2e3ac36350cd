/- Rows in their blocks: a list of them, kept. No program is named here. -/
import Derived.Test.YthppbefemfkccaaDoorArr
import Derived.Test.YthppbefemfkccaaDoorRegion
namespace Go.Proofs.YthppbefemfkccaaDoor
open Go.RowKit

def Rw (l : List (Nat × TypeId × List Value)) (z : World) : Prop := ∀ r ∈ l, z.heap[r.1]? = some (.cells r.2.2.toArray r.2.1 (0, 0))
theorem Rw.nil (z : World) : Rw [] z := fun _ h => absurd h (by simp)
theorem Rw.keeps {S : List Nat} {l : List (Nat × TypeId × List Value)} {z z' : World} (h : Rw l z) (hk : Keeps S z z') (hS : ∀ r ∈ l, r.1 ∉ S) : Rw l z' := fun r hr => (hk.block r.1 (lt_of_block (h r hr)) (hS r hr)).trans (h r hr)
theorem Rw.keeps0 {l : List (Nat × TypeId × List Value)} {z z' : World} (h : Rw l z) (hk : Keeps [] z z') : Rw l z' := h.keeps hk (fun _ _ => by simp)
theorem Rw.lt {l : List (Nat × TypeId × List Value)} {z : World} (h : Rw l z) {r : Nat × TypeId × List Value} (hr : r ∈ l) : r.1 < z.heap.size := lt_of_block (h r hr)
theorem Rw.new {l : List (Nat × TypeId × List Value)} {z z' : World} (h : Rw l z) {o : Obj} (hk : Keeps [z.heap.size] (z.alloc o) z') {cs : List Value} {T : TypeId} (h' : z'.heap[z.heap.size]? = some (.cells cs.toArray T (0, 0))) : Rw ((z.heap.size, T, cs) :: l) z' := by
  intro r hr
  rcases List.mem_cons.1 hr with rfl | hr
  · exact h'
  · have hl := h.lt hr
    rw [hk.block r.1 (by simp; omega) (by simp; omega), heap_alloc_old _ _ (h := hl)]
    exact h r hr
theorem Rw.alloc {l : List (Nat × TypeId × List Value)} {z : World} (h : Rw l z) (cs : List Value) (T : TypeId) : Rw ((z.heap.size, T, cs) :: l) (z.alloc (.cells cs.toArray T)) := by
  intro r hr
  rcases List.mem_cons.1 hr with rfl | hr
  · exact heap_alloc_new _ _
  · rw [heap_alloc_old _ _ (h := h.lt hr)]
    exact h r hr
theorem Rw.sub {l l' : List (Nat × TypeId × List Value)} {z : World} (h : Rw l z) (hs : ∀ r ∈ l', r ∈ l) : Rw l' z := fun r hr => h r (hs r hr)
theorem Keeps.new {a z z' : World} (h : Keeps [] a z) {o : Obj} (hk : Keeps [z.heap.size] (z.alloc o) z') : Keeps [] a z' := (h.alloc o).trans hk (fun t ht => .inr (by simp at ht; have := h.size; omega))
end Go.Proofs.YthppbefemfkccaaDoor
