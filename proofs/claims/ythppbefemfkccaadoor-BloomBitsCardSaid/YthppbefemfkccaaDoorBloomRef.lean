/- The document's filter begun, the bits that a key asks for, and numbers held against one another: contracts. -/
import Derived.Test.YthppbefemfkccaaDoorBloomMay
import Derived.Test.YthppbefemfkccaaDoorOwnV
import Derived.Test.YthppbefemfkccaaDoorErrV
namespace Go.Proofs.YthppbefemfkccaaDoor
open Go.RowKit
attribute [local irreducible] bitsK orAll

theorem infoBo : (Tryd.prog.info? 4).map (fun i => (i.zero, i.size, i.bytes)) = some (some (.bool false), 1, 1) := by kernel_rfl
theorem make_bools (w : World) (m : Nat) (hm : m ≤ 1048576) : (Instr.makeSlice 29 (.int .i64 (m : Int)) (.int .i64 (m : Int))).run Tryd.prog w = .ok (.slice (some ⟨w.heap.size, 0, none⟩) m m) (w.alloc (.cells (List.replicate m (.bool false)).toArray 4)) := by
  obtain ⟨i, hi, hz0, hz1, hz2⟩ := info_parts infoBo
  have := run_make (P := Tryd.prog) w 29 4 i (.bool false) Tryd.underlying29 hi hz0 .i64 .i64 m m (by omega) (Int.le_refl _) (by rw [hz2]; omega) (by omega)
  rw [this, hz1, Int.toNat_natCast, made_is _ rfl]
def FitB (x y : Int) : Prop := 1 ≤ x ∧ x ≤ 1048576 ∧ 1 ≤ y ∧ y ≤ 16
theorem noFit_four {x y : Int} (h : ¬ FitB x y) : (x < 1) ∨ (¬ x < 1 ∧ 1048576 < x) ∨ (¬ x < 1 ∧ ¬ 1048576 < x ∧ y < 1) ∨ (¬ x < 1 ∧ ¬ 1048576 < x ∧ ¬ y < 1 ∧ 16 < y) := by
  unfold FitB at h; omega
theorem bnew_no (x y : Int) (w : World) (h : ¬ FitB x y) :
    Calls Tryd.prog 6 #[.int .i64 x, .int .i64 y] w fun e w' => e = .returned (.tuple #[.pointer none, errV 1]) ∧ Keeps [] w w' := by
  rw [errV_other (by decide)]
  rcases noFit_four h with h1 | ⟨h1, h2⟩ | ⟨h1, h2, h3⟩ | ⟨h1, h2, h3, h4⟩
  all_goals
    clear h
    go_enter Tryd.func6, Tryd.ntmps6
    go_wp2_with fail
    go_ret2
    exact ⟨rfl, Keeps.refl [] w⟩
/-- The document's filter begun. -/
def RNewP (n k : Nat) (w : World) (e : Ending) (w' : World) : Prop :=
  ∃ g, e = .returned (.tuple #[.agg #[.int .i64 (k : Int), .slice (some ⟨g, 0, none⟩) n n], .int .i64 0]) ∧ w.heap.size ≤ g ∧ w'.heap[g]? = some (.cells (List.replicate n (.bool false)).toArray 4 (0, 0)) ∧ Keeps [] w w'
theorem info_rf : (Tryd.prog.info? 31).map (·.size) = some 2 := by kernel_rfl
theorem results_cell_tmp2 {P : Program} {fn : Func} {p q : Tmp} {ty : TypeId} (h : fn.results = #[.cell p ty, .tmp q]) (tmps : Array Value) (w : World) (g : Nat) (t : TypeId) (cs : Array Value) (fr : Nat × Nat) (d : TypeDesc) (v : Value)
    (hp : tmps.getD p undef = .pointer (some ⟨g, 0, none⟩)) (hq : tmps.getD q undef = v) (hg : w.heap[g]? = some (.cells cs t fr))
    (hu : P.underlying ty = some d) (hd : (match d with | .struct _ | .array _ _ => true | _ => false) = true) (hi : (P.info? ty).map (·.size) = some cs.size) :
    (results fn tmps).run P w = .ok (.tuple #[.agg cs, v]) w := by
  have hp' : tmps[p]?.getD undef = .pointer (some ⟨g, 0, none⟩) := by simpa using hp
  have hq' : tmps[q]?.getD undef = v := by simpa using hq
  simp [results, h, hp', hq', asAddr, run_loadVar_row w g t ty cs fr d hg hu hd hi]
set_option maxRecDepth 100000 in
set_option maxHeartbeats 2000000 in
theorem rnew_any (n k : Nat) (w : World) (hn : 1 ≤ n ∧ n ≤ 1048576) (hk : 1 ≤ k ∧ k ≤ 16) :
    Calls Tryd.prog 7 #[.int .i64 n, .int .i64 k] w (RNewP n k w) := by
  have hms := make_bools (w.alloc (.cells #[.int .i64 0, .slice none 0 0] 31)) n (by omega)
  obtain ⟨hn1, hn2⟩ := hn
  obtain ⟨hk1, hk2⟩ := hk
  have c1 : ¬ ((n : Int) < 1) := by omega
  have c2 : ¬ (1048576 < (n : Int)) := by omega
  have c3 : ¬ ((k : Int) < 1) := by omega
  have c4 : ¬ (16 < (k : Int)) := by omega
  obtain ⟨W, hW⟩ : ∃ W, W = (w.alloc (.cells #[.int .i64 0, .slice none 0 0] 31)).alloc (.cells (List.replicate n (.bool false)).toArray 4) := ⟨_, rfl⟩
  rw [← hW] at hms
  have HW := Lib.hid (show W.heap[w.heap.size]? = some (.cells #[.int .i64 0, .slice none 0 0] 31 (0, 0)) ∧ W.heap[w.heap.size + 1]? = some (.cells (List.replicate n (.bool false)).toArray 4 (0, 0)) ∧ Keeps [] w W from by
    rw [hW]; exact ⟨heap_alloc2_old _ _ _, heap_alloc2_new _ _ _, ((Keeps.refl [] w).alloc _).alloc _⟩)
  have q0 : W.cell? ⟨w.heap.size, 0, none⟩ = some (.int .i64 0) := by rw [cell_of_row _ _ _ _ _ _ HW.out.1]; rfl
  have q1 : W.cell? ⟨w.heap.size, 1, none⟩ = some (.slice none 0 0) := by rw [cell_of_row _ _ _ _ _ _ HW.out.1]; rfl
  have f0 : ∀ i, W.frozen? ⟨w.heap.size, i, none⟩ = false := fun i => frozen_of_row W _ i _ _ HW.out.1
  clear hn1 hn2 hk1 hk2 hW
  go_enter Tryd.func7, Tryd.ntmps7
  go_wp2_with fail
  have h4' : ((W.setCell ⟨w.heap.size, 0, none⟩ (.int .i64 (k : Int))).setCell ⟨w.heap.size, 1, none⟩ (.slice (some ⟨w.heap.size + 1, 0, none⟩) n n)).heap[w.heap.size]? = some (.cells #[.int .i64 (k : Int), .slice (some ⟨w.heap.size + 1, 0, none⟩) n n] 31 (0, 0)) := by
    rw [heap_setCell_same _ w.heap.size 1 _ _ _ (heap_setCell_same W w.heap.size 0 _ _ _ HW.out.1)]
    rfl
  have hk4 : Keeps [w.heap.size] W ((W.setCell ⟨w.heap.size, 0, none⟩ (.int .i64 (k : Int))).setCell ⟨w.heap.size, 1, none⟩ (.slice (some ⟨w.heap.size + 1, 0, none⟩) n n)) := ((Keeps.refl _ W).setCell (p := ⟨w.heap.size, 0, none⟩) (.inl (by simp)) _).setCell (p := ⟨w.heap.size, 1, none⟩) (.inl (by simp)) _
  refine bodyPost_ret (v := .tuple #[.agg #[.int .i64 (k : Int), .slice (some ⟨w.heap.size + 1, 0, none⟩) n n], .int .i64 0]) (results_cell_tmp2 Tryd.results7 _ _ w.heap.size 31 _ (0, 0) _ _ rfl rfl h4' Tryd.underlying31 rfl info_rf) rfl ?_
  exact ⟨w.heap.size + 1, rfl, by omega, (hk4.block _ (lt_of_block HW.out.2.1) (by simp)).trans HW.out.2.1, HW.out.2.2.trans hk4 (fun t ht => .inr (by simp at ht; omega))⟩
set_option maxHeartbeats 2000000 in
theorem rnew_no (x y : Int) (w : World) (h : ¬ FitB x y) :
    Calls Tryd.prog 7 #[.int .i64 x, .int .i64 y] w fun e w' => e = .returned (.tuple #[.agg #[.int .i64 0, .slice none 0 0], .int .i64 1]) ∧ Keeps [] w w' := by
  have HW := Lib.hid (show (w.alloc (.cells #[.int .i64 0, .slice none 0 0] 31)).heap[w.heap.size]? = some (.cells #[.int .i64 0, .slice none 0 0] 31 (0, 0)) from heap_alloc_new _ _)
  rcases noFit_four h with h1 | ⟨h1, h2⟩ | ⟨h1, h2, h3⟩ | ⟨h1, h2, h3, h4⟩
  all_goals
    clear h
    go_enter Tryd.func7, Tryd.ntmps7
    go_wp2_with fail
    refine bodyPost_ret (v := .tuple #[.agg #[.int .i64 0, .slice none 0 0], .int .i64 1]) (results_cell_tmp2 Tryd.results7 _ _ w.heap.size 31 _ (0, 0) _ _ rfl rfl HW.out Tryd.underlying31 rfl info_rf) rfl ?_
    exact ⟨rfl, (Keeps.refl [] w).alloc _⟩
end Go.Proofs.YthppbefemfkccaaDoor
