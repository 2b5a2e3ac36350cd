/- Fingerprints of the program, their keys and texts: contracts. -/
import Derived.Test.YtomleanoofoejaaDoorKecRefSum
import Derived.Test.YtomleanoofoejaaDoorKecText
import Derived.Test.YtomleanoofoejaaDoorHorner
import Derived.Test.YtomleanoofoejaaDoorNum
namespace Go.Proofs.YtomleanoofoejaaDoor
open Go.RowKit
attribute [local irreducible] turnK outK absAll hexAll endK sqzTo

theorem results_cell_tmp {P : Program} {fn : Func} {p q : Tmp} {ty : TypeId} (h : fn.results = #[.cell p ty, .tmp q]) (tmps : Array Value) (w : World) (g : Nat) (t : TypeId) (cs : Array Value) (fr : Nat × Nat) (d : TypeDesc) (v : Value)
    (hp : tmps.getD p undef = .pointer (some ⟨g, 0, none⟩)) (hq : tmps.getD q undef = v) (hg : w.heap[g]? = some (.cells cs t fr))
    (hu : P.underlying ty = some d) (hd : (match d with | .struct _ | .array _ _ => true | _ => false) = true) (hi : (P.info? ty).map (·.size) = some cs.size) :
    (results fn tmps).run P w = .ok (.tuple #[.agg cs, v]) w := by
  have hp' : tmps[p]?.getD undef = .pointer (some ⟨g, 0, none⟩) := by simpa using hp
  have hq' : tmps[q]?.getD undef = v := by simpa using hq
  simp [results, h, hp', hq', asAddr, run_loadVar_row w g t ty cs fr d hg hu hd hi]

theorem infoB1f : (Tryd.prog.info? 5).map (·.size) = some 1 := by kernel_rfl
set_option maxHeartbeats 1000000 in
theorem key_any (x : List UInt8) (w : World) (hx : x.length = 32) :
    Calls Tryd.prog 9 #[.agg (encB x).toArray] w fun e w' => e = .returned (.string (strB x)) ∧ Keeps [] w w' := by
  obtain ⟨cs, hcs⟩ : ∃ cs, cs = (encB x).toArray := ⟨_, rfl⟩
  rw [← hcs]
  have hrd : RdB (w.alloc (.cells cs 25)) (some ⟨w.heap.size, 0, none⟩) x := by rw [hcs]; exact RdB.lit w x _ _
  have G := run_conv_str (P := Tryd.prog) (w.alloc (.cells cs 25)) Tryd.underlying35 Tryd.underlying5 Tryd.underlying9 hrd 32
  rw [hx] at G
  clear hcs hrd hx
  go_enter Tryd.func9, Tryd.ntmps9
  go_wp2_with (refine wpList_secArr rfl 25 (.tmp 1) none none none rfl Tryd.underlying25 infoB1f ⟨w.heap.size, 0, none⟩ 0 32 32 rfl .no .no .no (by decide) (by decide) (by decide) (by simp) ?_; rw [secA_zero])
  go_ret
  exact ⟨rfl, (Keeps.refl [] w).alloc _⟩

theorem rangeAt_rowF {w : World} {g : Nat} {cs : List Value} {t : TypeId} {fr : Nat × Nat} (h : w.heap[g]? = some (.cells cs.toArray t fr)) : w.rangeAt g 0 cs := fun j v hj => by
  rw [Nat.zero_add, cell_of_row _ _ _ _ _ _ h, List.getElem?_toArray]; exact hj
theorem infoPrF : (Tryd.prog.info? 25).map (·.size) = some 32 := by kernel_rfl
/-- Two rows in their blocks. -/
def Two (T : TypeId) (g h : Nat) (a b : List Value) (z : World) : Prop := z.heap[g]? = some (.cells a.toArray T (0, 0)) ∧ z.heap[h]? = some (.cells b.toArray T (0, 0))
theorem Two.keeps {S : List Nat} {T : TypeId} {g h : Nat} {a b : List Value} {z z' : World} (k : Two T g h a b z) (hk : Keeps S z z') (hg : g ∉ S) (hh : h ∉ S) : Two T g h a b z' :=
  ⟨(hk.block g (lt_of_block k.1) hg).trans k.1, (hk.block h (lt_of_block k.2) hh).trans k.2⟩
set_option maxHeartbeats 1000000 in
theorem less_any (x y : List UInt8) (w : World) (hx : x.length = 32) (hy : y.length = 32) :
    Calls Tryd.prog 8 #[.agg (encB x).toArray, .agg (encB y).toArray] w fun e w' => e = .returned (.bool (Op.bytesLess x y)) ∧ Keeps [] w w' := by
  have HI := Lib.hid (show (Tryd.prog.info? 25).map (·.size) = some (encB x).length by rw [length_encB, hx]; exact infoPrF)
  have HJ := Lib.hid (show (Tryd.prog.info? 25).map (·.size) = some (encB y).length by rw [length_encB, hy]; exact infoPrF)
  have HX := Lib.hid hx
  have HY := Lib.hid hy
  obtain ⟨xs, hxs⟩ : ∃ xs, xs = encB x := ⟨_, rfl⟩
  obtain ⟨ys, hys⟩ : ∃ ys, ys = encB y := ⟨_, rfl⟩
  rw [← hxs, ← hys]
  rw [← hxs] at HI
  rw [← hys] at HJ
  have HXS := Lib.hid hxs
  have HYS := Lib.hid hys
  clear hx hy hxs hys
  go_enter Tryd.func8, Tryd.ntmps8
  go_wp2_with fail
  obtain ⟨W, hW⟩ : ∃ W, W = (w.alloc (.cells xs.toArray 25)).alloc (.cells ys.toArray 25) := ⟨_, rfl⟩
  rw [← hW]
  have HW := Lib.hid (show Two 25 w.heap.size (w.heap.size + 1) xs ys W ∧ Keeps [] w W from by
    rw [hW]; exact ⟨⟨heap_alloc2_old _ _ _, heap_alloc2_new _ _ _⟩, ((Keeps.refl [] w).alloc _).alloc _⟩)
  clear hW
  refine seq_start (by kernel_rfl) (Two 25 w.heap.size (w.heap.size + 1) xs ys) 6 [0, 1, 2, 3, 4, 5] rfl (HW.out.1) (fun hS => ?_)
  have HV := Lib.hid (show Two 25 w.heap.size (w.heap.size + 1) xs ys W.drew ∧ Keeps [] w W.drew from ⟨HW.out.1, HW.out.2.drew⟩)
  clear HW
  generalize W.drew = V at HV hS ⊢
  refine seq_take (v := .agg xs.toArray) rfl (by kernel_rfl) (by kernel_rfl) (by kernel_rfl) ?_ (by assumption) ?_
  · exact yieldsIf_load_mid (by rfl) 25 (.tmp 2) (by rfl) w.heap.size 0 (by rfl) xs _ (fun z hz => rangeAt_rowF hz.1) Tryd.underlying25 rfl HI.out
  simp only [Act.put, List.setIfInBounds_toArray, List.set_cons_zero, List.set_cons_succ]
  iterate 1 (refine seq_later ?_; simp only [List.cons_append, List.nil_append])
  refine seq_take (v := .agg ys.toArray) rfl (by kernel_rfl) (by kernel_rfl) (by kernel_rfl) ?_ (by assumption) ?_
  · exact yieldsIf_load_mid (by rfl) 25 (.tmp 3) (by rfl) (w.heap.size + 1) 0 (by rfl) ys _ (fun z hz => rangeAt_rowF hz.2) Tryd.underlying25 rfl HJ.out
  simp only [Act.put, List.setIfInBounds_toArray, List.set_cons_zero, List.set_cons_succ]
  iterate 3 (refine seq_later ?_; simp only [List.cons_append, List.nil_append])
  refine seq_do rfl (by kernel_rfl) (by rfl) (fun K hK => ?_)
  go_simp
  rw [HXS.out]
  refine (key_any x V HX.out).mono ?_
  rintro e w1 ⟨rfl, hk1⟩
  have H1 := Lib.hid (show Two 25 w.heap.size (w.heap.size + 1) xs ys w1 ∧ Keeps [] w w1 from ⟨HV.out.1.keeps hk1 (by simp) (by simp), HV.out.2.trans hk1 (by simp)⟩)
  clear hk1 HV
  refine hK.out (Two 25 w.heap.size (w.heap.size + 1) xs ys) _ _ (fun _ h => h) H1.out.1 (fun hS => ?_)
  refine seq_do rfl (by kernel_rfl) (by rfl) (fun K hK => ?_)
  go_simp
  rw [HYS.out]
  refine (key_any y w1 HY.out).mono ?_
  rintro e w2 ⟨rfl, hk2⟩
  have H2 := Lib.hid (show Two 25 w.heap.size (w.heap.size + 1) xs ys w2 ∧ Keeps [] w w2 from ⟨H1.out.1.keeps hk2 (by simp) (by simp), H1.out.2.trans hk2 (by simp)⟩)
  clear hk2 H1
  refine hK.out (Two 25 w.heap.size (w.heap.size + 1) xs ys) _ _ (fun _ h => h) H2.out.1 (fun hS => ?_)
  refine seq_take (v := ?_) rfl (by kernel_rfl) (by kernel_rfl) (by kernel_rfl) (Or.inl ⟨by rfl, fun w' hSw => ?_⟩) (by assumption) ?_
  rotate_left
  · go_simp
    with_reducible rfl
  simp only [Act.put, List.setIfInBounds_toArray, List.set_cons_zero, List.set_cons_succ]
  refine seq_take (v := ?_) rfl (by kernel_rfl) (by kernel_rfl) (by kernel_rfl) (Or.inl ⟨by rfl, fun w' hSw => ?_⟩) (by assumption) ?_
  rotate_left
  · go_simp
    with_reducible rfl
  simp only [Act.put, List.setIfInBounds_toArray, List.set_cons_zero, List.set_cons_succ]
  refine seq_done (by kernel_rfl) ?_
  all_goals skip
  go_wp2_with fail
  go_ret
  refine ⟨?_, H2.out.2⟩
  rw [strB_toList, strB_toList]
  rfl
end Go.Proofs.YtomleanoofoejaaDoor
