/- The theorem of stage 2: any things (of bulk at most 1048576) that the writer lays are taken off by the reader as they were, one by one, and nothing is left (PackBack answers true). -/
import Derived.Test.YtficgbeolmdbiaaRows
import Derived.Test.YtficgbeolmdbiaaPackBackC
import Derived.Test.YtficgbeolmdbiaaOpen
import Derived.Test.YtficgbeolmdbiaaBulk
import Derived.ShutString
import Derived.ChangeOld
import Derived.Below
import Derived.ChangeVars
import Derived.JoinedOf
import Derived.Stop.Joined
import Derived.LaidLaws
import Derived.LaidHandle
import Derived.Deep.CondSized
import Derived.JoinedCond
namespace Go.Proofs.Ytficgbeolmdbiaa.packBack
open Go.ChangeShapes Go.WideShapes Go.ChangeAt Go.RowKit
open Go.ChangeMaps (open_string shut_string)
set_option linter.unusedVariables false
set_option linter.unusedSimpArgs false
theorem own : ownKnob Try.prog.godebug = none := by kernel_rfl
theorem laidOut : laidOutB Try.prog = true := by kernel_rfl
set_option maxRecDepth 100000 in
theorem lifted (os : Os) (started : os.Started) (H : Type) (enc : TypeId × Value → H) (F : Stop.Interp) :
    ReturnsInHanded {} Try.checked os 5 .any ((Rows.OpenSpec.upto Rows.packBackSpec).pre6 enc Try.prog Try.f5 Rows.packBackUptoRow.domain false) (((Rows.OpenSpec.upto Rows.packBackSpec).at F).post enc Try.prog Try.f5 false true false false) := by
  refine returnsInHanded_of_cond_sized (C := Try.checked) (s := Rows.OpenSpec.upto Rows.packBackSpec) (k := Rows.uptoSmall) rfl own started (by kernel_rfl) Try.func5
    (OpenSpec.witness (enc := enc) (C := Try.checked) (s := Rows.OpenSpec.upto Rows.packBackSpec) (k := Rows.uptoSmall) rfl false ⟨#[], #[.slice none 0 0], []⟩ 8 (by kernel_rfl) (by kernel_rfl) (by kernel_rfl)
      (x := ([.nil], [], [])) (by kernel_rfl) rfl (by kernel_rfl)) ?_
  intro W base args ds gs before hval0 hW hcnd hk hsz0 _
  have hsz : (DataW.weightsEach Try.prog (Try.f5.params.toList ++ Rows.packBackSpec.plain.varTypes Try.prog) (ds ++ gs)).all (· ≤ reachBytes) = true := hsz0
  have hval : ∀ (j : Nat) t v, Try.f5.params[j]? = some t → args[j]? = some v → Value.okWide Try.prog W .any base t v := hval0
  have hW' := hW
  obtain ⟨p, q, hA0, hV, rfl, hfz, hnd⟩ := hW
  have hA : DataW.TrodAll enc Try.prog W 0 (fun _ => true) true Try.f5.params.toList args.toList ds p := hA0
  rw [Try.params5] at hA hval hsz
  obtain ⟨v0, vs0, d0, ds0, p0, q0, hargs, rfl, rfl, h0, r0_⟩ := trodAll_cons hA
  obtain ⟨rfl, rfl, rfl⟩ := trodAll_nil r0_
  obtain rfl : args = #[v0] := by cases args; simp_all
  obtain ⟨rfl, rfl⟩ := trodVars_none hV
  have hbulk := bulk_of hk
  simp only [List.cons_append, List.nil_append, List.append_nil, List.map_cons, List.map_nil, List.sum_cons, List.sum_nil] at hbulk
  have k0 := h0
  have lt0 : ∀ x ∈ p0, x.block < W.heap.size := by obtain ⟨m, hm⟩ := k0; exact DataW.trod_lt m _ _ _ hm
  obtain ⟨A0, c0, x0, rfl, ok0, bk0⟩ := open_slice_k (bulkLike H) (k := (K.st (K.pair (K.int .i64) (K.pair (K.int .i64) (K.pair (K.slice 1 (K.int .u8)) (K.pair (K.arr 32 (K.int .u8)) K.nil)))))) (b := 72) ⟨_, Try.underlying30, by kernel_rfl, by kernel_rfl, ⟨_, Try.underlying35, by kernel_rfl, ⟨_, _, rfl, rfl, by kernel_rfl, Try.underlying3, ⟨_, _, rfl, rfl, by kernel_rfl, Try.underlying3, ⟨_, _, rfl, rfl, by kernel_rfl, ⟨_, Try.underlying23, by kernel_rfl, by kernel_rfl, Try.underlying5⟩, ⟨_, _, rfl, rfl, by kernel_rfl, ⟨_, Try.underlying33, by kernel_rfl, by kernel_rfl, Try.underlying5⟩, rfl⟩⟩⟩⟩⟩⟩ hsz (j := 0) rfl rfl (hval 0 30 v0 rfl rfl) h0
  have q0 := Nat.le_trans bk0 (show _ ≤ 1048576 by omega)
  refine (law_any A0 c0 x0 W ok0 q0).mono fun e W' ⟨he, bel⟩ => ?_
  subst he
  exact ⟨_, rfl, _, _, _, [], _, [], hW', trodAll_mk1 (shut_bool Try.underlying4 _), (trodAll_cons_mk (Below.trod laidOut (by kernel_rfl) (of_decide_eq_true (by kernel_rfl)) k0 bel lt0) trodAll_mk0), rfl, bel.frame _, fun h => by cases h⟩
theorem over : Rows.packBackUptoRow.holds Try.pinned (Rows.OpenSpec.upto Rows.packBackSpec) :=
  OpenClaim.holds_of_cond 5 Try.f5 rfl rfl rfl rfl rfl rfl rfl ⟨rfl, rfl, rfl, rfl, rfl⟩ rfl rfl rfl rfl rfl (by kernel_rfl) Try.func5 (by kernel_rfl)
    (of_decide_eq_true (by kernel_rfl)) (by unfold Func.isWrapper; rw [if_neg (of_decide_eq_false (by kernel_rfl))]; exact ⟨rfl, rfl⟩)
    (fun os started H enc _ F => lifted os started H enc F)
theorem proved : Rows.PackBackUptoSaid := over
#print axioms proved
end Go.Proofs.Ytficgbeolmdbiaa.packBack
