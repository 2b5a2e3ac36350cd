/- The law on parts and bytes: called with any base, parts and bytes it answers true. What the row's condition on package errors' variable gives, and a world that meets it. How a statement's arguments are read: from data to the words of Base. No program is named here. The count of the statements' second form, as XKinds wants it. -/
import Derived.Test.YtljinghhalcnnaaDoorQDeltaReads24
import Derived.Test.YtljinghhalcnnaaDoorQDeltaReads25
import Derived.Test.YtljinghhalcnnaaDoorQDeltaReads15
import Derived.Test.YtljinghhalcnnaaDoorQDeltaReads1
import Derived.ProofKit
import Derived.OpenShut
import Derived.SizedLaws
import Derived.Test.YtljinghhalcnnaaDoorQDeltaReads8
import Derived.Test.YtljinghhalcnnaaDoorRows
namespace Go.Proofs.YtljinghhalcnnaaDoor
open Go.RowKit

theorem decE10_three {b : List UInt8} {e : Int} (h : decE10 b = .error e) : decE10 b = .error 3 := by
  unfold decE10 at h ⊢
  simp only at h ⊢
  split at h
  · cases h
  · rename_i h1
    rw [if_neg h1]
set_option maxRecDepth 100000 in
set_option maxHeartbeats 4000000 in
theorem reads_any (base : List UInt8) (hb : base.length = 64) (A : Option Addr) (c : Nat) (ts : List Pt) (Ab : Option Addr) (b : List UInt8) (cb : Nat) (w : World) (hr : Rd w A ts.length 4 (encPt ts)) (hf : ∀ t ∈ ts, t.fine w) (htot : ts.length ≤ 200 → (encE10 (ts.map Pt.p)).length + 100 ≤ 140737488355328)
    (hl : b.length ≤ 140737488351232) (hc : b.length ≤ cb) (hrb : RdB w Ab b) (hA : ∀ a, Ab = some a → 0 < b.length → a.block < w.heap.size) (hh : HT w) :
    Calls Tryd.prog 3 #[.agg (encB base).toArray, .slice A ts.length c, .slice Ab b.length cb] w fun r w' => r = .returned (.bool true) ∧ Keeps [] w w' := by
  by_cases hbig : ts.length ≤ 200
  · cases hd : decE10 b with
    | ok qs => exact readsK_any base hb A c ts Ab b cb w hr hf (htot hbig) hbig hl hc hrb hA hh qs hd
    | error e => exact readsE_any base hb A c ts Ab b cb w hr hf (htot hbig) hbig hl hc hrb hA hh (decE10_three hd)
  · obtain ⟨n, hn⟩ : ∃ n, n = ts.length := ⟨_, rfl⟩
    have hbigi : (200 : Int) < (n : Int) := by omega
    have HV := Lib.hid (show Keeps [] w (w.alloc (.cells (encB base).toArray 23)) from (Keeps.refl [] w).alloc _)
    rw [← hn]
    clear hr hf htot hl hc hrb hA hh hbig hn hb
    go_enter Tryd.func3, Tryd.ntmps3
    go_wp2_with fail
    refine (sure10_any _).mono ?_
    rintro r w5 ⟨rfl, hk5⟩
    have H5 := Lib.hid (show Keeps [] w w5 from HV.out.trans hk5 (by simp))
    clear hk5
    go_wp2_with fail
    go_ret
    exact ⟨rfl, H5.out⟩
theorem reads_row (ks : List Int) (A : Option Addr) (c : Nat) (xs : List OpV) (Ab : Option Addr) (cb : Nat) (bs : List Int) (w : World) (okb : (K.arr 64 (K.int .u8)).ok w ks) (ok0 : (K.slice 48 (K.st KOp)).ok w ((A, c), xs)) (ok1 : (K.slice 1 (K.int .u8)).ok w ((Ab, cb), bs)) (hbk : (K.slice 48 (K.st KOp)).bulk ((A, c), xs) ≤ 1048576) (hh : HT w) :
    Calls Tryd.prog 3 #[.agg ((K.arr 64 (K.int .u8)).cells ks).toArray, .slice A xs.length c, .slice Ab bs.length cb] w fun e w' => e = .returned (.bool true) ∧ Below w.heap.size w w' := by
  obtain ⟨e1, e2⟩ := arrB_of_k okb
  obtain ⟨h1, h2⟩ := ops_of_k ok0
  obtain ⟨h3, h4, h5⟩ := RdB.of_k ok1
  have h6 := reads_any (toB ks) e2 A c (xs.map OpV.pt) Ab (toB bs) cb w h1 h2 (fun hl => encE_bulk hbk hl) h5 h4 h3 (fun a ha hp => Rd.lt h3 (by rw [length_encB]; exact hp) ha) hh
  rw [List.length_map, length_toB] at h6
  rw [e1]
  exact h6.mono fun _ _ h => ⟨h.1, h.2.below (Nat.le_refl _) (by simp)⟩
end Go.Proofs.YtljinghhalcnnaaDoor
namespace Go.Proofs.YtljinghhalcnnaaDoor
open Go.ChangeShapes Go.WideShapes Go.RowKit

theorem handle_of_laid {W : World} (h : laidMetH Tryd.prog laidE W) : HT W := by
  have h' : laidMet Tryd.prog [] W ∧ handlesMet Tryd.prog laidE W := h
  exact handle_met h'.2

/-- A world that meets the condition: the settled one, the variable's cell laid. -/
noncomputable def laidWorld (os : Os) : World :=
  let w0 := World.holding Tryd.prog os ⟨#[], #[], []⟩
  { w0 with heap := w0.heap.modify 0 fun
      | .cells _ t frozen => .cells #[.iface 118 (.agg #[.pointer (some ⟨1, 29, none⟩)])] t frozen
      | o => o }
theorem laidWorld_met (os : Os) (args : Array Value) : laidMetH Tryd.prog laidE ((laidWorld os).forCall (fun _ _ => 0) ⟨#[], args, []⟩).memory :=
  laidMetH_of_parts (laidMet_nil _ _) (by kernel_rfl)
end Go.Proofs.YtljinghhalcnnaaDoor
namespace Go.Proofs.YtljinghhalcnnaaDoor
open Go.RowKit Go.ChangeShapes Go.WideShapes Go.ChangeAt

theorem wf_u8 {n : Int} (h : (Lit.int .u8 n).wf = true) : 0 ≤ n ∧ n ≤ 255 := by
  simpa [Lit.wf, IntKind.min, IntKind.max, IntKind.signed, IntKind.bits] using h
theorem wf_u32 {n : Int} (h : (Lit.int .u32 n).wf = true) : 0 ≤ n ∧ n ≤ 4294967295 := by
  simpa [Lit.wf, IntKind.min, IntKind.max, IntKind.signed, IntKind.bits] using h
theorem wf_u64 {n : Int} (h : (Lit.int .u64 n).wf = true) : 0 ≤ n ∧ n ≤ 18446744073709551615 := by
  simpa [Lit.wf, IntKind.min, IntKind.max, IntKind.signed, IntKind.bits] using h
theorem wf_i64 {n : Int} (h : (Lit.int .i64 n).wf = true) : -9223372036854775808 ≤ n ∧ n ≤ 9223372036854775807 := by
  simpa [Lit.wf, IntKind.min, IntKind.max, IntKind.signed, IntKind.bits] using h

theorem u8_of {n : Int} (h : 0 ≤ n ∧ n ≤ 255) : ((UInt8.ofNat n.toNat).toNat : Int) = n := by
  rw [UInt8.toNat_ofNat']; omega

theorem encB_of (zs : List Int) (h : ∀ n ∈ zs, 0 ≤ n ∧ n ≤ 255) : encB (zs.map fun n => UInt8.ofNat n.toNat) = zs.map (Value.int .u8) := by
  unfold encB
  rw [List.map_map]
  refine List.map_congr_left (fun n hn => ?_)
  simp only [Function.comp]
  rw [u8_of (h n hn)]

theorem open_bytes {H : Type} {enc : TypeId × Value → H} {P : Program} {W : World} {r : Reach} {base : Nat} {b0 : Nat} {spare : Nat → Bool} {held : Bool} {t e : TypeId} {v : Value} {d : DataW H} {ps : List MemPlace} {ts : List TypeId} {ds : List (DataW H)} {j : Nat}
    (hu : P.underlying t = some (.slice e)) (he : P.underlying e = some (.int .u8)) (hc : P.cellsOf e = 1) (hB : P.bytesOf e = 1)
    (hsz : (DataW.weightsEach P ts ds).all (· ≤ reachBytes) = true) (ht : ts[j]? = some t) (hd : ds[j]? = some d)
    (hval : Value.okWide P W r b0 t v) (h : DataW.Trod enc P W base spare held t v d ps) :
    ∃ A l c, v = .slice A l.length c ∧ RdB W A l ∧ l.length ≤ 140737488351232 ∧ l.length ≤ c := by
  obtain ⟨A, len, cap, rfl⟩ := okWide_slice hu hval
  obtain ⟨fuel, hf⟩ := h
  rcases open_ints hu he hc hf with ⟨hcs, _⟩ | ⟨x, l, c, zs, hcs, _, hl, _, hz, hx, hcell, hw⟩
  · simp [Value.cells] at hcs
    obtain ⟨rfl, rfl, rfl⟩ := hcs
    exact ⟨none, [], 0, rfl, RdB.nil _ _, by simp, by simp⟩
  · simp [Value.cells] at hcs
    obtain ⟨rfl, rfl, rfl⟩ := hcs
    obtain ⟨hx, _⟩ := Prod.mk.inj hx
    subst hx
    have z := sized_slice hsz ht hd hu
    rw [hB] at z
    have hl2 : len ≤ zs.length := by
      rw [hz]
      split
      · exact hl
      · exact Nat.le_refl _
    have hlen : ((zs.take len).map fun n => UInt8.ofNat n.toNat).length = len := by simp; omega
    have hen : encB ((zs.take len).map fun n => UInt8.ofNat n.toNat) = (zs.take len).map (Value.int .u8) := encB_of _ (fun n hn => wf_u8 (hw n (List.mem_of_mem_take hn)))
    refine ⟨some x, (zs.take len).map fun n => UInt8.ofNat n.toNat, cap, by rw [hlen], ?_, ?_, by rw [hlen]; exact hl⟩
    · unfold RdB
      rw [hen]
      refine ⟨by simp, fun _ => ⟨x, rfl, fun j u hu => ?_⟩⟩
      rw [List.getElem?_map, List.getElem?_take] at hu
      by_cases hj : j < len
      · rw [if_pos hj] at hu
        have := hcell j (by omega)
        rw [List.getElem?_eq_getElem (by omega)] at hu
        rw [this]
        simp only [Option.map_some, Option.some.injEq] at hu
        rw [← hu]
        simp [List.getD_eq_getElem?_getD, List.getElem?_eq_getElem (show j < zs.length by omega)]
      · rw [if_neg hj] at hu; cases hu
    · have h1 : (lits (H := H) .u8 (zs.take len)).length + (lits (H := H) .u8 (zs.drop len)).length = zs.length := by
        simp [lits]
        omega
      rw [h1] at z
      unfold reachBytes at z
      rw [hlen]
      omega

/-- An array of whole numbers, by value. -/
theorem open_arr {H : Type} {enc : TypeId × Value → H} {P : Program} {W : World} {r : Reach} {base : Nat} {b0 : Nat} {spare : Nat → Bool} {held : Bool} {t e : TypeId} {q : IntKind} {n : Nat} {v : Value} {d : DataW H} {ps : List MemPlace}
    (hu : P.underlying t = some (.array n e)) (he : P.underlying e = some (.int q)) (hc : P.cellsOf e = 1) (hC : P.cellsOf t = n)
    (hval : Value.okWide P W r b0 t v) (h : DataW.Trod enc P W base spare held t v d ps) :
    ∃ xs : List Int, v = .agg (xs.map (Value.int q)).toArray ∧ xs.length = n ∧ ∀ x ∈ xs, (Lit.int q x).wf = true := by
  simp only [Value.okWide, hu] at hval
  obtain ⟨cs, rfl, hs, _⟩ := hval
  rw [hC] at hs
  obtain ⟨fuel, hf⟩ := h
  obtain ⟨ys, m, _, _, hlen, hl, hel⟩ := DataW.trod_array hu hf
  have each : ∀ i, i < n → ∃ z : Int, cs[i]? = some (.int q z) ∧ (Lit.int q z).wf = true := by
    intro i hi
    have h1 := hel i hi
    rw [hc, Nat.mul_one, List.getElem?_eq_getElem (by omega)] at h1
    obtain ⟨z, hz, _, hw⟩ := DataW.trod_int he h1
    refine ⟨z, ?_, hw⟩
    have h2 : ((Value.agg cs).cells.toList.drop i).take 1 = [.int q z] := hz
    have h3 := congrArg (fun l => l[0]?) h2
    simpa [Value.cells] using h3
  refine ⟨cs.toList.map (fun v => match v with | .int _ z => z | _ => 0), ?_, by simp [hs], ?_⟩
  · congr 1
    apply Array.ext
    · simp
    · intro i h1 h2
      obtain ⟨z, hz, _⟩ := each i (by omega)
      rw [Array.getElem?_eq_getElem h1] at hz
      simp [Option.some.inj hz]
  · intro x hx
    rw [List.mem_map] at hx
    obtain ⟨v, hv, rfl⟩ := hx
    obtain ⟨i, hi, rfl⟩ := List.mem_iff_getElem.1 hv
    obtain ⟨z, hz, hw⟩ := each i (by simpa [hs] using hi)
    simp at hi
    rw [Array.getElem?_eq_getElem hi] at hz
    simp only [Array.getElem_toList, Option.some.inj hz]
    exact hw
theorem open_arrB {H : Type} {enc : TypeId × Value → H} {P : Program} {W : World} {r : Reach} {base : Nat} {b0 : Nat} {spare : Nat → Bool} {held : Bool} {t e : TypeId} {n : Nat} {v : Value} {d : DataW H} {ps : List MemPlace}
    (hu : P.underlying t = some (.array n e)) (he : P.underlying e = some (.int .u8)) (hc : P.cellsOf e = 1) (hC : P.cellsOf t = n)
    (hval : Value.okWide P W r b0 t v) (h : DataW.Trod enc P W base spare held t v d ps) :
    ∃ l : List UInt8, v = .agg (encB l).toArray ∧ l.length = n := by
  obtain ⟨xs, rfl, hl, hw⟩ := open_arr hu he hc hC hval h
  exact ⟨xs.map fun n => UInt8.ofNat n.toNat, by rw [encB_of _ (fun x hx => wf_u8 (hw x hx))], by simpa using hl⟩
end Go.Proofs.YtljinghhalcnnaaDoor
namespace Go.Proofs.YtljinghhalcnnaaDoor
open Go.RowKit

theorem bulkAll_eq {H : Type} : ∀ l : List (DataW H), Rows.uptoBulkAll l = (l.map Rows.uptoBulk).sum
  | [] => by simp [Rows.uptoBulkAll]
  | x :: r => by simp only [Rows.uptoBulkAll, List.map_cons, List.sum_cons, bulkAll_eq r]
theorem bulkLike (H : Type) : BulkLike (Rows.uptoBulk (H := H)) where
  one d := by
    cases d with
    | lit l => cases l <;> simp [Rows.uptoBulk]
    | nil => simp [Rows.uptoBulk]
    | ptr d => simp [Rows.uptoBulk]
    | slice elems spare => simp [Rows.uptoBulk]
    | agg parts => simp [Rows.uptoBulk]
    | iface t d => simp [Rows.uptoBulk]
    | map entries => simp [Rows.uptoBulk]
    | held h => simp [Rows.uptoBulk]
  str l := by simp [Rows.uptoBulk]
  slice e s := by simp only [Rows.uptoBulk, bulkAll_eq]; omega
  agg e := by simp only [Rows.uptoBulk, bulkAll_eq]; omega
theorem bulk_of {H : Type} {l : List (DataW H)} (hk : Rows.uptoSmall H l = true) : (l.map Rows.uptoBulk).sum ≤ 1048576 := by
  rw [← bulkAll_eq]
  exact of_decide_eq_true hk
end Go.Proofs.YtljinghhalcnnaaDoor
