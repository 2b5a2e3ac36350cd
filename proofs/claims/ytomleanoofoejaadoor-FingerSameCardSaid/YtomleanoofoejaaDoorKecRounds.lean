/- The document's rounds: a contract. -/
import Derived.Test.YtomleanoofoejaaDoorKecRefP
import Derived.Test.YtomleanoofoejaaDoorKecTurned
import Derived.Test.YtomleanoofoejaaDoorKecOut
namespace Go.Proofs.YtomleanoofoejaaDoor
open Go.RowKit
attribute [local irreducible] dcolsTo dthetaTo dwTo dchiTo diTo dmid dround drTo

theorem info_ln : (Tryd.prog.info? 56).map (·.size) = some 25 := by kernel_rfl
def LanesP (xs : List Nat) (w : World) (e : Ending) (w' : World) : Prop := e = .returned (.agg (encN xs).toArray) ∧ Keeps [] w w'

theorem i64_xor113 (m : Nat) (h : m < 256) : bits .xor .i64 (m : Int) 113 = ((m ^^^ 113 : Nat) : Int) := by
  have hx : m ^^^ 113 < 2 ^ 8 := Nat.xor_lt_two_pow (by omega) (by decide)
  show IntKind.i64.wrap ((BitVec.ofInt 64 (m : Int) ^^^ BitVec.ofInt 64 ((113 : Nat) : Int)).toNat : Int) = _
  have e : ∀ a : Nat, a < 256 → (BitVec.ofInt 64 (a : Int)).toNat = a := fun a ha => by
    rw [BitVec.ofInt_natCast, BitVec.toNat_ofNat]; exact Nat.mod_eq_of_lt (by omega)
  rw [BitVec.toNat_xor, e m h, e 113 (by decide), IntKind.wrap_i64]
  omega
/-- The block of the lanes, and that of the result. -/
def Rr (w V : World) (S : List Nat) : Prop := St V w.heap.size 56 [] S ∧ St V (w.heap.size + 1) 56 [] (List.replicate 25 0) ∧ Keeps [] w V
theorem Rr.keeps {T : List Nat} {w V V' : World} {S : List Nat} (h : Rr w V S) (hk : Keeps T V V') (hT : ∀ t ∈ T, w.heap.size + 2 ≤ t) : Rr w V' S :=
  ⟨h.1.keeps hk (fun hm => by have := hT _ hm; omega), h.2.1.keeps hk (fun hm => by have := hT _ hm; omega), h.2.2.trans hk (fun t ht => .inr (by have := hT t ht; omega))⟩
theorem Rr.two {w V : World} {S : List Nat} (h : Rr w V S) : w.heap.size + 2 ≤ V.heap.size := h.2.1.lt
theorem Rr.put {w V V' : World} {S S' : List Nat} (h : Rr w V S) (hk : Keeps [w.heap.size] V V') (h' : St V' w.heap.size 56 [] S') : Rr w V' S' :=
  ⟨h', h.2.1.keeps hk (by simp), h.2.2.trans hk (fun t ht => .inr (by simp at ht; omega))⟩

set_option maxRecDepth 100000 in
set_option maxHeartbeats 20000000 in
theorem rounds_any (D : List Nat) (hD : Wf 25 D) (w : World) :
    Calls Tryd.prog 27 #[.agg (encN D).toArray] w (LanesP (drTo D 24).1 w) := by
  have HD := Lib.hid hD
  obtain ⟨cs, hcs⟩ : ∃ cs, cs = (encN D).toArray := ⟨_, rfl⟩
  rw [← hcs]
  have HCS := Lib.hid hcs
  clear hD hcs
  have HZ := Lib.hid zero25
  go_enter Tryd.func27, Tryd.ntmps27
  go_wp2_with fail
  rw [HZ.out]
  obtain ⟨W, hW⟩ : ∃ W, W = (w.alloc (.cells cs 56)).alloc (.cells (encN (List.replicate 25 0)).toArray 56) := ⟨_, rfl⟩
  rw [← hW]
  have INV := Lib.hid (show Rr w W (drTo D 0).1 from by
    rw [hW]
    refine ⟨?_, ?_, ((Keeps.refl [] w).alloc _).alloc _⟩
    · show _ = _
      rw [HCS.out, List.append_nil, heap_alloc2_old]
      unfold drTo; rfl
    · show _ = _
      rw [List.append_nil, heap_alloc2_new])
  clear hW
  go_loopw [3, 4] (fun ro i wr => ∃ k : Nat, k ≤ 24 ∧ i = .int .i64 k ∧ ro = .int .i64 ((drTo D k).2 : Nat) ∧ Hid (Rr w wr (drTo D k).1)) (fun _ i _ => 24 - (intOf i).toNat)
  case atStart => exact ⟨0, by omega, rfl, by unfold drTo; rfl, INV.out⟩
  case round =>
    clear INV
    obtain ⟨k, hk, rfl, rfl, hinv⟩ := hrel
    by_cases hlt : k < 24
    · have hi : (k : Int) < 24 := by omega
      obtain ⟨⟨S, ρ⟩, hS⟩ : ∃ M, M = drTo D k := ⟨_, rfl⟩
      have HM := Lib.hid (drTo_ok HD.out k)
      have HS := Lib.hid (show drTo D (k + 1) = dround (S, ρ) k by rw [drTo_succ, hS])
      rw [← hS] at hinv HM ⊢
      clear hS
      have hw2 : w.heap.size < wr.heap.size := by have := hinv.out.two; omega
      go_wp2_with fail
      rw [zero5]
      obtain ⟨gc, hgc⟩ : ∃ gc, gc = wr.heap.size := ⟨_, rfl⟩
      obtain ⟨W1, hW1⟩ : ∃ W1, W1 = wr.alloc (.cells (encN (List.replicate 5 0) ++ []).toArray 54) := ⟨_, rfl⟩
      rw [← hW1, ← hgc]
      have HGC := Lib.hid (show w.heap.size + 2 ≤ gc by rw [hgc]; exact hinv.out.two)
      have INV := Lib.hid (show Rr w W1 S ∧ St W1 gc 54 [] (dcolsTo S 0) from by
        rw [hW1, hgc]
        exact ⟨hinv.out.keeps ((Keeps.refl [] wr).alloc _) (by simp), by show _ = _; rw [heap_alloc_new]; unfold dcolsTo; rfl⟩)
      clear hW1 hgc hinv hw2
      go_loopw [6] (fun i wr => ∃ x : Nat, x ≤ 5 ∧ i = .int .i64 x ∧ Hid (Rr w wr S ∧ St wr gc 54 [] (dcolsTo S (5 * x)))) (fun i _ => 5 - (intOf i).toNat)
      case atStart => exact ⟨0, by omega, rfl, INV.out⟩
      case round =>
        clear INV
        obtain ⟨x, hx, rfl, hinv⟩ := hrel
        by_cases hltx : x < 5
        · have hix : (x : Int) < 5 := by omega
          go_wp2_with fail
          obtain ⟨wo, rfl⟩ : ∃ wo : World, wo = wr := ⟨_, rfl⟩
          have INV := Lib.hid (show Rr w wo S ∧ St wo gc 54 [] (dcolsTo S (5 * x + 0)) from hinv.out)
          clear hinv
          go_loopw [7] (fun i wr => ∃ y : Nat, y ≤ 5 ∧ i = .int .i64 y ∧ Hid (Rr w wr S ∧ St wr gc 54 [] (dcolsTo S (5 * x + y)))) (fun i _ => 5 - (intOf i).toNat)
          case atStart => exact ⟨0, by omega, rfl, INV.out⟩
          case round =>
            clear INV
            obtain ⟨y, hy, rfl, hinv⟩ := hrel
            by_cases hlty : y < 5
            · have hiy : (y : Int) < 5 := by omega
              obtain ⟨j, hj⟩ : ∃ j, j = x * 5 + y := ⟨_, rfl⟩
              have HJ := Lib.hid (show dcolsTo S (5 * x + (y + 1)) = dcol S (dcolsTo S (5 * x + y)) j ∧ j / 5 = x ∧ j < 25 from ⟨by rw [hj, show x * 5 + y = 5 * x + y by omega]; exact dcolsTo_succ S (5 * x + y), by omega, by omega⟩)
              have HCW := Lib.hid (HM.out.1.dcolsTo (5 * x + y))
              obtain ⟨M, hM⟩ : ∃ M, M = dcolsTo S (5 * x + y) := ⟨_, rfl⟩
              rw [← hM] at hinv HJ HCW
              have q1 : ∀ z : World, St z w.heap.size 56 [] S ∧ St z gc 54 [] M → z.cell? ⟨gc, x, none⟩ = some (.int .u64 (ln M x : Int)) := fun z hz => hz.2.cell x (by rw [HCW.out.1]; exact hltx)
              have q2 : ∀ z : World, St z w.heap.size 56 [] S ∧ St z gc 54 [] M → z.cell? ⟨w.heap.size, j, none⟩ = some (.int .u64 (ln S j : Int)) := fun z hz => hz.1.cell j (by rw [HM.out.1.1]; exact HJ.out.2.2)
              have hx1 := u64_xor_nat (ln M x) (ln S j) (HCW.out.2 _) (HM.out.1.2 _)
              have ej : x * 5 + y = j := hj.symm
              clear hM hj
              go_wp2_with fail
              refine seqz_start (by kernel_rfl) (fun z => St z w.heap.size 56 [] S ∧ St z gc 54 [] M) 11 12 [0, 1, 2, 3, 4, 5, 6, 7, 8, 9, 10, 11] rfl (⟨hinv.out.1.1, hinv.out.2⟩) (fun hS => ?_)
              refine seqz_take (v := ?_) rfl (by kernel_rfl) (by kernel_rfl) (by kernel_rfl) (by kernel_rfl) (by kernel_rfl) (by decide) (Or.inl ⟨by rfl, fun w' hSw => ?_⟩) (by assumption) ?_
              rotate_left
              · go_simp
                with_reducible rfl
              simp only [Act.put, List.setIfInBounds_toArray, List.set_cons_zero, List.set_cons_succ]
              refine seqz_take (v := ?_) rfl (by kernel_rfl) (by kernel_rfl) (by kernel_rfl) (by kernel_rfl) (by kernel_rfl) (by decide) (Or.inl ⟨by rfl, fun w' hSw => ?_⟩) (by assumption) ?_
              rotate_left
              · go_simp
                with_reducible rfl
              simp only [Act.put, List.setIfInBounds_toArray, List.set_cons_zero, List.set_cons_succ]
              refine seqz_take (v := ?_) rfl (by kernel_rfl) (by kernel_rfl) (by kernel_rfl) (by kernel_rfl) (by kernel_rfl) (by decide) (Or.inl ⟨by rfl, fun w' hSw => ?_⟩) (by assumption) ?_
              rotate_left
              · go_simp
                with_reducible rfl
              simp only [Act.put, List.setIfInBounds_toArray, List.set_cons_zero, List.set_cons_succ]
              refine seqz_take (v := ?_) rfl (by kernel_rfl) (by kernel_rfl) (by kernel_rfl) (by kernel_rfl) (by kernel_rfl) (by decide) (Or.inl ⟨by rfl, fun w' hSw => ?_⟩) (by assumption) ?_
              rotate_left
              · go_simp
                with_reducible rfl
              simp only [Act.put, List.setIfInBounds_toArray, List.set_cons_zero, List.set_cons_succ]
              refine seqz_take (v := ?_) rfl (by kernel_rfl) (by kernel_rfl) (by kernel_rfl) (by kernel_rfl) (by kernel_rfl) (by decide) (Or.inl ⟨by rfl, fun w' hSw => ?_⟩) (by assumption) ?_
              rotate_left
              · go_simp
                with_reducible rfl
              simp only [Act.put, List.setIfInBounds_toArray, List.set_cons_zero, List.set_cons_succ]
              refine seqz_take (v := ?_) rfl (by kernel_rfl) (by kernel_rfl) (by kernel_rfl) (by kernel_rfl) (by kernel_rfl) (by decide) (Or.inl ⟨by rfl, fun w' hSw => ?_⟩) (by assumption) ?_
              rotate_left
              · go_simp
                with_reducible rfl
              simp only [Act.put, List.setIfInBounds_toArray, List.set_cons_zero, List.set_cons_succ]
              refine seqz_take (v := ?_) rfl (by kernel_rfl) (by kernel_rfl) (by kernel_rfl) (by kernel_rfl) (by kernel_rfl) (by decide) (Or.inl ⟨by rfl, fun w' hSw => ?_⟩) (by assumption) ?_
              rotate_left
              · go_simp
                with_reducible rfl
              simp only [Act.put, List.setIfInBounds_toArray, List.set_cons_zero, List.set_cons_succ]
              refine seqz_take (v := ?_) rfl (by kernel_rfl) (by kernel_rfl) (by kernel_rfl) (by kernel_rfl) (by kernel_rfl) (by decide) (Or.inl ⟨by rfl, fun w' hSw => ?_⟩) (by assumption) ?_
              rotate_left
              · go_simp
                with_reducible rfl
              simp only [Act.put, List.setIfInBounds_toArray, List.set_cons_zero, List.set_cons_succ]
              refine seqz_take (v := ?_) rfl (by kernel_rfl) (by kernel_rfl) (by kernel_rfl) (by kernel_rfl) (by kernel_rfl) (by decide) (Or.inl ⟨by rfl, fun w' hSw => ?_⟩) (by assumption) ?_
              rotate_left
              · go_simp
                with_reducible rfl
              simp only [Act.put, List.setIfInBounds_toArray, List.set_cons_zero, List.set_cons_succ]
              refine seqz_take (v := ?_) rfl (by kernel_rfl) (by kernel_rfl) (by kernel_rfl) (by kernel_rfl) (by kernel_rfl) (by decide) (Or.inl ⟨by rfl, fun w' hSw => ?_⟩) (by assumption) ?_
              rotate_left
              · go_simp
                with_reducible rfl
              simp only [Act.put, List.setIfInBounds_toArray, List.set_cons_zero, List.set_cons_succ]
              refine seqz_take (v := ?_) rfl (by kernel_rfl) (by kernel_rfl) (by kernel_rfl) (by kernel_rfl) (by kernel_rfl) (by decide) (Or.inl ⟨by rfl, fun w' hSw => ?_⟩) (by assumption) ?_
              rotate_left
              · go_simp
                with_reducible rfl
              simp only [Act.put, List.setIfInBounds_toArray, List.set_cons_zero, List.set_cons_succ]
              refine seqz_last rfl (by kernel_rfl) (by rfl) (by kernel_rfl) ?_
              all_goals skip
              have HI := Lib.hid (show Rr w wr.drew S ∧ St wr.drew gc 54 [] M from ⟨hinv.out.1.keeps (Keeps.refl [] wr).drew (by simp), hinv.out.2⟩)
              clear hinv q1 q2
              generalize wr.drew = V at HI ⊢
              have qa := HI.out.2.cell x (by rw [HCW.out.1]; exact hltx)
              have fa := HI.out.2.frozen x
              have HSET := Lib.hid (HI.out.2.set x (ln M x ^^^ ln S j) (by rw [HCW.out.1]; exact hltx))
              go_wp2_with fail
              go_roundw
              case rel =>
                refine ⟨y + 1, by omega, by go_num, HI.out.1.keeps (Keeps.at_ _) (by simp; exact HGC.out), ?_⟩
                rw [HJ.out.1]
                unfold dcol
                rw [HJ.out.2.1]
                exact HSET.out
              case measure => simp [intOf]; omega
            · have hiy : ¬ (y : Int) < 5 := by omega
              have HY := Lib.hid (show 5 * x + y = 5 * (x + 1) by omega)
              clear hlty
              go_wp2_with fail
              go_roundw
              case rel => exact ⟨x + 1, by omega, by go_num, by rw [← HY.out]; exact hinv.out⟩
              case measure => simp [intOf]; omega
        · have hix : ¬ (x : Int) < 5 := by omega
          have HX := Lib.hid (show 5 * x = 25 by omega)
          clear hltx
          have hg1 : gc < wr.heap.size := hinv.out.2.lt
          go_wp2_with fail
          rw [HZ.out]
          obtain ⟨ga, hga⟩ : ∃ ga, ga = wr.heap.size := ⟨_, rfl⟩
          obtain ⟨C, hC⟩ : ∃ C, C = dcolsTo S 25 := ⟨_, rfl⟩
          have HCC := Lib.hid hC
          have HCW := Lib.hid (show Wf 5 C by rw [hC]; exact HM.out.1.dcolsTo 25)
          obtain ⟨W2, hW2⟩ : ∃ W2, W2 = wr.alloc (.cells (encN (List.replicate 25 0)).toArray 56) := ⟨_, rfl⟩
          rw [← hW2, ← hga]
          have HGA := Lib.hid (show gc < ga by rw [hga]; exact hg1)
          have INV := Lib.hid (show Rr w W2 S ∧ St W2 gc 54 [] C ∧ St W2 ga 56 [] (dthetaTo C S (5 * 0)) from by
            have h2 := hinv.out.2
            rw [HX.out, ← hC] at h2
            rw [hW2, hga]
            exact ⟨hinv.out.1.keeps ((Keeps.refl [] wr).alloc _) (by simp), h2.keeps ((Keeps.refl [] wr).alloc _) (by simp), by show _ = _; rw [heap_alloc_new, List.append_nil]; unfold dthetaTo; rfl⟩)
          clear hW2 hga hinv hg1 hC
          go_loopw [9] (fun i wr => ∃ x : Nat, x ≤ 5 ∧ i = .int .i64 x ∧ Hid (Rr w wr S ∧ St wr gc 54 [] C ∧ St wr ga 56 [] (dthetaTo C S (5 * x)))) (fun i _ => 5 - (intOf i).toNat)
          case atStart => exact ⟨0, by omega, rfl, INV.out⟩
          case round =>
            clear INV
            obtain ⟨x2, hx2, rfl, hinv⟩ := hrel
            by_cases hltx2 : x2 < 5
            · have hix2 : (x2 : Int) < 5 := by omega
              go_wp2_with fail
              obtain ⟨wo, rfl⟩ : ∃ wo : World, wo = wr := ⟨_, rfl⟩
              have INV := Lib.hid (show Rr w wo S ∧ St wo gc 54 [] C ∧ St wo ga 56 [] (dthetaTo C S (5 * x2 + 0)) from hinv.out)
              clear hinv
              go_loopw [10] (fun i wr => ∃ y : Nat, y ≤ 5 ∧ i = .int .i64 y ∧ Hid (Rr w wr S ∧ St wr gc 54 [] C ∧ St wr ga 56 [] (dthetaTo C S (5 * x2 + y)))) (fun i _ => 5 - (intOf i).toNat)
              case atStart => exact ⟨0, by omega, rfl, INV.out⟩
              case round =>
                clear INV
                obtain ⟨y, hy, rfl, hinv⟩ := hrel
                by_cases hlty : y < 5
                · have hiy : (y : Int) < 5 := by omega
                  obtain ⟨j, hj⟩ : ∃ j, j = x2 * 5 + y := ⟨_, rfl⟩
                  obtain ⟨k4, hk4⟩ : ∃ k, k = (x2 + 4) % 5 := ⟨_, rfl⟩
                  obtain ⟨k1, hk1⟩ : ∃ k, k = (x2 + 1) % 5 := ⟨_, rfl⟩
                  have t4 : (IntKind.i64.wrap ((x2 : Int) + 4)).tmod 5 = (k4 : Int) := wrap_mod5 x2 4 k4 (by omega) hk4
                  have t1 : (IntKind.i64.wrap ((x2 : Int) + 1)).tmod 5 = (k1 : Int) := wrap_mod5 x2 1 k1 (by omega) hk1
                  have b4 : (k4 : Int) < 5 := by omega
                  have b1 : (k1 : Int) < 5 := by omega
                  have HJ := Lib.hid (show dthetaTo C S (5 * x2 + (y + 1)) = dthetaStep C S (dthetaTo C S (5 * x2 + y)) j ∧ (j / 5 + 4) % 5 = k4 ∧ (j / 5 + 1) % 5 = k1 ∧ j < 25 from ⟨by rw [hj, show x2 * 5 + y = 5 * x2 + y by omega]; exact dthetaTo_succ C S (5 * x2 + y), by omega, by omega, by omega⟩)
                  have HTW := Lib.hid (Wf.dthetaTo HCW.out HM.out.1 (5 * x2 + y))
                  obtain ⟨M, hM⟩ : ∃ M, M = dthetaTo C S (5 * x2 + y) := ⟨_, rfl⟩
                  rw [← hM] at hinv HJ HTW
                  have q1 : ∀ z : World, St z w.heap.size 56 [] S ∧ St z gc 54 [] C → z.cell? ⟨gc, k4, none⟩ = some (.int .u64 (ln C k4 : Int)) := fun z hz => hz.2.cell k4 (by rw [HCW.out.1]; omega)
                  have q3 : ∀ z : World, St z w.heap.size 56 [] S ∧ St z gc 54 [] C → z.cell? ⟨gc, k1, none⟩ = some (.int .u64 (ln C k1 : Int)) := fun z hz => hz.2.cell k1 (by rw [HCW.out.1]; omega)
                  have q2 : ∀ z : World, St z w.heap.size 56 [] S ∧ St z gc 54 [] C → z.cell? ⟨w.heap.size, j, none⟩ = some (.int .u64 (ln S j : Int)) := fun z hz => hz.1.cell j (by rw [HM.out.1.1]; exact HJ.out.2.2.2)
                  have hr := rotl_lt (ln C k1) 1 (HCW.out.2 _)
                  have hx1 := u64_xor_nat (ln S j) (ln C k4) (HM.out.1.2 _) (HCW.out.2 _)
                  have hx2' := u64_xor_nat (ln S j ^^^ ln C k4) (rotl (ln C k1) 1) (xor_lt _ _ (HM.out.1.2 _) (HCW.out.2 _)) hr
                  have ej : x2 * 5 + y = j := hj.symm
                  clear hM hj hr hk4 hk1
                  go_wp2_with fail
                  refine seqz_start (by kernel_rfl) (fun z => St z w.heap.size 56 [] S ∧ St z gc 54 [] C) 22 23 [0, 1, 2, 3, 4, 5, 6, 7, 8, 9, 10, 11, 12, 13, 14, 15, 16, 17, 18, 19, 20, 21, 22] rfl (⟨hinv.out.1.1, hinv.out.2.1⟩) (fun hS => ?_)
                  have HI := Lib.hid (show Rr w wr.drew S ∧ St wr.drew gc 54 [] C ∧ St wr.drew ga 56 [] M from ⟨hinv.out.1.keeps (Keeps.refl [] wr).drew (by simp), hinv.out.2⟩)
                  clear hinv
                  generalize wr.drew = V at HI hS ⊢
                  refine seqz_take (v := ?_) rfl (by kernel_rfl) (by kernel_rfl) (by kernel_rfl) (by kernel_rfl) (by kernel_rfl) (by decide) (Or.inl ⟨by rfl, fun w' hSw => ?_⟩) (by assumption) ?_
                  rotate_left
                  · go_simp
                    with_reducible rfl
                  simp only [Act.put, List.setIfInBounds_toArray, List.set_cons_zero, List.set_cons_succ]
                  refine seqz_take (v := ?_) rfl (by kernel_rfl) (by kernel_rfl) (by kernel_rfl) (by kernel_rfl) (by kernel_rfl) (by decide) (Or.inl ⟨by rfl, fun w' hSw => ?_⟩) (by assumption) ?_
                  rotate_left
                  · go_simp
                    with_reducible rfl
                  simp only [Act.put, List.setIfInBounds_toArray, List.set_cons_zero, List.set_cons_succ]
                  refine seqz_take (v := ?_) rfl (by kernel_rfl) (by kernel_rfl) (by kernel_rfl) (by kernel_rfl) (by kernel_rfl) (by decide) (Or.inl ⟨by rfl, fun w' hSw => ?_⟩) (by assumption) ?_
                  rotate_left
                  · go_simp
                    with_reducible rfl
                  simp only [Act.put, List.setIfInBounds_toArray, List.set_cons_zero, List.set_cons_succ]
                  refine seqz_take (v := ?_) rfl (by kernel_rfl) (by kernel_rfl) (by kernel_rfl) (by kernel_rfl) (by kernel_rfl) (by decide) (Or.inl ⟨by rfl, fun w' hSw => ?_⟩) (by assumption) ?_
                  rotate_left
                  · go_simp
                    with_reducible rfl
                  simp only [Act.put, List.setIfInBounds_toArray, List.set_cons_zero, List.set_cons_succ]
                  refine seqz_take (v := ?_) rfl (by kernel_rfl) (by kernel_rfl) (by kernel_rfl) (by kernel_rfl) (by kernel_rfl) (by decide) (Or.inl ⟨by rfl, fun w' hSw => ?_⟩) (by assumption) ?_
                  rotate_left
                  · go_simp
                    with_reducible rfl
                  simp only [Act.put, List.setIfInBounds_toArray, List.set_cons_zero, List.set_cons_succ]
                  refine seqz_take (v := ?_) rfl (by kernel_rfl) (by kernel_rfl) (by kernel_rfl) (by kernel_rfl) (by kernel_rfl) (by decide) (Or.inl ⟨by rfl, fun w' hSw => ?_⟩) (by assumption) ?_
                  rotate_left
                  · go_simp
                    with_reducible rfl
                  simp only [Act.put, List.setIfInBounds_toArray, List.set_cons_zero, List.set_cons_succ]
                  refine seqz_take (v := ?_) rfl (by kernel_rfl) (by kernel_rfl) (by kernel_rfl) (by kernel_rfl) (by kernel_rfl) (by decide) (Or.inl ⟨by rfl, fun w' hSw => ?_⟩) (by assumption) ?_
                  rotate_left
                  · go_simp
                    with_reducible rfl
                  simp only [Act.put, List.setIfInBounds_toArray, List.set_cons_zero, List.set_cons_succ]
                  refine seqz_take (v := ?_) rfl (by kernel_rfl) (by kernel_rfl) (by kernel_rfl) (by kernel_rfl) (by kernel_rfl) (by decide) (Or.inl ⟨by rfl, fun w' hSw => ?_⟩) (by assumption) ?_
                  rotate_left
                  · go_simp
                    with_reducible rfl
                  simp only [Act.put, List.setIfInBounds_toArray, List.set_cons_zero, List.set_cons_succ]
                  refine seqz_take (v := ?_) rfl (by kernel_rfl) (by kernel_rfl) (by kernel_rfl) (by kernel_rfl) (by kernel_rfl) (by decide) (Or.inl ⟨by rfl, fun w' hSw => ?_⟩) (by assumption) ?_
                  rotate_left
                  · go_simp
                    with_reducible rfl
                  simp only [Act.put, List.setIfInBounds_toArray, List.set_cons_zero, List.set_cons_succ]
                  refine seqz_take (v := ?_) rfl (by kernel_rfl) (by kernel_rfl) (by kernel_rfl) (by kernel_rfl) (by kernel_rfl) (by decide) (Or.inl ⟨by rfl, fun w' hSw => ?_⟩) (by assumption) ?_
                  rotate_left
                  · go_simp
                    with_reducible rfl
                  simp only [Act.put, List.setIfInBounds_toArray, List.set_cons_zero, List.set_cons_succ]
                  refine seqz_take (v := ?_) rfl (by kernel_rfl) (by kernel_rfl) (by kernel_rfl) (by kernel_rfl) (by kernel_rfl) (by decide) (Or.inl ⟨by rfl, fun w' hSw => ?_⟩) (by assumption) ?_
                  rotate_left
                  · go_simp
                    with_reducible rfl
                  simp only [Act.put, List.setIfInBounds_toArray, List.set_cons_zero, List.set_cons_succ]
                  refine seqz_take (v := ?_) rfl (by kernel_rfl) (by kernel_rfl) (by kernel_rfl) (by kernel_rfl) (by kernel_rfl) (by decide) (Or.inl ⟨by rfl, fun w' hSw => ?_⟩) (by assumption) ?_
                  rotate_left
                  · go_simp
                    with_reducible rfl
                  simp only [Act.put, List.setIfInBounds_toArray, List.set_cons_zero, List.set_cons_succ]
                  refine seqz_take (v := ?_) rfl (by kernel_rfl) (by kernel_rfl) (by kernel_rfl) (by kernel_rfl) (by kernel_rfl) (by decide) (Or.inl ⟨by rfl, fun w' hSw => ?_⟩) (by assumption) ?_
                  rotate_left
                  · go_simp
                    with_reducible rfl
                  simp only [Act.put, List.setIfInBounds_toArray, List.set_cons_zero, List.set_cons_succ]
                  refine seqz_take (v := ?_) rfl (by kernel_rfl) (by kernel_rfl) (by kernel_rfl) (by kernel_rfl) (by kernel_rfl) (by decide) (Or.inl ⟨by rfl, fun w' hSw => ?_⟩) (by assumption) ?_
                  rotate_left
                  · go_simp
                    with_reducible rfl
                  simp only [Act.put, List.setIfInBounds_toArray, List.set_cons_zero, List.set_cons_succ]
                  refine seqz_take (v := ?_) rfl (by kernel_rfl) (by kernel_rfl) (by kernel_rfl) (by kernel_rfl) (by kernel_rfl) (by decide) (Or.inl ⟨by rfl, fun w' hSw => ?_⟩) (by assumption) ?_
                  rotate_left
                  · go_simp
                    with_reducible rfl
                  simp only [Act.put, List.setIfInBounds_toArray, List.set_cons_zero, List.set_cons_succ]
                  refine seqz_take (v := ?_) rfl (by kernel_rfl) (by kernel_rfl) (by kernel_rfl) (by kernel_rfl) (by kernel_rfl) (by decide) (Or.inl ⟨by rfl, fun w' hSw => ?_⟩) (by assumption) ?_
                  rotate_left
                  · go_simp
                    with_reducible rfl
                  simp only [Act.put, List.setIfInBounds_toArray, List.set_cons_zero, List.set_cons_succ]
                  refine seqz_take (v := ?_) rfl (by kernel_rfl) (by kernel_rfl) (by kernel_rfl) (by kernel_rfl) (by kernel_rfl) (by decide) (Or.inl ⟨by rfl, fun w' hSw => ?_⟩) (by assumption) ?_
                  rotate_left
                  · go_simp
                    with_reducible rfl
                  simp only [Act.put, List.setIfInBounds_toArray, List.set_cons_zero, List.set_cons_succ]
                  refine seqz_take (v := ?_) rfl (by kernel_rfl) (by kernel_rfl) (by kernel_rfl) (by kernel_rfl) (by kernel_rfl) (by decide) (Or.inl ⟨by rfl, fun w' hSw => ?_⟩) (by assumption) ?_
                  rotate_left
                  · go_simp
                    with_reducible rfl
                  simp only [Act.put, List.setIfInBounds_toArray, List.set_cons_zero, List.set_cons_succ]
                  iterate 2 (refine seq_later ?_; simp only [List.cons_append, List.nil_append])
                  refine seqz_take (v := ?_) rfl (by kernel_rfl) (by kernel_rfl) (by kernel_rfl) (by kernel_rfl) (by kernel_rfl) (by decide) (Or.inl ⟨by rfl, fun w' hSw => ?_⟩) (by assumption) ?_
                  rotate_left
                  · go_simp
                    with_reducible rfl
                  simp only [Act.put, List.setIfInBounds_toArray, List.set_cons_zero, List.set_cons_succ]
                  iterate 2 (refine seq_later ?_; simp only [List.cons_append, List.nil_append])
                  refine seqz_do rfl (by kernel_rfl) (by rfl) (fun K hK => ?_)
                  go_simp
                  refine (turned_any (ln C k1) 1 V (HCW.out.2 _) (by decide)).mono ?_
                  rintro e V2 ⟨rfl, hk2⟩
                  have HI2 := Lib.hid (show Rr w V2 S ∧ St V2 gc 54 [] C ∧ St V2 ga 56 [] M from ⟨HI.out.1.keeps hk2 (by simp), HI.out.2.1.keeps hk2 (by simp), HI.out.2.2.keeps hk2 (by simp)⟩)
                  clear HI hk2
                  refine hK.out (fun z => St z w.heap.size 56 [] S ∧ St z gc 54 [] C) _ _ (fun _ h => h) ⟨HI2.out.1.1, HI2.out.2.1⟩ (fun hS => ?_)
                  refine seqz_take (v := ?_) rfl (by kernel_rfl) (by kernel_rfl) (by kernel_rfl) (by kernel_rfl) (by kernel_rfl) (by decide) (Or.inl ⟨by rfl, fun w' hSw => ?_⟩) (by assumption) ?_
                  rotate_left
                  · go_simp
                    with_reducible rfl
                  simp only [Act.put, List.setIfInBounds_toArray, List.set_cons_zero, List.set_cons_succ]
                  refine seqz_take (v := ?_) rfl (by kernel_rfl) (by kernel_rfl) (by kernel_rfl) (by kernel_rfl) (by kernel_rfl) (by decide) (Or.inl ⟨by rfl, fun w' hSw => ?_⟩) (by assumption) ?_
                  rotate_left
                  · go_simp
                    with_reducible rfl
                  simp only [Act.put, List.setIfInBounds_toArray, List.set_cons_zero, List.set_cons_succ]
                  refine seqz_last rfl (by kernel_rfl) (by rfl) (by kernel_rfl) ?_
                  all_goals skip
                  clear q1 q2 q3 hS
                  have qa := HI2.out.2.2.cell j (by rw [HTW.out.1]; exact HJ.out.2.2.2)
                  have fa := HI2.out.2.2.frozen j
                  have HSET := Lib.hid (HI2.out.2.2.set j (ln S j ^^^ ln C k4 ^^^ rotl (ln C k1) 1) (by rw [HTW.out.1]; exact HJ.out.2.2.2))
                  go_wp2_with fail
                  go_roundw
                  case rel =>
                    refine ⟨y + 1, by omega, by go_num, HI2.out.1.keeps (Keeps.at_ _) (by simp; have := HGC.out; have := HGA.out; omega), HI2.out.2.1.keeps (Keeps.at_ _) (by simp; have := HGA.out; omega), ?_⟩
                    rw [HJ.out.1]
                    unfold dthetaStep
                    rw [HJ.out.2.1, HJ.out.2.2.1]
                    exact HSET.out
                  case measure => simp [intOf]; omega
                · have hiy : ¬ (y : Int) < 5 := by omega
                  have HY := Lib.hid (show 5 * x2 + y = 5 * (x2 + 1) by omega)
                  clear hlty
                  go_wp2_with fail
                  go_roundw
                  case rel => exact ⟨x2 + 1, by omega, by go_num, by rw [← HY.out]; exact hinv.out⟩
                  case measure => simp [intOf]; omega
            · have hix2 : ¬ (x2 : Int) < 5 := by omega
              have HX2 := Lib.hid (show 5 * x2 = 25 by omega)
              clear hltx2
              obtain ⟨A, hA⟩ : ∃ A, A = dthetaTo C S 25 := ⟨_, rfl⟩
              have HAA := Lib.hid hA
              have HAW := Lib.hid (show Wf 25 A by rw [hA]; exact Wf.dthetaTo HCW.out HM.out.1 25)
              have h3 := hinv.out.2.2
              rw [HX2.out, ← hA] at h3
              clear hA
              have HA3 := Lib.hid h3
              have HAH := Lib.hid (show wr.heap[ga]? = some (.cells (encN A).toArray 56 (0, 0)) by
                have h4 : wr.heap[ga]? = some (.cells (encN A ++ []).toArray 56 (0, 0)) := h3
                rw [h4, List.append_nil])
              clear h3
              have HI1 := Lib.hid (show (Tryd.prog.info? 56).map (·.size) = some (encN A).length by rw [length_encN, HAW.out.1]; exact info_ln)
              have HI2 := Lib.hid (show (Tryd.prog.info? 56).map (·.size) = some (encN A).toArray.size by rw [List.size_toArray]; exact HI1.out)
              obtain ⟨cA, hcA⟩ : ∃ cA, cA = encN A := ⟨_, rfl⟩
              rw [← hcA] at HAH HI1 HI2
              have HCA := Lib.hid hcA
              have HCL := Lib.hid (show (encN (List.replicate 25 0)).length = cA.length by rw [hcA, length_encN, length_encN, HAW.out.1, List.length_replicate])
              have HCO := Lib.hid (show ∀ v ∈ cA, v.oneCell' = true by rw [hcA]; exact encN_one _)
              clear hcA
              have HGW := Lib.hid (show ga < wr.heap.size from HA3.out.lt)
              go_wp2_with (first
                | (refine wpList_load_row rfl 56 (.tmp 8) rfl ga rfl 56 cA.toArray (0, 0) _ HAH.out Tryd.underlying56 rfl HI2.out ?_)
                | (refine wpList_store_rowK rfl 56 (.tmp 11) (.tmp 75) rfl wr.heap.size cA (encN (List.replicate 25 0)) 56 rfl rfl (by rw [HZ.out]; exact heap_alloc_new _ _) HCL.out HI1.out HCO.out ?_
                   intro W3 hW3 hkW3))
              obtain ⟨gb, hgb⟩ : ∃ gb, gb = wr.heap.size := ⟨_, rfl⟩
              have HGB := Lib.hid (show ga < gb by rw [hgb]; exact HGW.out)
              have INV := Lib.hid (show Rr w W3 S ∧ St W3 ga 56 [] A ∧ St W3 gb 56 [] (dwTo A 0).b from by
                have hk3 : Keeps [] wr W3 := ((Keeps.refl [] wr).alloc _).trans hkW3 (fun t ht => .inr (by simp at ht; omega))
                refine ⟨hinv.out.1.keeps hk3 (by simp), HA3.out.keeps hk3 (by simp), ?_⟩
                show _ = _
                rw [hgb, hW3.out, HCA.out, List.append_nil]
                unfold dwTo; rfl)
              rw [← hgb]
              clear hW3 hkW3 hgb hinv HAH HA3 HI1 HI2 HCA HCL HCO HGW
              go_loopw [12, 13, 14] (fun xx yy tt wr => ∃ j : Nat, j ≤ 24 ∧ tt = .int .i64 (j + 1 : Nat) ∧ ∃ s, Hid (s = dwTo A j) ∧ xx = .int .i64 (s.x : Nat) ∧ yy = .int .i64 (s.y : Nat) ∧ Hid (Rr w wr S ∧ St wr ga 56 [] A ∧ St wr gb 56 [] s.b)) (fun _ _ i _ => 25 - (intOf i).toNat)
              case atStart => exact ⟨0, by omega, rfl, ⟨1, 0, A⟩, by show _ = _; unfold dwTo; rfl, rfl, rfl, by have := INV.out; unfold dwTo at this; exact this⟩
              case round =>
                clear INV
                obtain ⟨j, hj, rfl, s, hs, rfl, rfl, hinv⟩ := hrel
                have HOK := Lib.hid (show s.x < 5 ∧ s.y < 5 ∧ Wf 25 s.b by rw [hs.out]; exact HAW.out.dwTo j)
                by_cases hlt : j < 24
                · obtain ⟨t, ht⟩ : ∃ t, t = j + 1 := ⟨_, rfl⟩
                  rw [← ht]
                  have hi : (t : Int) ≤ 24 := by omega
                  have hx5 : (s.x : Int) < 5 := by have := HOK.out.1; omega
                  have hy5 : (s.y : Int) < 5 := by have := HOK.out.2.1; omega
                  obtain ⟨y2, hy2⟩ : ∃ y, y = (2 * s.x + 3 * s.y) % 5 := ⟨_, rfl⟩
                  obtain ⟨from', hfr⟩ : ∃ a, a = s.x * 5 + s.y := ⟨_, rfl⟩
                  obtain ⟨at', hat⟩ : ∃ a, a = s.y * 5 + y2 := ⟨_, rfl⟩
                  obtain ⟨t1, ht1⟩ : ∃ a, a = t + 1 := ⟨_, rfl⟩
                  obtain ⟨p, hp⟩ : ∃ a, a = t * t1 := ⟨_, rfl⟩
                  obtain ⟨n, hn⟩ : ∃ a, a = p / 2 := ⟨_, rfl⟩
                  have hp600 : p ≤ 600 := by rw [hp]; exact Nat.mul_le_mul (show t ≤ 24 by omega) (show t1 ≤ 25 by omega)
                  have ry : (2 * (s.x : Int) + 3 * (s.y : Int)) % 5 = (y2 : Int) := by omega
                  have hy25 : (y2 : Int) < 5 := by omega
                  have hn300 : n < 1000 := by omega
                  have HALL := Lib.hid (show dwTo A (j + 1) = ⟨s.y, y2, s.b.set at' (rotl (ln A from') n)⟩ ∧ from' < 25 ∧ at' < 25 ∧ t = j + 1 ∧ n < 1000 from ⟨by
                    rw [dwTo_succ, ← hs.out]
                    unfold dwStep
                    rw [hn, hp, ht1, ht, hat, hfr, hy2, Nat.mul_comm s.x 5, Nat.mul_comm s.y 5], by have := HOK.out; omega, by have := HOK.out; omega, ht, hn300⟩)
                  have Rrt := Lib.hid (show IntKind.i64.wrap ((t : Int) + 1) = (t1 : Int) by rw [IntKind.wrap_i64]; omega)
                  have Rrp := Lib.hid (show IntKind.i64.wrap ((t : Int) * (t1 : Int)) = (p : Int) by rw [← Int.natCast_mul, ← hp, IntKind.wrap_i64]; omega)
                  have Rrk := Lib.hid (show (p : Int).tdiv 2 = (n : Int) by rw [Int.tdiv_eq_ediv_of_nonneg (by omega)]; omega)
                  have RW := Lib.hid (show IntKind.i64.wrap (n : Int) = (n : Int) by rw [IntKind.wrap_i64]; omega)
                  have Rf := Lib.hid (show s.x * 5 + s.y = from' from hfr.symm)
                  have Ra := Lib.hid (show s.y * 5 + y2 = at' from hat.symm)
                  clear hy2 hat ht1 hp hn hp600 ht hlt hj hfr hn300
                  go_wp2_with fail
                  have rt := Rrt.out
                  have rp := Rrp.out
                  have rk := Rrk.out
                  have rw_ := RW.out
                  have rf := Rf.out
                  have ra := Ra.out
                  have qa : ∀ z : World, St z ga 56 [] A → z.cell? ⟨ga, from', none⟩ = some (.int .u64 (ln A from' : Int)) := fun z hz => hz.cell from' (by rw [HAW.out.1]; exact HALL.out.2.1)
                  refine seqz_start (by kernel_rfl) (fun z => St z ga 56 [] A) 15 16 [0, 1, 2, 3, 4, 5, 6, 7, 8, 9, 10, 11, 12, 13, 14, 15] rfl (hinv.out.2.1) (fun hS => ?_)
                  have HI := Lib.hid (show Rr w wr.drew S ∧ St wr.drew ga 56 [] A ∧ St wr.drew gb 56 [] s.b from ⟨hinv.out.1.keeps (Keeps.refl [] wr).drew (by simp), hinv.out.2⟩)
                  clear hinv
                  generalize wr.drew = V at HI hS ⊢
                  refine seqz_take (v := ?_) rfl (by kernel_rfl) (by kernel_rfl) (by kernel_rfl) (by kernel_rfl) (by kernel_rfl) (by decide) (Or.inl ⟨by rfl, fun w' hSw => ?_⟩) (by assumption) ?_
                  rotate_left
                  · go_simp
                    with_reducible rfl
                  simp only [Act.put, List.setIfInBounds_toArray, List.set_cons_zero, List.set_cons_succ]
                  refine seqz_take (v := ?_) rfl (by kernel_rfl) (by kernel_rfl) (by kernel_rfl) (by kernel_rfl) (by kernel_rfl) (by decide) (Or.inl ⟨by rfl, fun w' hSw => ?_⟩) (by assumption) ?_
                  rotate_left
                  · go_simp
                    with_reducible rfl
                  simp only [Act.put, List.setIfInBounds_toArray, List.set_cons_zero, List.set_cons_succ]
                  refine seqz_take (v := ?_) rfl (by kernel_rfl) (by kernel_rfl) (by kernel_rfl) (by kernel_rfl) (by kernel_rfl) (by decide) (Or.inl ⟨by rfl, fun w' hSw => ?_⟩) (by assumption) ?_
                  rotate_left
                  · go_simp
                    with_reducible rfl
                  simp only [Act.put, List.setIfInBounds_toArray, List.set_cons_zero, List.set_cons_succ]
                  refine seqz_take (v := ?_) rfl (by kernel_rfl) (by kernel_rfl) (by kernel_rfl) (by kernel_rfl) (by kernel_rfl) (by decide) (Or.inl ⟨by rfl, fun w' hSw => ?_⟩) (by assumption) ?_
                  rotate_left
                  · go_simp
                    with_reducible rfl
                  simp only [Act.put, List.setIfInBounds_toArray, List.set_cons_zero, List.set_cons_succ]
                  refine seqz_take (v := ?_) rfl (by kernel_rfl) (by kernel_rfl) (by kernel_rfl) (by kernel_rfl) (by kernel_rfl) (by decide) (Or.inl ⟨by rfl, fun w' hSw => ?_⟩) (by assumption) ?_
                  rotate_left
                  · go_simp
                    with_reducible rfl
                  simp only [Act.put, List.setIfInBounds_toArray, List.set_cons_zero, List.set_cons_succ]
                  refine seqz_take (v := ?_) rfl (by kernel_rfl) (by kernel_rfl) (by kernel_rfl) (by kernel_rfl) (by kernel_rfl) (by decide) (Or.inl ⟨by rfl, fun w' hSw => ?_⟩) (by assumption) ?_
                  rotate_left
                  · go_simp
                    with_reducible rfl
                  simp only [Act.put, List.setIfInBounds_toArray, List.set_cons_zero, List.set_cons_succ]
                  refine seqz_take (v := ?_) rfl (by kernel_rfl) (by kernel_rfl) (by kernel_rfl) (by kernel_rfl) (by kernel_rfl) (by decide) (Or.inl ⟨by rfl, fun w' hSw => ?_⟩) (by assumption) ?_
                  rotate_left
                  · go_simp
                    with_reducible rfl
                  simp only [Act.put, List.setIfInBounds_toArray, List.set_cons_zero, List.set_cons_succ]
                  refine seqz_take (v := ?_) rfl (by kernel_rfl) (by kernel_rfl) (by kernel_rfl) (by kernel_rfl) (by kernel_rfl) (by decide) (Or.inl ⟨by rfl, fun w' hSw => ?_⟩) (by assumption) ?_
                  rotate_left
                  · go_simp
                    with_reducible rfl
                  simp only [Act.put, List.setIfInBounds_toArray, List.set_cons_zero, List.set_cons_succ]
                  refine seqz_take (v := ?_) rfl (by kernel_rfl) (by kernel_rfl) (by kernel_rfl) (by kernel_rfl) (by kernel_rfl) (by decide) (Or.inl ⟨by rfl, fun w' hSw => ?_⟩) (by assumption) ?_
                  rotate_left
                  · go_simp
                    with_reducible rfl
                  simp only [Act.put, List.setIfInBounds_toArray, List.set_cons_zero, List.set_cons_succ]
                  refine seqz_take (v := ?_) rfl (by kernel_rfl) (by kernel_rfl) (by kernel_rfl) (by kernel_rfl) (by kernel_rfl) (by decide) (Or.inl ⟨by rfl, fun w' hSw => ?_⟩) (by assumption) ?_
                  rotate_left
                  · go_simp
                    with_reducible rfl
                  simp only [Act.put, List.setIfInBounds_toArray, List.set_cons_zero, List.set_cons_succ]
                  refine seqz_take (v := ?_) rfl (by kernel_rfl) (by kernel_rfl) (by kernel_rfl) (by kernel_rfl) (by kernel_rfl) (by decide) (Or.inl ⟨by rfl, fun w' hSw => ?_⟩) (by assumption) ?_
                  rotate_left
                  · go_simp
                    with_reducible rfl
                  simp only [Act.put, List.setIfInBounds_toArray, List.set_cons_zero, List.set_cons_succ]
                  refine seqz_take (v := ?_) rfl (by kernel_rfl) (by kernel_rfl) (by kernel_rfl) (by kernel_rfl) (by kernel_rfl) (by decide) (Or.inl ⟨by rfl, fun w' hSw => ?_⟩) (by assumption) ?_
                  rotate_left
                  · go_simp
                    with_reducible rfl
                  simp only [Act.put, List.setIfInBounds_toArray, List.set_cons_zero, List.set_cons_succ]
                  iterate 1 (refine seq_later ?_; simp only [List.cons_append, List.nil_append])
                  refine seqz_take (v := ?_) rfl (by kernel_rfl) (by kernel_rfl) (by kernel_rfl) (by kernel_rfl) (by kernel_rfl) (by decide) (Or.inl ⟨by rfl, fun w' hSw => ?_⟩) (by assumption) ?_
                  rotate_left
                  · go_simp
                    with_reducible rfl
                  simp only [Act.put, List.setIfInBounds_toArray, List.set_cons_zero, List.set_cons_succ]
                  iterate 2 (refine seq_later ?_; simp only [List.cons_append, List.nil_append])
                  refine seqz_do rfl (by kernel_rfl) (by rfl) (fun K hK => ?_)
                  go_simp
                  refine (turned_any (ln A from') n V (HAW.out.2 _) HALL.out.2.2.2.2).mono ?_
                  rintro e V2 ⟨rfl, hk2⟩
                  have HI2 := Lib.hid (show Rr w V2 S ∧ St V2 ga 56 [] A ∧ St V2 gb 56 [] s.b from ⟨HI.out.1.keeps hk2 (by simp), HI.out.2.1.keeps hk2 (by simp), HI.out.2.2.keeps hk2 (by simp)⟩)
                  clear HI hk2
                  refine hK.out (fun z => St z ga 56 [] A) _ _ (fun _ h => h) HI2.out.2.1 (fun hS => ?_)
                  refine seqz_take (v := ?_) rfl (by kernel_rfl) (by kernel_rfl) (by kernel_rfl) (by kernel_rfl) (by kernel_rfl) (by decide) (Or.inl ⟨by rfl, fun w' hSw => ?_⟩) (by assumption) ?_
                  rotate_left
                  · go_simp
                    with_reducible rfl
                  simp only [Act.put, List.setIfInBounds_toArray, List.set_cons_zero, List.set_cons_succ]
                  refine seqz_last rfl (by kernel_rfl) (by rfl) (by kernel_rfl) ?_
                  all_goals skip
                  clear rt rp rk rw_ qa hS
                  have HATL := Lib.hid (show at' < s.b.length by rw [HOK.out.2.2.1]; exact HALL.out.2.2.1)
                  have fa := HI2.out.2.2.frozen at'
                  have HSET := Lib.hid (HI2.out.2.2.set at' (rotl (ln A from') n) HATL.out)
                  have qa := HI2.out.2.2.cell at' HATL.out
                  go_wp2_with fail
                  obtain ⟨h1, _, _, h4, _⟩ := HALL.out
                  go_roundw
                  case rel =>
                    refine ⟨t, by omega, by go_num, ⟨s.y, y2, s.b.set at' (rotl (ln A from') n)⟩, by show _ = _; rw [h4, h1], rfl, rfl, HI2.out.1.keeps (Keeps.at_ _) (by simp; have := HGC.out; have := HGA.out; have := HGB.out; omega), HI2.out.2.1.keeps (Keeps.at_ _) (by simp; have := HGB.out; omega), HSET.out⟩
                  case measure => simp [intOf]; omega
                · have hi : ¬ (j : Int) + 1 ≤ 24 := by omega
                  have HJ24 := Lib.hid (show j = 24 by omega)
                  clear hlt
                  obtain ⟨B, hB⟩ : ∃ B, B = dmid S := ⟨_, rfl⟩
                  have HBB := Lib.hid hB
                  have HBW := Lib.hid (show Wf 25 B by rw [hB]; exact HM.out.1.dmid)
                  have INV := Lib.hid (show Rr w wr (dchiTo B S (5 * 0)) ∧ St wr gb 56 [] B from ⟨by
                    have h1 := hinv.out.1
                    unfold dchiTo
                    exact h1, by
                    have h1 := hinv.out.2.2
                    rw [hs.out, HJ24.out, HAA.out, HCC.out] at h1
                    rw [hB]
                    unfold dmid
                    exact h1⟩)
                  clear hinv hB
                  go_wp2_with fail
                  go_loopw [17] (fun i wr => ∃ x : Nat, x ≤ 5 ∧ i = .int .i64 x ∧ Hid (Rr w wr (dchiTo B S (5 * x)) ∧ St wr gb 56 [] B)) (fun i _ => 5 - (intOf i).toNat)
                  case atStart => exact ⟨0, by omega, rfl, INV.out⟩
                  case round =>
                    clear INV
                    obtain ⟨x3, hx3, rfl, hinv⟩ := hrel
                    by_cases hltx3 : x3 < 5
                    · have hix3 : (x3 : Int) < 5 := by omega
                      go_wp2_with fail
                      obtain ⟨wo, rfl⟩ : ∃ wo : World, wo = wr := ⟨_, rfl⟩
                      have INV := Lib.hid (show Rr w wo (dchiTo B S (5 * x3 + 0)) ∧ St wo gb 56 [] B from hinv.out)
                      clear hinv
                      go_loopw [18] (fun i wr => ∃ y : Nat, y ≤ 5 ∧ i = .int .i64 y ∧ Hid (Rr w wr (dchiTo B S (5 * x3 + y)) ∧ St wr gb 56 [] B)) (fun i _ => 5 - (intOf i).toNat)
                      case atStart => exact ⟨0, by omega, rfl, INV.out⟩
                      case round =>
                        clear INV
                        obtain ⟨y, hy, rfl, hinv⟩ := hrel
                        by_cases hlty : y < 5
                        · have hiy : (y : Int) < 5 := by omega
                          obtain ⟨j, hj⟩ : ∃ j, j = x3 * 5 + y := ⟨_, rfl⟩
                          obtain ⟨k2, hk2⟩ : ∃ k, k = (x3 + 2) % 5 := ⟨_, rfl⟩
                          obtain ⟨k1, hk1⟩ : ∃ k, k = (x3 + 1) % 5 := ⟨_, rfl⟩
                          obtain ⟨j2, hj2⟩ : ∃ j, j = k2 * 5 + y := ⟨_, rfl⟩
                          obtain ⟨j1, hj1⟩ : ∃ j, j = k1 * 5 + y := ⟨_, rfl⟩
                          have t2 : (IntKind.i64.wrap ((x3 : Int) + 2)).tmod 5 = (k2 : Int) := wrap_mod5 x3 2 k2 (by omega) hk2
                          have t1 : (IntKind.i64.wrap ((x3 : Int) + 1)).tmod 5 = (k1 : Int) := wrap_mod5 x3 1 k1 (by omega) hk1
                          have b2 : (k2 : Int) < 5 := by omega
                          have b1 : (k1 : Int) < 5 := by omega
                          have HJ := Lib.hid (show dchiTo B S (5 * x3 + (y + 1)) = dchiStep B (dchiTo B S (5 * x3 + y)) j ∧ 5 * ((j / 5 + 2) % 5) + j % 5 = j2 ∧ 5 * ((j / 5 + 1) % 5) + j % 5 = j1 ∧ j < 25 ∧ j2 < 25 ∧ j1 < 25 from ⟨by rw [hj, show x3 * 5 + y = 5 * x3 + y by omega]; exact dchiTo_succ B S (5 * x3 + y), by omega, by omega, by omega, by omega, by omega⟩)
                          have HTW := Lib.hid (Wf.dchiTo HBW.out HM.out.1 (5 * x3 + y))
                          obtain ⟨M, hM⟩ : ∃ M, M = dchiTo B S (5 * x3 + y) := ⟨_, rfl⟩
                          rw [← hM] at hinv HJ HTW
                          have q0 : ∀ z : World, St z gb 56 [] B → z.cell? ⟨gb, j, none⟩ = some (.int .u64 (ln B j : Int)) := fun z hz => hz.cell j (by rw [HBW.out.1]; exact HJ.out.2.2.2.1)
                          have q2 : ∀ z : World, St z gb 56 [] B → z.cell? ⟨gb, j2, none⟩ = some (.int .u64 (ln B j2 : Int)) := fun z hz => hz.cell j2 (by rw [HBW.out.1]; exact HJ.out.2.2.2.2.1)
                          have q1 : ∀ z : World, St z gb 56 [] B → z.cell? ⟨gb, j1, none⟩ = some (.int .u64 (ln B j1 : Int)) := fun z hz => hz.cell j1 (by rw [HBW.out.1]; exact HJ.out.2.2.2.2.2)
                          have hx1 : bits .andNot .u64 (ln B j2 : Int) (ln B j1 : Int) = ((andn (ln B j2) (ln B j1) : Nat) : Int) := u64_andNot_nat (ln B j2) (ln B j1) (HBW.out.2 _) (HBW.out.2 _)
                          have hx2' := u64_xor_nat (ln B j) (andn (ln B j2) (ln B j1)) (HBW.out.2 _) (andn_lt _ _ (HBW.out.2 _))
                          have ej : x3 * 5 + y = j := hj.symm
                          have ej2 : k2 * 5 + y = j2 := hj2.symm
                          have ej1 : k1 * 5 + y = j1 := hj1.symm
                          clear hM hj hj2 hj1 hk2 hk1
                          go_wp2_with fail
                          refine seqz_start (by kernel_rfl) (fun z => St z gb 56 [] B) 25 26 [0, 1, 2, 3, 4, 5, 6, 7, 8, 9, 10, 11, 12, 13, 14, 15, 16, 17, 18, 19, 20, 21, 22, 23, 24, 25] rfl (hinv.out.2) (fun hS => ?_)
                          refine seqz_take (v := ?_) rfl (by kernel_rfl) (by kernel_rfl) (by kernel_rfl) (by kernel_rfl) (by kernel_rfl) (by decide) (Or.inl ⟨by rfl, fun w' hSw => ?_⟩) (by assumption) ?_
                          rotate_left
                          · go_simp
                            with_reducible rfl
                          simp only [Act.put, List.setIfInBounds_toArray, List.set_cons_zero, List.set_cons_succ]
                          refine seqz_take (v := ?_) rfl (by kernel_rfl) (by kernel_rfl) (by kernel_rfl) (by kernel_rfl) (by kernel_rfl) (by decide) (Or.inl ⟨by rfl, fun w' hSw => ?_⟩) (by assumption) ?_
                          rotate_left
                          · go_simp
                            with_reducible rfl
                          simp only [Act.put, List.setIfInBounds_toArray, List.set_cons_zero, List.set_cons_succ]
                          refine seqz_take (v := ?_) rfl (by kernel_rfl) (by kernel_rfl) (by kernel_rfl) (by kernel_rfl) (by kernel_rfl) (by decide) (Or.inl ⟨by rfl, fun w' hSw => ?_⟩) (by assumption) ?_
                          rotate_left
                          · go_simp
                            with_reducible rfl
                          simp only [Act.put, List.setIfInBounds_toArray, List.set_cons_zero, List.set_cons_succ]
                          refine seqz_take (v := ?_) rfl (by kernel_rfl) (by kernel_rfl) (by kernel_rfl) (by kernel_rfl) (by kernel_rfl) (by decide) (Or.inl ⟨by rfl, fun w' hSw => ?_⟩) (by assumption) ?_
                          rotate_left
                          · go_simp
                            with_reducible rfl
                          simp only [Act.put, List.setIfInBounds_toArray, List.set_cons_zero, List.set_cons_succ]
                          refine seqz_take (v := ?_) rfl (by kernel_rfl) (by kernel_rfl) (by kernel_rfl) (by kernel_rfl) (by kernel_rfl) (by decide) (Or.inl ⟨by rfl, fun w' hSw => ?_⟩) (by assumption) ?_
                          rotate_left
                          · go_simp
                            with_reducible rfl
                          simp only [Act.put, List.setIfInBounds_toArray, List.set_cons_zero, List.set_cons_succ]
                          refine seqz_take (v := ?_) rfl (by kernel_rfl) (by kernel_rfl) (by kernel_rfl) (by kernel_rfl) (by kernel_rfl) (by decide) (Or.inl ⟨by rfl, fun w' hSw => ?_⟩) (by assumption) ?_
                          rotate_left
                          · go_simp
                            with_reducible rfl
                          simp only [Act.put, List.setIfInBounds_toArray, List.set_cons_zero, List.set_cons_succ]
                          refine seqz_take (v := ?_) rfl (by kernel_rfl) (by kernel_rfl) (by kernel_rfl) (by kernel_rfl) (by kernel_rfl) (by decide) (Or.inl ⟨by rfl, fun w' hSw => ?_⟩) (by assumption) ?_
                          rotate_left
                          · go_simp
                            with_reducible rfl
                          simp only [Act.put, List.setIfInBounds_toArray, List.set_cons_zero, List.set_cons_succ]
                          refine seqz_take (v := ?_) rfl (by kernel_rfl) (by kernel_rfl) (by kernel_rfl) (by kernel_rfl) (by kernel_rfl) (by decide) (Or.inl ⟨by rfl, fun w' hSw => ?_⟩) (by assumption) ?_
                          rotate_left
                          · go_simp
                            with_reducible rfl
                          simp only [Act.put, List.setIfInBounds_toArray, List.set_cons_zero, List.set_cons_succ]
                          refine seqz_take (v := ?_) rfl (by kernel_rfl) (by kernel_rfl) (by kernel_rfl) (by kernel_rfl) (by kernel_rfl) (by decide) (Or.inl ⟨by rfl, fun w' hSw => ?_⟩) (by assumption) ?_
                          rotate_left
                          · go_simp
                            with_reducible rfl
                          simp only [Act.put, List.setIfInBounds_toArray, List.set_cons_zero, List.set_cons_succ]
                          refine seqz_take (v := ?_) rfl (by kernel_rfl) (by kernel_rfl) (by kernel_rfl) (by kernel_rfl) (by kernel_rfl) (by decide) (Or.inl ⟨by rfl, fun w' hSw => ?_⟩) (by assumption) ?_
                          rotate_left
                          · go_simp
                            with_reducible rfl
                          simp only [Act.put, List.setIfInBounds_toArray, List.set_cons_zero, List.set_cons_succ]
                          refine seqz_take (v := ?_) rfl (by kernel_rfl) (by kernel_rfl) (by kernel_rfl) (by kernel_rfl) (by kernel_rfl) (by decide) (Or.inl ⟨by rfl, fun w' hSw => ?_⟩) (by assumption) ?_
                          rotate_left
                          · go_simp
                            with_reducible rfl
                          simp only [Act.put, List.setIfInBounds_toArray, List.set_cons_zero, List.set_cons_succ]
                          refine seqz_take (v := ?_) rfl (by kernel_rfl) (by kernel_rfl) (by kernel_rfl) (by kernel_rfl) (by kernel_rfl) (by decide) (Or.inl ⟨by rfl, fun w' hSw => ?_⟩) (by assumption) ?_
                          rotate_left
                          · go_simp
                            with_reducible rfl
                          simp only [Act.put, List.setIfInBounds_toArray, List.set_cons_zero, List.set_cons_succ]
                          refine seqz_take (v := ?_) rfl (by kernel_rfl) (by kernel_rfl) (by kernel_rfl) (by kernel_rfl) (by kernel_rfl) (by decide) (Or.inl ⟨by rfl, fun w' hSw => ?_⟩) (by assumption) ?_
                          rotate_left
                          · go_simp
                            with_reducible rfl
                          simp only [Act.put, List.setIfInBounds_toArray, List.set_cons_zero, List.set_cons_succ]
                          refine seqz_take (v := ?_) rfl (by kernel_rfl) (by kernel_rfl) (by kernel_rfl) (by kernel_rfl) (by kernel_rfl) (by decide) (Or.inl ⟨by rfl, fun w' hSw => ?_⟩) (by assumption) ?_
                          rotate_left
                          · go_simp
                            with_reducible rfl
                          simp only [Act.put, List.setIfInBounds_toArray, List.set_cons_zero, List.set_cons_succ]
                          refine seqz_take (v := ?_) rfl (by kernel_rfl) (by kernel_rfl) (by kernel_rfl) (by kernel_rfl) (by kernel_rfl) (by decide) (Or.inl ⟨by rfl, fun w' hSw => ?_⟩) (by assumption) ?_
                          rotate_left
                          · go_simp
                            with_reducible rfl
                          simp only [Act.put, List.setIfInBounds_toArray, List.set_cons_zero, List.set_cons_succ]
                          refine seqz_take (v := ?_) rfl (by kernel_rfl) (by kernel_rfl) (by kernel_rfl) (by kernel_rfl) (by kernel_rfl) (by decide) (Or.inl ⟨by rfl, fun w' hSw => ?_⟩) (by assumption) ?_
                          rotate_left
                          · go_simp
                            with_reducible rfl
                          simp only [Act.put, List.setIfInBounds_toArray, List.set_cons_zero, List.set_cons_succ]
                          refine seqz_take (v := ?_) rfl (by kernel_rfl) (by kernel_rfl) (by kernel_rfl) (by kernel_rfl) (by kernel_rfl) (by decide) (Or.inl ⟨by rfl, fun w' hSw => ?_⟩) (by assumption) ?_
                          rotate_left
                          · go_simp
                            with_reducible rfl
                          simp only [Act.put, List.setIfInBounds_toArray, List.set_cons_zero, List.set_cons_succ]
                          refine seqz_take (v := ?_) rfl (by kernel_rfl) (by kernel_rfl) (by kernel_rfl) (by kernel_rfl) (by kernel_rfl) (by decide) (Or.inl ⟨by rfl, fun w' hSw => ?_⟩) (by assumption) ?_
                          rotate_left
                          · go_simp
                            with_reducible rfl
                          simp only [Act.put, List.setIfInBounds_toArray, List.set_cons_zero, List.set_cons_succ]
                          refine seqz_take (v := ?_) rfl (by kernel_rfl) (by kernel_rfl) (by kernel_rfl) (by kernel_rfl) (by kernel_rfl) (by decide) (Or.inl ⟨by rfl, fun w' hSw => ?_⟩) (by assumption) ?_
                          rotate_left
                          · go_simp
                            with_reducible rfl
                          simp only [Act.put, List.setIfInBounds_toArray, List.set_cons_zero, List.set_cons_succ]
                          refine seqz_take (v := ?_) rfl (by kernel_rfl) (by kernel_rfl) (by kernel_rfl) (by kernel_rfl) (by kernel_rfl) (by decide) (Or.inl ⟨by rfl, fun w' hSw => ?_⟩) (by assumption) ?_
                          rotate_left
                          · go_simp
                            with_reducible rfl
                          simp only [Act.put, List.setIfInBounds_toArray, List.set_cons_zero, List.set_cons_succ]
                          refine seqz_take (v := ?_) rfl (by kernel_rfl) (by kernel_rfl) (by kernel_rfl) (by kernel_rfl) (by kernel_rfl) (by decide) (Or.inl ⟨by rfl, fun w' hSw => ?_⟩) (by assumption) ?_
                          rotate_left
                          · go_simp
                            with_reducible rfl
                          simp only [Act.put, List.setIfInBounds_toArray, List.set_cons_zero, List.set_cons_succ]
                          refine seqz_take (v := ?_) rfl (by kernel_rfl) (by kernel_rfl) (by kernel_rfl) (by kernel_rfl) (by kernel_rfl) (by decide) (Or.inl ⟨by rfl, fun w' hSw => ?_⟩) (by assumption) ?_
                          rotate_left
                          · go_simp
                            with_reducible rfl
                          simp only [Act.put, List.setIfInBounds_toArray, List.set_cons_zero, List.set_cons_succ]
                          refine seqz_take (v := ?_) rfl (by kernel_rfl) (by kernel_rfl) (by kernel_rfl) (by kernel_rfl) (by kernel_rfl) (by decide) (Or.inl ⟨by rfl, fun w' hSw => ?_⟩) (by assumption) ?_
                          rotate_left
                          · go_simp
                            with_reducible rfl
                          simp only [Act.put, List.setIfInBounds_toArray, List.set_cons_zero, List.set_cons_succ]
                          refine seqz_take (v := ?_) rfl (by kernel_rfl) (by kernel_rfl) (by kernel_rfl) (by kernel_rfl) (by kernel_rfl) (by decide) (Or.inl ⟨by rfl, fun w' hSw => ?_⟩) (by assumption) ?_
                          rotate_left
                          · go_simp
                            with_reducible rfl
                          simp only [Act.put, List.setIfInBounds_toArray, List.set_cons_zero, List.set_cons_succ]
                          refine seqz_take (v := ?_) rfl (by kernel_rfl) (by kernel_rfl) (by kernel_rfl) (by kernel_rfl) (by kernel_rfl) (by decide) (Or.inl ⟨by rfl, fun w' hSw => ?_⟩) (by assumption) ?_
                          rotate_left
                          · go_simp
                            with_reducible rfl
                          simp only [Act.put, List.setIfInBounds_toArray, List.set_cons_zero, List.set_cons_succ]
                          refine seqz_last rfl (by kernel_rfl) (by rfl) (by kernel_rfl) ?_
                          all_goals skip
                          have HI := Lib.hid (show Rr w wr.drew M ∧ St wr.drew gb 56 [] B from ⟨hinv.out.1.keeps (Keeps.refl [] wr).drew (by simp), hinv.out.2⟩)
                          clear hinv q0 q1 q2
                          generalize wr.drew = V at HI ⊢
                          have qa := HI.out.1.1.cell j (by rw [HTW.out.1]; exact HJ.out.2.2.2.1)
                          have fa := HI.out.1.1.frozen j
                          have HSET := Lib.hid (HI.out.1.1.set j (ln B j ^^^ andn (ln B j2) (ln B j1)) (by rw [HTW.out.1]; exact HJ.out.2.2.2.1))
                          go_wp2_with fail
                          go_roundw
                          case rel =>
                            refine ⟨y + 1, by omega, by go_num, ?_, HI.out.2.keeps (Keeps.at_ _) (by simp; have := HGC.out; have := HGA.out; have := HGB.out; omega)⟩
                            rw [HJ.out.1]
                            unfold dchiStep
                            rw [HJ.out.2.1, HJ.out.2.2.1]
                            exact HI.out.1.put (Keeps.at_ _) HSET.out
                          case measure => simp [intOf]; omega
                        · have hiy : ¬ (y : Int) < 5 := by omega
                          have HY := Lib.hid (show 5 * x3 + y = 5 * (x3 + 1) by omega)
                          clear hlty
                          go_wp2_with fail
                          go_roundw
                          case rel => exact ⟨x3 + 1, by omega, by go_num, by rw [← HY.out]; exact hinv.out⟩
                          case measure => simp [intOf]; omega
                    · have hix3 : ¬ (x3 : Int) < 5 := by omega
                      have HX3 := Lib.hid (show 5 * x3 = 25 by omega)
                      clear hltx3
                      have INV := Lib.hid (show Rr w wr (diTo (dchiTo B S 25, ρ) 0).1 from by
                        have h1 := hinv.out.1
                        rw [HX3.out] at h1
                        unfold diTo
                        exact h1)
                      clear hinv
                      have HD0 := Lib.hid (show (diTo (dchiTo B S 25, ρ) 0).2 = ρ by unfold diTo; rfl)
                      obtain ⟨X, hX⟩ : ∃ X, X = dchiTo B S 25 := ⟨_, rfl⟩
                      have HXX := Lib.hid hX
                      have HXW := Lib.hid (show Wf 25 X by rw [hX]; exact Wf.dchiTo HBW.out HM.out.1 25)
                      rw [← hX] at INV HD0
                      clear hX
                      go_wp2_with fail
                      go_loopw [3, 19] (fun ro i wr => ∃ j : Nat, j ≤ 7 ∧ i = .int .i64 j ∧ ∃ s : List Nat × Nat, Hid (s = diTo (X, ρ) j) ∧ ro = .int .i64 (s.2 : Nat) ∧ Hid (Rr w wr s.1)) (fun _ i _ => 7 - (intOf i).toNat)
                      case atStart => exact ⟨0, by omega, rfl, diTo (X, ρ) 0, rfl, by rw [HD0.out], INV.out⟩
                      case round =>
                        clear INV
                        obtain ⟨j, hj, rfl, s, hs, rfl, hinv⟩ := hrel
                        have HOK := Lib.hid (show Wf 25 s.1 ∧ s.2 < 256 by rw [hs.out]; exact diTo_ok ⟨HXW.out, HM.out.2⟩ j)
                        by_cases hltj : j < 7
                        · have hij : (j : Int) < 7 := by omega
                          obtain ⟨r2, hr2⟩ : ∃ r, r = s.2 % 2 := ⟨_, rfl⟩
                          have d1 : (s.2 : Int).tmod 2 = (r2 : Int) := by rw [Int.tmod_eq_emod_of_nonneg (by omega)]; omega
                          have hrow : s.2 < 256 := HOK.out.2
                          by_cases hodd : r2 = 1
                          · have e1 : ((r2 : Int) == 1) = true := by simp [hodd]
                            have HY := Lib.hid (show diTo (X, ρ) (j + 1) = (s.1.set 0 (ln s.1 0 ^^^ rotl 1 (2 ^ j - 1)), rowNext s.2) by rw [diTo_succ, ← hs.out]; unfold diStep; rw [if_pos (by omega)])
                            clear hodd hr2
                            go_wp2_with fail
                            obtain ⟨wo, rfl⟩ : ∃ wo : World, wo = wr := ⟨_, rfl⟩
                            have INV := hinv
                            clear hinv
                            go_loopw [20, 21] (fun pl i wr => ∃ n : Nat, n ≤ j ∧ i = .int .i64 n ∧ ∃ p : Nat, Hid (p = 2 ^ n) ∧ pl = .int .i64 p ∧ Hid (Rr w wr s.1)) (fun _ i _ => j - (intOf i).toNat)
                            case atStart => exact ⟨0, Nat.zero_le _, rfl, 1, rfl, rfl, INV.out⟩
                            case round =>
                              clear INV
                              obtain ⟨n, hn, rfl, p, hp, rfl, hinv⟩ := hrel
                              have hp64 : p ≤ 64 := by rw [hp.out]; exact Nat.le_trans (Nat.pow_le_pow_right (by decide) (show n ≤ 6 by omega)) (by decide)
                              by_cases hltn : n < j
                              · have hin : (n : Int) < (j : Int) := by omega
                                go_wp2_with fail
                                go_roundw
                                case rel => exact ⟨n + 1, by omega, by go_num, 2 * p, by show _ = _; rw [hp.out, Nat.pow_succ, Nat.mul_comm], by simp, hinv.out⟩
                                case measure => simp [intOf]; omega
                              · have hin : ¬ (n : Int) < (j : Int) := by omega
                                obtain ⟨q, hq⟩ : ∃ q, q = p - 1 := ⟨_, rfl⟩
                                have hp0 : 0 < p := by rw [hp.out]; exact Nat.pos_of_ne_zero (by simp)
                                have d2 : IntKind.i64.wrap ((p : Int) - 1) = (q : Int) := by rw [IntKind.wrap_i64]; omega
                                have HQ := Lib.hid (show q = 2 ^ j - 1 ∧ q < 1000 from ⟨by rw [hq, hp.out, show n = j by omega], by omega⟩)
                                have hx1 := u64_xor_nat (ln s.1 0) (rotl 1 q) (HOK.out.1.2 _) (rotl_lt 1 q (by decide))
                                have q1 : ∀ z : World, St z w.heap.size 56 [] s.1 → z.cell? ⟨w.heap.size, 0, none⟩ = some (.int .u64 (ln s.1 0 : Int)) := fun z hz => hz.cell 0 (by rw [HOK.out.1.1]; decide)
                                have HQR := Lib.hid d2
                                clear hq hp0 hltn hp64 d2
                                go_wp2_with fail
                                have d2 := HQR.out
                                refine seqz_start (by kernel_rfl) (fun z => St z w.heap.size 56 [] s.1) 9 10 [0, 1, 2, 3, 4, 5, 6, 7, 8, 9] rfl (hinv.out.1) (fun hS => ?_)
                                have HI := Lib.hid (show Rr w wr.drew s.1 from hinv.out.keeps (Keeps.refl [] wr).drew (by simp))
                                clear hinv
                                generalize wr.drew = V at HI hS ⊢
                                refine seqz_take (v := ?_) rfl (by kernel_rfl) (by kernel_rfl) (by kernel_rfl) (by kernel_rfl) (by kernel_rfl) (by decide) (Or.inl ⟨by rfl, fun w' hSw => ?_⟩) (by assumption) ?_
                                rotate_left
                                · go_simp
                                  with_reducible rfl
                                simp only [Act.put, List.setIfInBounds_toArray, List.set_cons_zero, List.set_cons_succ]
                                refine seqz_take (v := ?_) rfl (by kernel_rfl) (by kernel_rfl) (by kernel_rfl) (by kernel_rfl) (by kernel_rfl) (by decide) (Or.inl ⟨by rfl, fun w' hSw => ?_⟩) (by assumption) ?_
                                rotate_left
                                · go_simp
                                  with_reducible rfl
                                simp only [Act.put, List.setIfInBounds_toArray, List.set_cons_zero, List.set_cons_succ]
                                refine seqz_take (v := ?_) rfl (by kernel_rfl) (by kernel_rfl) (by kernel_rfl) (by kernel_rfl) (by kernel_rfl) (by decide) (Or.inl ⟨by rfl, fun w' hSw => ?_⟩) (by assumption) ?_
                                rotate_left
                                · go_simp
                                  with_reducible rfl
                                simp only [Act.put, List.setIfInBounds_toArray, List.set_cons_zero, List.set_cons_succ]
                                refine seqz_take (v := ?_) rfl (by kernel_rfl) (by kernel_rfl) (by kernel_rfl) (by kernel_rfl) (by kernel_rfl) (by decide) (Or.inl ⟨by rfl, fun w' hSw => ?_⟩) (by assumption) ?_
                                rotate_left
                                · go_simp
                                  with_reducible rfl
                                simp only [Act.put, List.setIfInBounds_toArray, List.set_cons_zero, List.set_cons_succ]
                                refine seqz_take (v := ?_) rfl (by kernel_rfl) (by kernel_rfl) (by kernel_rfl) (by kernel_rfl) (by kernel_rfl) (by decide) (Or.inl ⟨by rfl, fun w' hSw => ?_⟩) (by assumption) ?_
                                rotate_left
                                · go_simp
                                  with_reducible rfl
                                simp only [Act.put, List.setIfInBounds_toArray, List.set_cons_zero, List.set_cons_succ]
                                iterate 2 (refine seq_later ?_; simp only [List.cons_append, List.nil_append])
                                refine seqz_take (v := ?_) rfl (by kernel_rfl) (by kernel_rfl) (by kernel_rfl) (by kernel_rfl) (by kernel_rfl) (by decide) (Or.inl ⟨by rfl, fun w' hSw => ?_⟩) (by assumption) ?_
                                rotate_left
                                · go_simp
                                  with_reducible rfl
                                simp only [Act.put, List.setIfInBounds_toArray, List.set_cons_zero, List.set_cons_succ]
                                iterate 2 (refine seq_later ?_; simp only [List.cons_append, List.nil_append])
                                refine seqz_do rfl (by kernel_rfl) (by rfl) (fun K hK => ?_)
                                go_simp
                                refine (turned_any 1 q V (by decide) HQ.out.2).mono ?_
                                rintro e V2 ⟨rfl, hk2⟩
                                have HI2 := Lib.hid (show Rr w V2 s.1 from HI.out.keeps hk2 (by simp))
                                clear HI hk2
                                refine hK.out (fun z => St z w.heap.size 56 [] s.1) _ _ (fun _ h => h) HI2.out.1 (fun hS => ?_)
                                refine seqz_take (v := ?_) rfl (by kernel_rfl) (by kernel_rfl) (by kernel_rfl) (by kernel_rfl) (by kernel_rfl) (by decide) (Or.inl ⟨by rfl, fun w' hSw => ?_⟩) (by assumption) ?_
                                rotate_left
                                · go_simp
                                  with_reducible rfl
                                simp only [Act.put, List.setIfInBounds_toArray, List.set_cons_zero, List.set_cons_succ]
                                refine seqz_take (v := ?_) rfl (by kernel_rfl) (by kernel_rfl) (by kernel_rfl) (by kernel_rfl) (by kernel_rfl) (by decide) (Or.inl ⟨by rfl, fun w' hSw => ?_⟩) (by assumption) ?_
                                rotate_left
                                · go_simp
                                  with_reducible rfl
                                simp only [Act.put, List.setIfInBounds_toArray, List.set_cons_zero, List.set_cons_succ]
                                refine seqz_last rfl (by kernel_rfl) (by rfl) (by kernel_rfl) ?_
                                all_goals skip
                                clear q1 hS d2
                                have qa := HI2.out.1.cell 0 (by rw [HOK.out.1.1]; decide)
                                have fa := HI2.out.1.frozen 0
                                have HV := Lib.hid (show Rr w (V2.setCell ⟨w.heap.size, 0, none⟩ (.int .u64 ((ln s.1 0 ^^^ rotl 1 q : Nat) : Int))) (s.1.set 0 (ln s.1 0 ^^^ rotl 1 (2 ^ j - 1))) by
                                  have h5 := HI2.out.1.set 0 (ln s.1 0 ^^^ rotl 1 q) (by rw [HOK.out.1.1]; decide)
                                  rw [← HQ.out.1]
                                  exact HI2.out.put (Keeps.at_ _) h5)
                                have d5 : IntKind.i64.wrap (2 * (s.2 : Int)) = 2 * (s.2 : Int) := by have := HOK.out.2; rw [IntKind.wrap_i64]; omega
                                by_cases hbig : 255 < 2 * s.2
                                · have e5 : (255 : Int) < 2 * (s.2 : Int) := by omega
                                  obtain ⟨m, hm⟩ : ∃ m, m = 2 * s.2 - 256 := ⟨_, rfl⟩
                                  have d6 : IntKind.i64.wrap (2 * (s.2 : Int) - 256) = (m : Int) := by have := HOK.out.2; rw [IntKind.wrap_i64]; omega
                                  have d6' : 2 * (s.2 : Int) - 256 = (m : Int) := by omega
                                  have d7 := i64_xor113 m (by have := HOK.out.2; omega)
                                  have HR := Lib.hid (show rowNext s.2 = m ^^^ 113 by unfold rowNext; rw [if_pos hbig, ← hm])
                                  clear hm hbig
                                  go_wp2_with fail
                                  go_roundw
                                  case rel => exact ⟨j + 1, by omega, by go_num, (s.1.set 0 (ln s.1 0 ^^^ rotl 1 (2 ^ j - 1)), rowNext s.2), HY.out.symm, by rw [HR.out], HV.out⟩
                                  case measure => simp [intOf]; omega
                                · have e5 : ¬ (255 : Int) < 2 * (s.2 : Int) := by omega
                                  have HR := Lib.hid (show rowNext s.2 = 2 * s.2 by unfold rowNext; rw [if_neg hbig])
                                  clear hbig
                                  go_wp2_with fail
                                  go_roundw
                                  case rel => exact ⟨j + 1, by omega, by go_num, (s.1.set 0 (ln s.1 0 ^^^ rotl 1 (2 ^ j - 1)), rowNext s.2), HY.out.symm, by rw [HR.out]; simp, HV.out⟩
                                  case measure => simp [intOf]; omega
                          · have e1 : ((r2 : Int) == 1) = false := by simp; omega
                            have HY := Lib.hid (show diTo (X, ρ) (j + 1) = (s.1, rowNext s.2) by rw [diTo_succ, ← hs.out]; unfold diStep; rw [if_neg (by omega)])
                            have HV := hinv
                            clear hodd hr2 hinv
                            have d5 : IntKind.i64.wrap (2 * (s.2 : Int)) = 2 * (s.2 : Int) := by have := HOK.out.2; rw [IntKind.wrap_i64]; omega
                            by_cases hbig : 255 < 2 * s.2
                            · have e5 : (255 : Int) < 2 * (s.2 : Int) := by omega
                              obtain ⟨m, hm⟩ : ∃ m, m = 2 * s.2 - 256 := ⟨_, rfl⟩
                              have d6 : IntKind.i64.wrap (2 * (s.2 : Int) - 256) = (m : Int) := by have := HOK.out.2; rw [IntKind.wrap_i64]; omega
                              have d6' : 2 * (s.2 : Int) - 256 = (m : Int) := by omega
                              have d7 := i64_xor113 m (by have := HOK.out.2; omega)
                              have HR := Lib.hid (show rowNext s.2 = m ^^^ 113 by unfold rowNext; rw [if_pos hbig, ← hm])
                              clear hm hbig
                              go_wp2_with fail
                              go_roundw
                              case rel => exact ⟨j + 1, by omega, by go_num, (s.1, rowNext s.2), HY.out.symm, by rw [HR.out], HV.out⟩
                              case measure => simp [intOf]; omega
                            · have e5 : ¬ (255 : Int) < 2 * (s.2 : Int) := by omega
                              have HR := Lib.hid (show rowNext s.2 = 2 * s.2 by unfold rowNext; rw [if_neg hbig])
                              clear hbig
                              go_wp2_with fail
                              go_roundw
                              case rel => exact ⟨j + 1, by omega, by go_num, (s.1, rowNext s.2), HY.out.symm, by rw [HR.out]; simp, HV.out⟩
                              case measure => simp [intOf]; omega
                        · have hij : ¬ (j : Int) < 7 := by omega
                          have HJ7 := Lib.hid (show j = 7 by omega)
                          clear hltj
                          go_wp2_with fail
                          go_roundw
                          case rel =>
                            have e1 : drTo D (k + 1) = s := by
                              rw [HS.out]
                              unfold dround
                              rw [hs.out, HJ7.out, HXX.out, HBB.out]
                            exact ⟨k + 1, by omega, by go_num, by rw [e1], by rw [e1]; exact hinv.out⟩
                          case measure => simp [intOf]; omega
    · have hi : ¬ (k : Int) < 24 := by omega
      have HK24 := Lib.hid (show k = 24 by omega)
      clear hlt
      obtain ⟨R, hR⟩ : ∃ R, R = (drTo D 24).1 := ⟨_, rfl⟩
      have HRW := Lib.hid (show Wf 25 R by rw [hR]; exact (drTo_ok HD.out 24).1)
      have hinv2 := hinv.out
      rw [HK24.out, ← hR] at hinv2
      have HRR := Lib.hid hR
      clear hR hinv
      have HV := Lib.hid hinv2
      clear hinv2
      obtain ⟨cR, hcR⟩ : ∃ c, c = encN R := ⟨_, rfl⟩
      have HA := Lib.hid (show wr.heap[w.heap.size]? = some (.cells cR.toArray 56 (0, 0)) by
        have h4 : wr.heap[w.heap.size]? = some (.cells (encN R ++ []).toArray 56 (0, 0)) := HV.out.1
        rw [h4, List.append_nil, hcR])
      have HB := Lib.hid (show wr.heap[w.heap.size + 1]? = some (.cells (encN (List.replicate 25 0)).toArray 56 (0, 0)) by
        have h4 : wr.heap[w.heap.size + 1]? = some (.cells (encN (List.replicate 25 0) ++ []).toArray 56 (0, 0)) := HV.out.2.1
        rw [h4, List.append_nil])
      have HI1 := Lib.hid (show (Tryd.prog.info? 56).map (·.size) = some cR.length by rw [hcR, length_encN, HRW.out.1]; exact info_ln)
      have HI2 := Lib.hid (show (Tryd.prog.info? 56).map (·.size) = some cR.toArray.size by rw [List.size_toArray]; exact HI1.out)
      have HCL := Lib.hid (show (encN (List.replicate 25 0)).length = cR.length by rw [hcR, length_encN, length_encN, HRW.out.1, List.length_replicate])
      have HCO := Lib.hid (show ∀ v ∈ cR, v.oneCell' = true by rw [hcR]; exact encN_one _)
      have HCR := Lib.hid hcR
      clear hcR
      go_wp2_with (first
        | (refine wpList_load_row rfl 56 (.tmp 1) rfl w.heap.size rfl 56 cR.toArray (0, 0) _ HA.out Tryd.underlying56 rfl HI2.out ?_)
        | (refine wpList_store_rowK rfl 56 (.tmp 2) (.tmp 167) rfl (w.heap.size + 1) cR (encN (List.replicate 25 0)) 56 rfl rfl HB.out HCL.out HI1.out HCO.out ?_
           intro w4 h4 hk4))
      have h4' : w4.heap[w.heap.size + 1]? = _ := h4.out
      refine bodyPost_ret (v := .agg cR.toArray) (results_cell_row Tryd.results27 _ _ (w.heap.size + 1) 56 _ (0, 0) _ rfl h4' Tryd.underlying56 rfl HI2.out) rfl ?_
      exact ⟨by rw [HCR.out, HRR.out], HV.out.2.2.trans hk4 (fun t ht => .inr (by simp at ht; omega))⟩
end Go.Proofs.YtomleanoofoejaaDoor
