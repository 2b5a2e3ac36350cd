/- Parts that are alike, part by part: a contract. What bytes tell, where it is known whether they tell anything: contracts. -/
import Derived.Test.YtljinghhalcnnaaDoorQDeltaReads7
import Derived.Deep.DeepCutAuto
import Derived.Test.YtljinghhalcnnaaDoorQDeltaReads22
namespace Go.Proofs.YtljinghhalcnnaaDoor
open Go.RowKit

set_option maxRecDepth 100000 in
set_option maxHeartbeats 16000000 in
theorem psame_any (A B : Option Addr) (c d : Nat) (ts us : List Pt) (w : World) (hr : Rd w A ts.length 4 (encPt ts)) (hbs : ∀ t ∈ ts, RdB w t.A t.p.b) (hu : Rd w B us.length 4 (encPt us)) (hus : ∀ t ∈ us, RdB w t.A t.p.b) (hl : ts.length ≤ 1000) (he : ts.map Pt.p = us.map Pt.p) :
    Calls Tryd.prog 15 #[.slice A ts.length c, .slice B us.length d] w fun r w' => r = .returned (.bool true) ∧ Keeps [] w w' := by
  have HR := Lib.hid (And.intro hr hbs)
  have HU := Lib.hid (And.intro hu hus)
  have HE := Lib.hid he
  obtain ⟨n, hn⟩ : ∃ n, n = ts.length := ⟨_, rfl⟩
  have hm : us.length = n := by have h1 := congrArg List.length he; rw [List.length_map, List.length_map] at h1; omega
  have HN := Lib.hid (show n = ts.length ∧ us.length = n from ⟨hn, hm⟩)
  rw [hm, ← hn]
  rw [← hn] at hl
  clear hr hbs hu hus he hn hm
  go_enter Tryd.func15, Tryd.ntmps15
  go_wp2_with fail
  go_loopw [5] (fun s5 wr => ∃ i : Nat, s5 = .int .i64 i ∧ i ≤ n ∧ Hid (Keeps [] w wr)) (fun s5 _ => n - (intOf s5).toNat)
  case atStart => exact ⟨0, rfl, Nat.zero_le _, Keeps.refl [] w⟩
  case round =>
    obtain ⟨i, rfl, hi, D⟩ := hrel
    by_cases hin : i < n
    · have hini : (i : Int) < (n : Int) := by omega
      have HIL := Lib.hid (show i < ts.length ∧ i < us.length ∧ i < n from by have := HN.out; omega)
      obtain ⟨ga, oa, rfl, a0, a1, a2, a3⟩ := pt_cells (HR.out.1.keeps0 D.out) HIL.out.1
      obtain ⟨gb, ob, rfl, b0, b1, b2, b3⟩ := pt_cells (HU.out.1.keeps0 D.out) HIL.out.2.1
      obtain ⟨t, ht⟩ : ∃ t, t = ts[i]'(HIL.out.1) := ⟨_, rfl⟩
      obtain ⟨u, hu⟩ : ∃ u, u = us[i]'(HIL.out.2.1) := ⟨_, rfl⟩
      have hpe : u.p = t.p := by
        have h1 : (us.map Pt.p)[i]'(by rw [List.length_map]; exact HIL.out.2.1) = (ts.map Pt.p)[i]'(by rw [List.length_map]; exact HIL.out.1) := by simp only [HE.out]
        rw [List.getElem_map, List.getElem_map] at h1
        rw [hu, ht]
        exact h1
      rw [← ht] at a0 a1 a2 a3
      rw [← hu, hpe] at b0 b1 b2 b3
      have HRB := Lib.hid (show RdB wr t.A t.p.b ∧ RdB wr u.A t.p.b from ⟨(HR.out.2 t (by rw [ht]; exact List.getElem_mem _)).keeps0 D.out, by rw [← hpe]; exact (HU.out.2 u (by rw [hu]; exact List.getElem_mem _)).keeps0 D.out⟩)
      obtain ⟨m, hm⟩ : ∃ m, m = t.p.b.length := ⟨_, rfl⟩
      have HM := Lib.hid hm.symm
      rw [← hm] at a3 b3
      have qa0 : ∀ z, Keeps [] wr z → z.cell? ⟨ga, oa + i * 4, none⟩ = some (.bool t.p.cp) := fun z hz => hz.cell a0 (by simp)
      have qa1 : ∀ z, Keeps [] wr z → z.cell? ⟨ga, oa + i * 4 + 1, none⟩ = some (.int .i64 t.p.fr) := fun z hz => hz.cell a1 (by simp)
      have qa2 : ∀ z, Keeps [] wr z → z.cell? ⟨ga, oa + i * 4 + 2, none⟩ = some (.int .i64 t.p.ln) := fun z hz => hz.cell a2 (by simp)
      have qa3 : ∀ z, Keeps [] wr z → z.cell? ⟨ga, oa + i * 4 + 3, none⟩ = some (.slice t.A m t.c) := fun z hz => hz.cell a3 (by simp)
      have qb0 : ∀ z, Keeps [] wr z → z.cell? ⟨gb, ob + i * 4, none⟩ = some (.bool t.p.cp) := fun z hz => hz.cell b0 (by simp)
      have qb1 : ∀ z, Keeps [] wr z → z.cell? ⟨gb, ob + i * 4 + 1, none⟩ = some (.int .i64 t.p.fr) := fun z hz => hz.cell b1 (by simp)
      have qb2 : ∀ z, Keeps [] wr z → z.cell? ⟨gb, ob + i * 4 + 2, none⟩ = some (.int .i64 t.p.ln) := fun z hz => hz.cell b2 (by simp)
      have qb3 : ∀ z, Keeps [] wr z → z.cell? ⟨gb, ob + i * 4 + 3, none⟩ = some (.slice u.A m u.c) := fun z hz => hz.cell b3 (by simp)
      have FA : ∀ z, Keeps [] wr z → (convert 25 9 (.slice t.A m t.c)).run Tryd.prog z = .ok (.string (strB t.p.b)) z := fun z hz => by
        have h1 := conv_keeps (P := Tryd.prog) (dst := 9) Tryd.underlying25 Tryd.underlying5 Tryd.underlying9 HRB.out.1 t.c z hz
        rwa [HM.out] at h1
      have FB : ∀ z, Keeps [] wr z → (convert 25 9 (.slice u.A m u.c)).run Tryd.prog z = .ok (.string (strB t.p.b)) z := fun z hz => by
        have h1 := conv_keeps (P := Tryd.prog) (dst := 9) Tryd.underlying25 Tryd.underlying5 Tryd.underlying9 HRB.out.2 u.c z hz
        rwa [HM.out] at h1
      clear a0 a1 a2 a3 b0 b1 b2 b3 ht hu hpe hm hin hi
      go_upto_region 6 with fail
      refine seq_start (by kernel_rfl) (fun z => Keeps [] wr z) 52 [0, 1, 2, 3, 4, 5, 6, 7, 8, 9, 10, 11, 12, 13, 14, 15, 16, 17, 18, 19, 20, 21, 22, 23, 24, 25, 26, 27, 28, 29, 30, 31, 32, 33, 34, 35, 36, 37, 38, 39, 40, 41, 42, 43, 44, 45, 46, 47, 48, 49, 50, 51] rfl ((Keeps.refl [] wr).drew) (fun hS => ?_)
      refine seq_take (v := ?_) rfl (by kernel_rfl) (by kernel_rfl) (by kernel_rfl) (Or.inl ⟨by rfl, fun w' hSw => ?_⟩) (by assumption) ?_
      rotate_left
      · go_simp
        with_reducible rfl
      simp only [Act.put, List.setIfInBounds_toArray, List.set_cons_zero, List.set_cons_succ]
      refine seq_take (v := ?_) rfl (by kernel_rfl) (by kernel_rfl) (by kernel_rfl) (Or.inl ⟨by rfl, fun w' hSw => ?_⟩) (by assumption) ?_
      rotate_left
      · go_simp
        with_reducible rfl
      simp only [Act.put, List.setIfInBounds_toArray, List.set_cons_zero, List.set_cons_succ]
      refine seq_take (v := ?_) rfl (by kernel_rfl) (by kernel_rfl) (by kernel_rfl) (Or.inl ⟨by rfl, fun w' hSw => ?_⟩) (by assumption) ?_
      rotate_left
      · go_simp
        with_reducible rfl
      simp only [Act.put, List.setIfInBounds_toArray, List.set_cons_zero, List.set_cons_succ]
      refine seq_take (v := ?_) rfl (by kernel_rfl) (by kernel_rfl) (by kernel_rfl) (Or.inl ⟨by rfl, fun w' hSw => ?_⟩) (by assumption) ?_
      rotate_left
      · go_simp
        with_reducible rfl
      simp only [Act.put, List.setIfInBounds_toArray, List.set_cons_zero, List.set_cons_succ]
      refine seq_take (v := ?_) rfl (by kernel_rfl) (by kernel_rfl) (by kernel_rfl) (Or.inl ⟨by rfl, fun w' hSw => ?_⟩) (by assumption) ?_
      rotate_left
      · go_simp
        with_reducible rfl
      simp only [Act.put, List.setIfInBounds_toArray, List.set_cons_zero, List.set_cons_succ]
      refine seq_take (v := ?_) rfl (by kernel_rfl) (by kernel_rfl) (by kernel_rfl) (Or.inl ⟨by rfl, fun w' hSw => ?_⟩) (by assumption) ?_
      rotate_left
      · go_simp
        with_reducible rfl
      simp only [Act.put, List.setIfInBounds_toArray, List.set_cons_zero, List.set_cons_succ]
      refine seq_take (v := ?_) rfl (by kernel_rfl) (by kernel_rfl) (by kernel_rfl) (Or.inl ⟨by rfl, fun w' hSw => ?_⟩) (by assumption) ?_
      rotate_left
      · go_simp
        with_reducible rfl
      simp only [Act.put, List.setIfInBounds_toArray, List.set_cons_zero, List.set_cons_succ]
      refine seq_take (v := ?_) rfl (by kernel_rfl) (by kernel_rfl) (by kernel_rfl) (Or.inl ⟨by rfl, fun w' hSw => ?_⟩) (by assumption) ?_
      rotate_left
      · go_simp
        with_reducible rfl
      simp only [Act.put, List.setIfInBounds_toArray, List.set_cons_zero, List.set_cons_succ]
      refine seq_take (v := ?_) rfl (by kernel_rfl) (by kernel_rfl) (by kernel_rfl) (Or.inl ⟨by rfl, fun w' hSw => ?_⟩) (by assumption) ?_
      rotate_left
      · go_simp
        with_reducible rfl
      simp only [Act.put, List.setIfInBounds_toArray, List.set_cons_zero, List.set_cons_succ]
      refine seq_take (v := ?_) rfl (by kernel_rfl) (by kernel_rfl) (by kernel_rfl) (Or.inl ⟨by rfl, fun w' hSw => ?_⟩) (by assumption) ?_
      rotate_left
      · go_simp
        with_reducible rfl
      simp only [Act.put, List.setIfInBounds_toArray, List.set_cons_zero, List.set_cons_succ]
      refine seq_take (v := ?_) rfl (by kernel_rfl) (by kernel_rfl) (by kernel_rfl) (Or.inl ⟨by rfl, fun w' hSw => ?_⟩) (by assumption) ?_
      rotate_left
      · go_simp
        with_reducible rfl
      simp only [Act.put, List.setIfInBounds_toArray, List.set_cons_zero, List.set_cons_succ]
      refine seq_take (v := ?_) rfl (by kernel_rfl) (by kernel_rfl) (by kernel_rfl) (Or.inl ⟨by rfl, fun w' hSw => ?_⟩) (by assumption) ?_
      rotate_left
      · go_simp
        with_reducible rfl
      simp only [Act.put, List.setIfInBounds_toArray, List.set_cons_zero, List.set_cons_succ]
      refine seq_take (v := ?_) rfl (by kernel_rfl) (by kernel_rfl) (by kernel_rfl) (Or.inl ⟨by rfl, fun w' hSw => ?_⟩) (by assumption) ?_
      rotate_left
      · go_simp
        with_reducible rfl
      simp only [Act.put, List.setIfInBounds_toArray, List.set_cons_zero, List.set_cons_succ]
      refine seq_take (v := ?_) rfl (by kernel_rfl) (by kernel_rfl) (by kernel_rfl) (Or.inl ⟨by rfl, fun w' hSw => ?_⟩) (by assumption) ?_
      rotate_left
      · go_simp
        with_reducible rfl
      simp only [Act.put, List.setIfInBounds_toArray, List.set_cons_zero, List.set_cons_succ]
      refine seq_take (v := ?_) rfl (by kernel_rfl) (by kernel_rfl) (by kernel_rfl) (Or.inl ⟨by rfl, fun w' hSw => ?_⟩) (by assumption) ?_
      rotate_left
      · go_simp
        with_reducible rfl
      simp only [Act.put, List.setIfInBounds_toArray, List.set_cons_zero, List.set_cons_succ]
      refine seq_take (v := ?_) rfl (by kernel_rfl) (by kernel_rfl) (by kernel_rfl) (Or.inl ⟨by rfl, fun w' hSw => ?_⟩) (by assumption) ?_
      rotate_left
      · go_simp
        with_reducible rfl
      simp only [Act.put, List.setIfInBounds_toArray, List.set_cons_zero, List.set_cons_succ]
      refine seq_take (v := ?_) rfl (by kernel_rfl) (by kernel_rfl) (by kernel_rfl) (Or.inl ⟨by rfl, fun w' hSw => ?_⟩) (by assumption) ?_
      rotate_left
      · go_simp
        with_reducible rfl
      simp only [Act.put, List.setIfInBounds_toArray, List.set_cons_zero, List.set_cons_succ]
      refine seq_take (v := ?_) rfl (by kernel_rfl) (by kernel_rfl) (by kernel_rfl) (Or.inl ⟨by rfl, fun w' hSw => ?_⟩) (by assumption) ?_
      rotate_left
      · go_simp
        with_reducible rfl
      simp only [Act.put, List.setIfInBounds_toArray, List.set_cons_zero, List.set_cons_succ]
      refine seq_take (v := ?_) rfl (by kernel_rfl) (by kernel_rfl) (by kernel_rfl) (Or.inl ⟨by rfl, fun w' hSw => ?_⟩) (by assumption) ?_
      rotate_left
      · go_simp
        with_reducible rfl
      simp only [Act.put, List.setIfInBounds_toArray, List.set_cons_zero, List.set_cons_succ]
      refine seq_take (v := ?_) rfl (by kernel_rfl) (by kernel_rfl) (by kernel_rfl) (Or.inl ⟨by rfl, fun w' hSw => ?_⟩) (by assumption) ?_
      rotate_left
      · go_simp
        with_reducible rfl
      simp only [Act.put, List.setIfInBounds_toArray, List.set_cons_zero, List.set_cons_succ]
      refine seq_take (v := ?_) rfl (by kernel_rfl) (by kernel_rfl) (by kernel_rfl) (Or.inl ⟨by rfl, fun w' hSw => ?_⟩) (by assumption) ?_
      rotate_left
      · go_simp
        with_reducible rfl
      simp only [Act.put, List.setIfInBounds_toArray, List.set_cons_zero, List.set_cons_succ]
      refine seq_take (v := ?_) rfl (by kernel_rfl) (by kernel_rfl) (by kernel_rfl) (Or.inl ⟨by rfl, fun w' hSw => ?_⟩) (by assumption) ?_
      rotate_left
      · go_simp
        with_reducible rfl
      simp only [Act.put, List.setIfInBounds_toArray, List.set_cons_zero, List.set_cons_succ]
      refine seq_take (v := ?_) rfl (by kernel_rfl) (by kernel_rfl) (by kernel_rfl) (Or.inl ⟨by rfl, fun w' hSw => ?_⟩) (by assumption) ?_
      rotate_left
      · go_simp
        with_reducible rfl
      simp only [Act.put, List.setIfInBounds_toArray, List.set_cons_zero, List.set_cons_succ]
      refine seq_take (v := ?_) rfl (by kernel_rfl) (by kernel_rfl) (by kernel_rfl) (Or.inl ⟨by rfl, fun w' hSw => ?_⟩) (by assumption) ?_
      rotate_left
      · go_simp
        with_reducible rfl
      simp only [Act.put, List.setIfInBounds_toArray, List.set_cons_zero, List.set_cons_succ]
      refine seq_take (v := ?_) rfl (by kernel_rfl) (by kernel_rfl) (by kernel_rfl) (Or.inl ⟨by rfl, fun w' hSw => ?_⟩) (by assumption) ?_
      rotate_left
      · go_simp
        with_reducible rfl
      simp only [Act.put, List.setIfInBounds_toArray, List.set_cons_zero, List.set_cons_succ]
      refine seq_take (v := ?_) rfl (by kernel_rfl) (by kernel_rfl) (by kernel_rfl) (Or.inl ⟨by rfl, fun w' hSw => ?_⟩) (by assumption) ?_
      rotate_left
      · go_simp
        with_reducible rfl
      simp only [Act.put, List.setIfInBounds_toArray, List.set_cons_zero, List.set_cons_succ]
      refine seq_take (v := ?_) rfl (by kernel_rfl) (by kernel_rfl) (by kernel_rfl) (Or.inl ⟨by rfl, fun w' hSw => ?_⟩) (by assumption) ?_
      rotate_left
      · go_simp
        with_reducible rfl
      simp only [Act.put, List.setIfInBounds_toArray, List.set_cons_zero, List.set_cons_succ]
      refine seq_take (v := ?_) rfl (by kernel_rfl) (by kernel_rfl) (by kernel_rfl) (Or.inl ⟨by rfl, fun w' hSw => ?_⟩) (by assumption) ?_
      rotate_left
      · go_simp
        with_reducible rfl
      simp only [Act.put, List.setIfInBounds_toArray, List.set_cons_zero, List.set_cons_succ]
      refine seq_take (v := ?_) rfl (by kernel_rfl) (by kernel_rfl) (by kernel_rfl) (Or.inl ⟨by rfl, fun w' hSw => ?_⟩) (by assumption) ?_
      rotate_left
      · go_simp
        with_reducible rfl
      simp only [Act.put, List.setIfInBounds_toArray, List.set_cons_zero, List.set_cons_succ]
      refine seq_take (v := ?_) rfl (by kernel_rfl) (by kernel_rfl) (by kernel_rfl) (Or.inl ⟨by rfl, fun w' hSw => ?_⟩) (by assumption) ?_
      rotate_left
      · go_simp
        with_reducible rfl
      simp only [Act.put, List.setIfInBounds_toArray, List.set_cons_zero, List.set_cons_succ]
      refine seq_take (v := ?_) rfl (by kernel_rfl) (by kernel_rfl) (by kernel_rfl) (Or.inl ⟨by rfl, fun w' hSw => ?_⟩) (by assumption) ?_
      rotate_left
      · go_simp
        with_reducible rfl
      simp only [Act.put, List.setIfInBounds_toArray, List.set_cons_zero, List.set_cons_succ]
      refine seq_take (v := ?_) rfl (by kernel_rfl) (by kernel_rfl) (by kernel_rfl) (Or.inl ⟨by rfl, fun w' hSw => ?_⟩) (by assumption) ?_
      rotate_left
      · go_simp
        with_reducible rfl
      simp only [Act.put, List.setIfInBounds_toArray, List.set_cons_zero, List.set_cons_succ]
      refine seq_take (v := ?_) rfl (by kernel_rfl) (by kernel_rfl) (by kernel_rfl) (Or.inl ⟨by rfl, fun w' hSw => ?_⟩) (by assumption) ?_
      rotate_left
      · go_simp
        with_reducible rfl
      simp only [Act.put, List.setIfInBounds_toArray, List.set_cons_zero, List.set_cons_succ]
      refine seq_take (v := ?_) rfl (by kernel_rfl) (by kernel_rfl) (by kernel_rfl) (Or.inl ⟨by rfl, fun w' hSw => ?_⟩) (by assumption) ?_
      rotate_left
      · go_simp
        with_reducible rfl
      simp only [Act.put, List.setIfInBounds_toArray, List.set_cons_zero, List.set_cons_succ]
      refine seq_take (v := ?_) rfl (by kernel_rfl) (by kernel_rfl) (by kernel_rfl) (Or.inl ⟨by rfl, fun w' hSw => ?_⟩) (by assumption) ?_
      rotate_left
      · go_simp
        with_reducible rfl
      simp only [Act.put, List.setIfInBounds_toArray, List.set_cons_zero, List.set_cons_succ]
      refine seq_take (v := ?_) rfl (by kernel_rfl) (by kernel_rfl) (by kernel_rfl) (Or.inl ⟨by rfl, fun w' hSw => ?_⟩) (by assumption) ?_
      rotate_left
      · go_simp
        with_reducible rfl
      simp only [Act.put, List.setIfInBounds_toArray, List.set_cons_zero, List.set_cons_succ]
      refine seq_take (v := ?_) rfl (by kernel_rfl) (by kernel_rfl) (by kernel_rfl) (Or.inl ⟨by rfl, fun w' hSw => ?_⟩) (by assumption) ?_
      rotate_left
      · go_simp
        with_reducible rfl
      simp only [Act.put, List.setIfInBounds_toArray, List.set_cons_zero, List.set_cons_succ]
      refine seq_take (v := ?_) rfl (by kernel_rfl) (by kernel_rfl) (by kernel_rfl) (Or.inl ⟨by rfl, fun w' hSw => ?_⟩) (by assumption) ?_
      rotate_left
      · go_simp
        with_reducible rfl
      simp only [Act.put, List.setIfInBounds_toArray, List.set_cons_zero, List.set_cons_succ]
      refine seq_take (v := ?_) rfl (by kernel_rfl) (by kernel_rfl) (by kernel_rfl) (Or.inl ⟨by rfl, fun w' hSw => ?_⟩) (by assumption) ?_
      rotate_left
      · go_simp
        with_reducible rfl
      simp only [Act.put, List.setIfInBounds_toArray, List.set_cons_zero, List.set_cons_succ]
      refine seq_take (v := ?_) rfl (by kernel_rfl) (by kernel_rfl) (by kernel_rfl) (Or.inl ⟨by rfl, fun w' hSw => ?_⟩) (by assumption) ?_
      rotate_left
      · go_simp
        with_reducible rfl
      simp only [Act.put, List.setIfInBounds_toArray, List.set_cons_zero, List.set_cons_succ]
      refine seq_take (v := ?_) rfl (by kernel_rfl) (by kernel_rfl) (by kernel_rfl) (Or.inl ⟨by rfl, fun w' hSw => ?_⟩) (by assumption) ?_
      rotate_left
      · go_simp
        with_reducible rfl
      simp only [Act.put, List.setIfInBounds_toArray, List.set_cons_zero, List.set_cons_succ]
      refine seq_take (v := ?_) rfl (by kernel_rfl) (by kernel_rfl) (by kernel_rfl) (Or.inl ⟨by rfl, fun w' hSw => ?_⟩) (by assumption) ?_
      rotate_left
      · go_simp
        with_reducible rfl
      simp only [Act.put, List.setIfInBounds_toArray, List.set_cons_zero, List.set_cons_succ]
      refine seq_take (v := ?_) rfl (by kernel_rfl) (by kernel_rfl) (by kernel_rfl) (Or.inl ⟨by rfl, fun w' hSw => ?_⟩) (by assumption) ?_
      rotate_left
      · go_simp
        with_reducible rfl
      simp only [Act.put, List.setIfInBounds_toArray, List.set_cons_zero, List.set_cons_succ]
      refine seq_take (v := ?_) rfl (by kernel_rfl) (by kernel_rfl) (by kernel_rfl) (Or.inl ⟨by rfl, fun w' hSw => ?_⟩) (by assumption) ?_
      rotate_left
      · go_simp
        with_reducible rfl
      simp only [Act.put, List.setIfInBounds_toArray, List.set_cons_zero, List.set_cons_succ]
      refine seq_take (v := ?_) rfl (by kernel_rfl) (by kernel_rfl) (by kernel_rfl) (Or.inl ⟨by rfl, fun w' hSw => ?_⟩) (by assumption) ?_
      rotate_left
      · go_simp
        with_reducible rfl
      simp only [Act.put, List.setIfInBounds_toArray, List.set_cons_zero, List.set_cons_succ]
      refine seq_take (v := ?_) rfl (by kernel_rfl) (by kernel_rfl) (by kernel_rfl) (Or.inl ⟨by rfl, fun w' hSw => ?_⟩) (by assumption) ?_
      rotate_left
      · go_simp
        with_reducible rfl
      simp only [Act.put, List.setIfInBounds_toArray, List.set_cons_zero, List.set_cons_succ]
      refine seq_take (v := ?_) rfl (by kernel_rfl) (by kernel_rfl) (by kernel_rfl) (Or.inl ⟨by rfl, fun w' hSw => ?_⟩) (by assumption) ?_
      rotate_left
      · go_simp
        with_reducible rfl
      simp only [Act.put, List.setIfInBounds_toArray, List.set_cons_zero, List.set_cons_succ]
      refine seq_take (v := ?_) rfl (by kernel_rfl) (by kernel_rfl) (by kernel_rfl) (Or.inl ⟨by rfl, fun w' hSw => ?_⟩) (by assumption) ?_
      rotate_left
      · go_simp
        with_reducible rfl
      simp only [Act.put, List.setIfInBounds_toArray, List.set_cons_zero, List.set_cons_succ]
      refine seq_take (v := ?_) rfl (by kernel_rfl) (by kernel_rfl) (by kernel_rfl) (Or.inl ⟨by rfl, fun w' hSw => ?_⟩) (by assumption) ?_
      rotate_left
      · go_simp
        with_reducible rfl
      simp only [Act.put, List.setIfInBounds_toArray, List.set_cons_zero, List.set_cons_succ]
      refine seq_take (v := ?_) rfl (by kernel_rfl) (by kernel_rfl) (by kernel_rfl) (Or.inl ⟨by rfl, fun w' hSw => ?_⟩) (by assumption) ?_
      rotate_left
      · go_simp
        with_reducible rfl
      simp only [Act.put, List.setIfInBounds_toArray, List.set_cons_zero, List.set_cons_succ]
      refine seq_take (v := ?_) rfl (by kernel_rfl) (by kernel_rfl) (by kernel_rfl) (Or.inl ⟨by rfl, fun w' hSw => ?_⟩) (by assumption) ?_
      rotate_left
      · go_simp
        with_reducible rfl
      simp only [Act.put, List.setIfInBounds_toArray, List.set_cons_zero, List.set_cons_succ]
      refine seq_take (v := ?_) rfl (by kernel_rfl) (by kernel_rfl) (by kernel_rfl) (Or.inl ⟨by rfl, fun w' hSw => ?_⟩) (by assumption) ?_
      rotate_left
      · go_simp
        with_reducible rfl
      simp only [Act.put, List.setIfInBounds_toArray, List.set_cons_zero, List.set_cons_succ]
      refine seq_done (by kernel_rfl) ?_
      all_goals skip
      have D2 := Lib.hid (show Keeps [] w wr.drew ∧ i + 1 ≤ n from ⟨D.out.drew, HIL.out.2.2⟩)
      clear hS FA FB qa0 qa1 qa2 qa3 qb0 qb1 qb2 qb3
      go_wp2_with fail
      go_roundw
      case rel => exact ⟨i + 1, by go_num, D2.out.2, D2.out.1⟩
      case measure => have := D2.out.2; simp [intOf]; omega
    · have hini : ¬ (i : Int) < (n : Int) := by omega
      clear hin hi
      go_wp2_with fail
      go_ret
      exact ⟨rfl, D.out⟩
end Go.Proofs.YtljinghhalcnnaaDoor
namespace Go.Proofs.YtljinghhalcnnaaDoor
open Go.RowKit

theorem partR_b (l : List UInt8) (e : Int) : (partR l e).2.2.b.length ≤ 64 := by
  cases hc : (boolR l e).2.2 with
  | true => rw [partR_copy l e hc]; simp
  | false =>
    rw [partR_told l e hc]
    simp only
    unfold bytesR
    repeat' split
    · simp
    · simp
    · simp
    · rename_i h1 h2 h3
      have h4 : (bnd (64 : Int).toNat 2 12 (boolR l e).1).2.1 = 0 := by simpa using h3
      have h5 := (bnd_ok (by decide) h4).1
      have h6 : (64 : Int).toNat = 64 := rfl
      simp only [List.length_take]
      omega
theorem decE10_b {b : List UInt8} {ps : List Pa} (h : decE10 b = .ok ps) : ∀ p ∈ ps, p.b.length ≤ 64 := by
  have hps : ∀ (l : List UInt8) (e : Int) (k : Nat), ∀ p ∈ (partsR k l e).2.2, p.b.length ≤ 64 := fun l e k => by
    induction k with
    | zero => intro p h; cases h
    | succ k ih =>
      intro p h
      have h1 : p ∈ (partsR k l e).2.2 ++ [(partR (partsR k l e).1 (partsR k l e).2.1).2.2] := h
      rcases List.mem_append.1 h1 with h2 | h2
      · exact ih p h2
      · obtain rfl := List.mem_singleton.1 h2
        exact partR_b _ _
  unfold decE10 at h
  simp only at h
  split at h
  · injection h with h
    subst h
    exact hps _ _ _
  · cases h
theorem dec_ok {b : List UInt8} {qs : List Pa} (hd : decE10 b = .ok qs) (A0 : Option Addr) (c0 : Nat) (w : World) (hl : b.length ≤ 140737488351232) (hc : b.length ≤ c0) (hr : RdB w A0 b) (hA : ∀ a, A0 = some a → 0 < b.length → a.block < w.heap.size) :
    Calls Tryd.prog 7 #[.slice A0 b.length c0] w fun r w' => ∃ Ax cx xs, r = .returned (.tuple #[.slice Ax (List.length (α := Pt) xs) cx, .nilIface]) ∧ OpI w w' Ax cx xs ∧ xs.map Pt.p = qs ∧ xs.length ≤ 64 :=
  (dec10_any A0 b c0 w hl hc hr hA).mono fun r w' h => by
    obtain ⟨hk, ⟨xs, Ax, cx, h1, h2, h3, h4⟩ | ⟨h1, _⟩⟩ := h
    · rw [hd] at h1
      injection h1 with h1
      exact ⟨Ax, cx, xs, h4, h3, h1.symm, h2⟩
    · rw [hd] at h1; cases h1
theorem dec_no {b : List UInt8} (hd : decE10 b = .error 3) (A0 : Option Addr) (c0 : Nat) (w : World) (hl : b.length ≤ 140737488351232) (hc : b.length ≤ c0) (hr : RdB w A0 b) (hA : ∀ a, A0 = some a → 0 < b.length → a.block < w.heap.size) :
    Calls Tryd.prog 7 #[.slice A0 b.length c0] w fun r w' => r = .returned (.tuple #[.slice none 0 0, .iface 58 (.int .i64 3)]) ∧ Keeps [] w w' :=
  (dec10_any A0 b c0 w hl hc hr hA).mono fun r w' h => by
    obtain ⟨hk, ⟨xs, Ax, cx, h1, h2, h3, h4⟩ | ⟨h1, h2⟩⟩ := h
    · rw [hd] at h1; cases h1
    · exact ⟨by rw [h2, errV_other (by decide)], hk⟩
theorem rdec_ok {b : List UInt8} {qs : List Pa} (hd : decE10 b = .ok qs) (A0 : Option Addr) (c0 : Nat) (w : World) (hl : b.length ≤ 140737488351232) (hc : b.length ≤ c0) (hr : RdB w A0 b) (hA : ∀ a, A0 = some a → 0 < b.length → a.block < w.heap.size) :
    Calls Tryd.prog 8 #[.slice A0 b.length c0] w fun r w' => ∃ Ax cx xs, r = .returned (.tuple #[.slice Ax (List.length (α := Pt) xs) cx, .int .i64 0]) ∧ OqI w w' Ax cx xs ∧ xs.map Pt.p = qs ∧ xs.length ≤ 64 :=
  (rdec10_any A0 b c0 w hl hc hr hA).mono fun r w' h => by
    obtain ⟨hk, ⟨xs, Ax, cx, h1, h2, h3, h4⟩ | ⟨h1, _⟩⟩ := h
    · rw [hd] at h1
      injection h1 with h1
      exact ⟨Ax, cx, xs, h4, h3, h1.symm, h2⟩
    · rw [hd] at h1; cases h1
theorem rdec_no {b : List UInt8} (hd : decE10 b = .error 3) (A0 : Option Addr) (c0 : Nat) (w : World) (hl : b.length ≤ 140737488351232) (hc : b.length ≤ c0) (hr : RdB w A0 b) (hA : ∀ a, A0 = some a → 0 < b.length → a.block < w.heap.size) :
    Calls Tryd.prog 8 #[.slice A0 b.length c0] w fun r w' => r = .returned (.tuple #[.slice none 0 0, .int .i64 3]) ∧ Keeps [] w w' :=
  (rdec10_any A0 b c0 w hl hc hr hA).mono fun r w' h => by
    obtain ⟨hk, ⟨xs, Ax, cx, h1, h2, h3, h4⟩ | ⟨h1, h2⟩⟩ := h
    · rw [hd] at h1; cases h1
    · exact ⟨h2, hk⟩
theorem patch_ok {b : List UInt8} {qs : List Pa} (hd : decE10 b = .ok qs) (base : List UInt8) (hb : base.length = 64) (A0 : Option Addr) (c0 : Nat) (w : World) (hl : b.length ≤ 140737488351232) (hc : b.length ≤ c0) (hr : RdB w A0 b) (hA : ∀ a, A0 = some a → 0 < b.length → a.block < w.heap.size) :
    Calls Tryd.prog 12 #[.agg (encB base).toArray, .slice A0 b.length c0] w fun r w' => r = .returned (.tuple #[.agg (encB (apB base qs)).toArray, errV (apN base qs)]) ∧ Keeps [] w w' :=
  (patch_any base hb A0 b c0 w hl hc hr hA).mono fun r w' h => by
    have e : patchE base b = applyE base qs := by unfold patchE; rw [hd]
    obtain ⟨hk, h⟩ := h
    rw [e] at h
    exact ApP.is ⟨hk, h⟩
theorem patch_no {b : List UInt8} (hd : decE10 b = .error 3) (base : List UInt8) (hb : base.length = 64) (A0 : Option Addr) (c0 : Nat) (w : World) (hl : b.length ≤ 140737488351232) (hc : b.length ≤ c0) (hr : RdB w A0 b) (hA : ∀ a, A0 = some a → 0 < b.length → a.block < w.heap.size) :
    Calls Tryd.prog 12 #[.agg (encB base).toArray, .slice A0 b.length c0] w fun r w' => r = .returned (.tuple #[.agg (encB z64).toArray, .iface 58 (.int .i64 3)]) ∧ Keeps [] w w' :=
  (patch_any base hb A0 b c0 w hl hc hr hA).mono fun r w' h => by
    have e : patchE base b = .error 3 := by unfold patchE; rw [hd]
    obtain ⟨hk, ⟨e1, h1, _, h2⟩ | ⟨l, h1, _⟩⟩ := h
    · rw [e] at h1
      injection h1 with h1
      exact ⟨by rw [h2, ← h1, errV_other (by decide)], hk⟩
    · rw [e] at h1; cases h1
/-- The document's parts of old bytes make as the program's. -/
theorem rapply_q (base : List UInt8) (hb : base.length = 64) (A : Option Addr) (c n : Nat) (ts : List Pt) (ps : List Pa) (w : World) (hn : ts.length = n) (hp : ts.map Pt.p = ps) (hr : Rd w A ts.length 4 (encPt ts)) (hrd : ∀ t ∈ ts, RdB w t.A t.p.b) (hf : ∀ p ∈ ps, ((0 ≤ p.fr ∧ p.fr ≤ 64) ∧ (0 ≤ p.ln ∧ p.ln ≤ 64)) ∧ p.b.length ≤ 64) (hl : n ≤ 1000) :
    Calls Tryd.prog 11 #[.agg (encB base).toArray, .slice A n c] w fun r w' => r = .returned (.tuple #[.agg (encB (apB base ps)).toArray, .int .i64 (apN base ps)]) ∧ Keeps [] w w' := by
  refine rapply_is base hb A c n ts ps w hn hp hr (fun t ht => ?_) hl
  have h1 := hf t.p (by rw [← hp]; exact List.mem_map.2 ⟨t, ht, rfl⟩)
  exact ⟨hrd t ht, ⟨by omega, by omega⟩, ⟨by omega, by omega⟩, by omega⟩
theorem same_is (A B : Option Addr) (c d n : Nat) (ts us : List Pt) (qs : List Pa) (w : World) (h1 : ts.length = n) (h2 : us.length = n) (hr : Rd w A ts.length 4 (encPt ts)) (hbs : ∀ t ∈ ts, RdB w t.A t.p.b) (hu : Rd w B us.length 4 (encPt us)) (hus : ∀ t ∈ us, RdB w t.A t.p.b) (hl : n ≤ 1000) (e1 : ts.map Pt.p = qs) (e2 : us.map Pt.p = qs) :
    Calls Tryd.prog 15 #[.slice A n c, .slice B n d] w fun r w' => r = .returned (.bool true) ∧ Keeps [] w w' := by
  have h3 := psame_any A B c d ts us w hr hbs hu hus (by omega) (e1.trans e2.symm)
  rw [h1, h2] at h3
  exact h3
end Go.Proofs.YtljinghhalcnnaaDoor
