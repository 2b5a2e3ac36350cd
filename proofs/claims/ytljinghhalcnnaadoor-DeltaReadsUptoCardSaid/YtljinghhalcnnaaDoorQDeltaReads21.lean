/- The document's parts as bytes: a contract. -/
import Derived.Test.YtljinghhalcnnaaDoorQDeltaReads7
import Derived.Test.YtljinghhalcnnaaDoorQDeltaReads20
import Derived.Deep.DeepCutAuto
namespace Go.Proofs.YtljinghhalcnnaaDoor
open Go.RowKit

/-- The bytes so far. -/
def REi (w wr : World) (ps : List Pa) (i : Nat) (A : Option Addr) (c : Nat) (o : List UInt8) : Prop :=
  o = uintB ps.length ++ (ps.take i).flatMap encP ∧ OwnB 5 wr A c o ∧ (∀ a, A = some a → w.heap.size ≤ a.block) ∧ Keeps [] w wr
set_option maxRecDepth 100000 in
set_option maxHeartbeats 8000000 in
theorem renc_any (A : Option Addr) (c : Nat) (ts : List Pt) (w : World) (hr : Rd w A ts.length 4 (encPt ts)) (hbs : ∀ t ∈ ts, RdB w t.A t.p.b) (hl : ts.length ≤ 1000) (htot : (encE10 (ts.map Pt.p)).length + 100 ≤ 140737488355328) :
    Calls Tryd.prog 14 #[.slice A ts.length c] w (NewB 5 (encE10 (ts.map Pt.p)) w) := by
  have HR := Lib.hid (And.intro hr hbs)
  obtain ⟨ps, hps⟩ : ∃ ps, ps = ts.map Pt.p := ⟨_, rfl⟩
  obtain ⟨n, hn⟩ : ∃ n, n = ts.length := ⟨_, rfl⟩
  rw [← hps] at htot ⊢
  have HN := Lib.hid (show n = ts.length ∧ ps = ts.map Pt.p ∧ ps.length = n from ⟨hn, hps, by rw [hps, List.length_map, hn]⟩)
  have HT := Lib.hid htot
  rw [← hn]
  rw [← hn] at hl
  have f0 : IntKind.u64.wrap (n : Int) = (n : Int) := by rw [IntKind.wrap_u64]; omega
  clear hr hbs htot hps hn
  go_enter Tryd.func14, Tryd.ntmps14
  go_wp2_with fail
  refine (refuintw_any none [] 0 n w (by simp) (Rd.nil _ _ _) (by omega)).mono ?_
  rintro e w1 ⟨A1, c1, o1, ho1, rfl, hw1, hn1, hk1⟩
  have D1 := Lib.hid (show REi w w1 ps 0 A1 c1 o1 from ⟨by rw [ho1.out, HN.out.2.2]; simp, hw1, hn1, hk1⟩)
  clear ho1 hw1 hn1 hk1
  go_wp2_with fail
  go_loopw [3, 4] (fun s3 s4 wr => ∃ (i : Nat) (A' : Option Addr) (c' : Nat) (o : List UInt8), s4 = .int .i64 i ∧ s3 = .slice A' o.length c' ∧ i ≤ n ∧ Hid (REi w wr ps i A' c' o)) (fun _ s4 _ => n - (intOf s4).toNat)
  case atStart => exact ⟨0, A1, c1, o1, rfl, rfl, Nat.zero_le _, D1⟩
  case round =>
    clear D1
    obtain ⟨i, A', c', o, rfl, rfl, hi, D⟩ := hrel
    by_cases hin : i < n
    · have hini : (i : Int) < (n : Int) := by omega
      have HIL := Lib.hid (show i < ts.length ∧ i < ps.length ∧ i < n from by have := HN.out; omega)
      have HRR := Lib.hid (HR.out.1.keeps0 D.out.2.2.2)
      obtain ⟨ga, oa, rfl, k0, k1, k2, k3⟩ := pt_cells HRR.out HIL.out.1
      obtain ⟨t, ht⟩ : ∃ t, t = ts[i]'(HIL.out.1) := ⟨_, rfl⟩
      rw [← ht] at k0 k1 k2 k3
      have HTT := Lib.hid (show t ∈ ts ∧ ps[i]'(HIL.out.2.1) = t.p from ⟨by rw [ht]; exact List.getElem_mem _, by rw [ht]; simp [HN.out.2.1]⟩)
      have HST := Lib.hid (show uintB ps.length ++ (ps.take (i + 1)).flatMap encP = o ++ encP t.p ∧ (o ++ encP t.p).length + 100 ≤ 140737488355328 from by
        have h1 := encE_take ps HIL.out.2.1
        rw [HTT.out.2, ← D.out.1] at h1
        have h2 := encE_le ps (i + 1)
        rw [h1] at h2
        have h3 := HT.out
        exact ⟨h1, by omega⟩)
      have HC := Lib.hid (show (∀ z, Keeps [] wr z → z.cell? ⟨ga, oa + i * 4, none⟩ = some (.bool t.p.cp)) ∧ (∀ z, Keeps [] wr z → z.cell? ⟨ga, oa + i * 4 + 1, none⟩ = some (.int .i64 t.p.fr)) ∧ (∀ z, Keeps [] wr z → z.cell? ⟨ga, oa + i * 4 + 2, none⟩ = some (.int .i64 t.p.ln)) ∧ (∀ z, Keeps [] wr z → z.cell? ⟨ga, oa + i * 4 + 3, none⟩ = some (.slice t.A t.p.b.length t.c)) from
        ⟨fun z hz => hz.cell k0 (by simp), fun z hz => hz.cell k1 (by simp), fun z hz => hz.cell k2 (by simp), fun z hz => hz.cell k3 (by simp)⟩)
      clear ht hin hi k1 k2 k3
      go_wp2_with fail
      refine (refboolw_any A' o c' t.p.cp wr (by have h1 := HST.out.2; rw [List.length_append] at h1; omega) D.out.2.1.rd).mono ?_
      rintro e w3 ⟨A3, c3, o3, ho3, rfl, hw3, hn3, hk3⟩
      have D3 := Lib.hid (show o3 = o ++ [if t.p.cp then 1 else 0] ∧ RdB w3 A3 o3 ∧ Keeps [] wr w3 ∧ Keeps [] w w3 from ⟨ho3.out, hw3.rd, hk3, D.out.2.2.2.trans hk3 (by simp)⟩)
      clear ho3 hw3 hn3 hk3 k0
      have k0 := HC.out.1 w3 D3.out.2.2.1
      cases hcp : t.p.cp with
      | true =>
        rw [hcp] at k0
        obtain ⟨f, hf⟩ : ∃ f, f = uN t.p.fr := ⟨_, rfl⟩
        obtain ⟨m, hm⟩ : ∃ m, m = uN t.p.ln := ⟨_, rfl⟩
        have f1 : IntKind.u64.wrap t.p.fr = (f : Int) := by rw [hf]; exact (uN_is _).1
        have f2 : IntKind.u64.wrap t.p.ln = (m : Int) := by rw [hm]; exact (uN_is _).1
        have HF := Lib.hid (show f < 18446744073709551616 ∧ m < 18446744073709551616 ∧ encP t.p = [1] ++ (uintB f ++ uintB m) ∧ o3 = o ++ [1] from ⟨by rw [hf]; exact (uN_is _).2, by rw [hm]; exact (uN_is _).2, by unfold encP; rw [hcp, hf, hm]; simp, by rw [D3.out.1, hcp]; rfl⟩)
        have q1 : ∀ z, Keeps [] w3 z → z.cell? ⟨ga, oa + i * 4 + 1, none⟩ = some (.int .i64 t.p.fr) := fun z hz => HC.out.2.1 z (D3.out.2.2.1.trans hz (by simp))
        have q2 : ∀ z, Keeps [] w3 z → z.cell? ⟨ga, oa + i * 4 + 2, none⟩ = some (.int .i64 t.p.ln) := fun z hz => HC.out.2.2.1 z (D3.out.2.2.1.trans hz (by simp))
        clear hf hm hcp
        go_upto_region 7 with fail
        refine seq_start (by kernel_rfl) (fun z => Keeps [] w3 z) 16 [0, 1, 2, 3, 4, 5, 6, 7, 8, 9, 10, 11, 12, 13, 14, 15] rfl ((Keeps.refl [] w3).drew) (fun hS => ?_)
        refine seq_take (v := ?_) rfl (by kernel_rfl) (by kernel_rfl) (by kernel_rfl) (Or.inl ⟨by rfl, fun w' hSw => ?_⟩) (by assumption) ?_
        rotate_left
        · go_simp
          with_reducible rfl
        simp only [Act.put, List.setIfInBounds_toArray, List.set_cons_zero, List.set_cons_succ]
        refine seq_take (v := ?_) rfl (by kernel_rfl) (by kernel_rfl) (by kernel_rfl) (Or.inl ⟨by rfl, fun w' hSw => ?_⟩) (by assumption) ?_
        rotate_left
        · go_simp
          with_reducible rfl
        simp only [Act.put, List.setIfInBounds_toArray, List.set_cons_zero, List.set_cons_succ]
        refine seq_take (v := ?_) rfl (by kernel_rfl) (by kernel_rfl) (by kernel_rfl) (Or.inl ⟨by rfl, fun w' hSw => ?_⟩) (by assumption) ?_
        rotate_left
        · go_simp
          with_reducible rfl
        simp only [Act.put, List.setIfInBounds_toArray, List.set_cons_zero, List.set_cons_succ]
        refine seq_take (v := ?_) rfl (by kernel_rfl) (by kernel_rfl) (by kernel_rfl) (Or.inl ⟨by rfl, fun w' hSw => ?_⟩) (by assumption) ?_
        rotate_left
        · go_simp
          with_reducible rfl
        simp only [Act.put, List.setIfInBounds_toArray, List.set_cons_zero, List.set_cons_succ]
        refine seq_take (v := ?_) rfl (by kernel_rfl) (by kernel_rfl) (by kernel_rfl) (Or.inl ⟨by rfl, fun w' hSw => ?_⟩) (by assumption) ?_
        rotate_left
        · go_simp
          with_reducible rfl
        simp only [Act.put, List.setIfInBounds_toArray, List.set_cons_zero, List.set_cons_succ]
        refine seq_take (v := ?_) rfl (by kernel_rfl) (by kernel_rfl) (by kernel_rfl) (Or.inl ⟨by rfl, fun w' hSw => ?_⟩) (by assumption) ?_
        rotate_left
        · go_simp
          with_reducible rfl
        simp only [Act.put, List.setIfInBounds_toArray, List.set_cons_zero, List.set_cons_succ]
        refine seq_take (v := ?_) rfl (by kernel_rfl) (by kernel_rfl) (by kernel_rfl) (Or.inl ⟨by rfl, fun w' hSw => ?_⟩) (by assumption) ?_
        rotate_left
        · go_simp
          with_reducible rfl
        simp only [Act.put, List.setIfInBounds_toArray, List.set_cons_zero, List.set_cons_succ]
        iterate 1 (refine seq_later ?_; simp only [List.cons_append, List.nil_append])
        refine seq_take (v := ?_) rfl (by kernel_rfl) (by kernel_rfl) (by kernel_rfl) (Or.inl ⟨by rfl, fun w' hSw => ?_⟩) (by assumption) ?_
        rotate_left
        · go_simp
          with_reducible rfl
        simp only [Act.put, List.setIfInBounds_toArray, List.set_cons_zero, List.set_cons_succ]
        refine seq_take (v := ?_) rfl (by kernel_rfl) (by kernel_rfl) (by kernel_rfl) (Or.inl ⟨by rfl, fun w' hSw => ?_⟩) (by assumption) ?_
        rotate_left
        · go_simp
          with_reducible rfl
        simp only [Act.put, List.setIfInBounds_toArray, List.set_cons_zero, List.set_cons_succ]
        refine seq_take (v := ?_) rfl (by kernel_rfl) (by kernel_rfl) (by kernel_rfl) (Or.inl ⟨by rfl, fun w' hSw => ?_⟩) (by assumption) ?_
        rotate_left
        · go_simp
          with_reducible rfl
        simp only [Act.put, List.setIfInBounds_toArray, List.set_cons_zero, List.set_cons_succ]
        refine seq_take (v := ?_) rfl (by kernel_rfl) (by kernel_rfl) (by kernel_rfl) (Or.inl ⟨by rfl, fun w' hSw => ?_⟩) (by assumption) ?_
        rotate_left
        · go_simp
          with_reducible rfl
        simp only [Act.put, List.setIfInBounds_toArray, List.set_cons_zero, List.set_cons_succ]
        refine seq_take (v := ?_) rfl (by kernel_rfl) (by kernel_rfl) (by kernel_rfl) (Or.inl ⟨by rfl, fun w' hSw => ?_⟩) (by assumption) ?_
        rotate_left
        · go_simp
          with_reducible rfl
        simp only [Act.put, List.setIfInBounds_toArray, List.set_cons_zero, List.set_cons_succ]
        refine seq_take (v := ?_) rfl (by kernel_rfl) (by kernel_rfl) (by kernel_rfl) (Or.inl ⟨by rfl, fun w' hSw => ?_⟩) (by assumption) ?_
        rotate_left
        · go_simp
          with_reducible rfl
        simp only [Act.put, List.setIfInBounds_toArray, List.set_cons_zero, List.set_cons_succ]
        iterate 2 (refine seq_later ?_; simp only [List.cons_append, List.nil_append])
        refine seq_do rfl (by kernel_rfl) (by rfl) (fun K hK => ?_)
        go_simp
        refine (refuintw_any A3 o3 c3 f _ (by have h1 := HST.out.2; rw [HF.out.2.2.1, List.length_append] at h1; rw [HF.out.2.2.2]; simp at h1 ⊢; omega) (D3.out.2.1.keeps0 (Keeps.refl [] w3).drew) HF.out.1).mono ?_
        rintro e w4 ⟨A4, c4, o4, ho4, rfl, hw4, hn4, hk4⟩
        have D4 := Lib.hid (show o4 = o3 ++ uintB f ∧ RdB w4 A4 o4 ∧ Keeps [] w3 w4 from ⟨ho4.out, hw4.rd, (Keeps.refl [] w3).drew.trans hk4 (by simp)⟩)
        clear ho4 hw4 hn4 hk4
        refine hK.out (fun z => Keeps [] w3 z) _ _ (fun _ h => h) D4.out.2.2 (fun hS => ?_)
        refine seq_do rfl (by kernel_rfl) (by rfl) (fun K hK => ?_)
        go_simp
        refine (refuintw_any A4 o4 c4 m _ (by have h1 := HST.out.2; rw [HF.out.2.2.1, List.length_append] at h1; rw [D4.out.1, HF.out.2.2.2]; simp at h1 ⊢; omega) D4.out.2.1 HF.out.2.1).mono ?_
        rintro e w5 ⟨A5, c5, o5, ho5, rfl, hw5, hn5, hk5⟩
        have D5 := Lib.hid (show REi w w5 ps (i + 1) A5 c5 o5 ∧ Keeps [] w3 w5 from ⟨⟨by rw [ho5.out, D4.out.1, HF.out.2.2.2, HST.out.1, HF.out.2.2.1]; simp, hw5, fun a ha => by
          have h1 := hn5 a ha
          have h2 := D3.out.2.2.2.size
          have h3 := D4.out.2.2.size
          omega, D3.out.2.2.2.trans (D4.out.2.2.trans hk5 (by simp)) (by simp)⟩, D4.out.2.2.trans hk5 (by simp)⟩)
        clear ho5 hw5 hn5 hk5
        refine hK.out (fun z => Keeps [] w3 z) _ _ (fun _ h => h) D5.out.2 (fun hS => ?_)
        refine seq_take (v := ?_) rfl (by kernel_rfl) (by kernel_rfl) (by kernel_rfl) (Or.inl ⟨by rfl, fun w' hSw => ?_⟩) (by assumption) ?_
        rotate_left
        · go_simp
          with_reducible rfl
        simp only [Act.put, List.setIfInBounds_toArray, List.set_cons_zero, List.set_cons_succ]
        refine seq_done (by kernel_rfl) ?_
        all_goals skip
        clear hS q1 q2
        go_wp2_with fail
        go_roundw
        case rel => exact ⟨i + 1, A5, c5, o5, by go_num, rfl, HIL.out.2.2, D5.out.1⟩
        case measure => have := HIL.out; simp [intOf]; omega
      | false =>
        rw [hcp] at k0
        have HF := Lib.hid (show encP t.p = [0] ++ (uintB t.p.b.length ++ t.p.b) ∧ o3 = o ++ [0] from ⟨by unfold encP lenB; rw [hcp]; simp, by rw [D3.out.1, hcp]; rfl⟩)
        have q3 := HC.out.2.2.2 w3 D3.out.2.2.1
        clear hcp
        go_wp2_with fail
        refine (refbytesw_any A3 o3 c3 t.A t.p.b t.c w3 (by have h1 := HST.out.2; rw [HF.out.1, List.length_append] at h1; rw [HF.out.2]; simp at h1 ⊢; omega) D3.out.2.1 ((HR.out.2 t HTT.out.1).keeps0 D3.out.2.2.2)).mono ?_
        rintro e w5 ⟨A5, c5, o5, ho5, rfl, hw5, hn5, hk5⟩
        have D5 := Lib.hid (show REi w w5 ps (i + 1) A5 c5 o5 from ⟨by rw [ho5.out, HF.out.2, HST.out.1, HF.out.1]; simp, hw5, fun a ha => by
          have h1 := hn5 a ha
          have h2 := D3.out.2.2.2.size
          omega, D3.out.2.2.2.trans hk5 (by simp)⟩)
        clear ho5 hw5 hn5 hk5 q3 k0
        go_wp2_with fail
        go_roundw
        case rel => exact ⟨i + 1, A5, c5, o5, by go_num, rfl, HIL.out.2.2, D5⟩
        case measure => have := HIL.out; simp [intOf]; omega
    · have hini : ¬ (i : Int) < (n : Int) := by omega
      have HE := Lib.hid (show o = encE10 ps from by
        rw [D.out.1]
        unfold encE10
        rw [List.take_of_length_le (by have := HN.out.2.2; omega)])
      clear hin hi
      go_wp2_with fail
      go_ret
      exact ⟨A', c', o, HE.out, rfl, D.out.2.1, D.out.2.2.1, D.out.2.2.2⟩
end Go.Proofs.YtljinghhalcnnaaDoor
