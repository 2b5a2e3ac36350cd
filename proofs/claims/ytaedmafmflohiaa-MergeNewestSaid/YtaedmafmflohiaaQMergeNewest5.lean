/- An entry laid in: a contract. -/
import Derived.Test.YtaedmafmflohiaaQMergeNewest4
import Derived.Deep.DeepCutAuto
import Derived.Deep.AppendLies
namespace Go.Proofs.Ytaedmafmflohiaa
open Go.RowKit

theorem encEn_set3 (l : List En) (i : Nat) (h : i < l.length) (e : En) : (((encEn l).set (i * 3) (.string (strB e.k))).set (i * 3 + 1) (.string (strB e.v))).set (i * 3 + 2) (.bool e.g) = encEn (l.set i e) := by
  have hl := encEn_len l
  refine List.ext_getElem? fun j => ?_
  obtain ⟨q, r, hr, rfl⟩ : ∃ q r, r < 3 ∧ j = 3 * q + r := ⟨j / 3, j % 3, Nat.mod_lt _ (by decide), by omega⟩
  by_cases hq : q < l.length
  · rw [encEn_get (l.set i e) q (by simpa using hq) r hr]
    by_cases hqi : q = i
    · subst hqi
      rw [List.getElem_set_self]
      have hc : r = 0 ∨ r = 1 ∨ r = 2 := by omega
      rcases hc with rfl | rfl | rfl
      · rw [List.getElem?_set_ne (by omega), List.getElem?_set_ne (by omega), show 3 * q + 0 = q * 3 by omega, List.getElem?_set_self (by omega)]; rfl
      · rw [List.getElem?_set_ne (by omega), show 3 * q + 1 = q * 3 + 1 by omega, List.getElem?_set_self (by simp; omega)]; rfl
      · rw [show 3 * q + 2 = q * 3 + 2 by omega, List.getElem?_set_self (by simp; omega)]; rfl
    · rw [List.getElem?_set_ne (by omega), List.getElem?_set_ne (by omega), List.getElem?_set_ne (by omega), encEn_get l q hq r hr, List.getElem_set_ne (fun e' => hqi e'.symm)]
  · rw [List.getElem?_eq_none (by simp; omega), List.getElem?_eq_none (by rw [encEn_len, List.length_set]; omega)]
def PutP (g : Nat) (A : Option Addr) (l : List En) (w : World) (r : Ending) (w' : World) : Prop :=
  r = .returned (.tuple #[]) ∧ ∃ A' c', MemS w' g A' c' l ∧ Keeps (g :: blk A) w w' ∧ (∀ a, A' = some a → a.block ∈ blk A ∨ w.heap.size ≤ a.block)
set_option maxRecDepth 100000 in
set_option maxHeartbeats 8000000 in
theorem put_any (g : Nat) (A : Option Addr) (c : Nat) (l : List En) (e : En) (w : World) (hm : MemS w g A c l) (hs : Srt l) (hok : EnOk l) (hk : e.k.length ≤ 140737488351232) (hv : e.v.length ≤ 140737488351232) (hl : l.length ≤ 10000) :
    Calls Try.prog 9 #[.pointer (some ⟨g, 0, none⟩), e.val] w (PutP g A (putE l e) w) := by
  have HM := Lib.hid hm
  have HS := Lib.hid hs
  have HOK := Lib.hid hok
  have HE := Lib.hid (show e.norm.k.length ≤ 140737488351232 ∧ e.norm.v.length ≤ 140737488351232 from by
    unfold En.norm
    split
    · exact ⟨hk, by simp⟩
    · exact ⟨hk, hv⟩)
  obtain ⟨gb, hgb⟩ : ∃ gb, gb = w.heap.size := ⟨_, rfl⟩
  have HGB := Lib.hid (show gb = w.heap.size ∧ g < gb ∧ (∀ a, A = some a → a.block < gb) from ⟨hgb, by rw [hgb]; exact lt_of_block hm.1, fun a ha => by rw [hgb]; exact ownsRow_lt hm.2.1 a ha⟩)
  have HA0 := Lib.hid (show (w.alloc (.cells e.cells.toArray 27)).heap[gb]? = some (.cells e.cells.toArray 27 (0, 0)) from by rw [hgb]; exact heap_alloc_new _ _)
  have hval : e.val = .agg #[.string (strB e.k), .string (strB e.v), .bool e.g] := rfl
  have hcl : e.cells.toArray = #[.string (strB e.k), .string (strB e.v), .bool e.g] := rfl
  rw [hval]
  rw [hcl] at HA0
  obtain ⟨W0, hW0⟩ : ∃ W0, W0 = w.alloc (.cells #[.string (strB e.k), .string (strB e.v), .bool e.g] 27) := ⟨_, rfl⟩
  rw [← hW0] at HA0
  have HW0 := Lib.hid hW0
  have HK0 := Lib.hid (show Keeps [] w W0 by rw [hW0]; exact (Keeps.refl [] w).alloc _)
  obtain ⟨eg, heg⟩ : ∃ eg, eg = e.g := ⟨_, rfl⟩
  have HEG := Lib.hid heg
  rw [← heg] at HA0 HW0 hval ⊢
  have q2 : W0.cell? ⟨gb, 2, none⟩ = some (.bool eg) := by rw [cell_of_row _ _ _ _ _ _ HA0.out]; rfl
  have q1 : W0.cell? ⟨gb, 1, none⟩ = some (.string (strB e.v)) := by rw [cell_of_row _ _ _ _ _ _ HA0.out]; rfl
  have fz : ∀ j, W0.frozen? ⟨gb, j, none⟩ = false := fun j => frozen_of_row W0 _ j _ _ HA0.out
  clear hm hs hok hk hv hgb hcl hW0 heg hval
  obtain ⟨ne, hne⟩ : ∃ ne, ne = e.norm := ⟨_, rfl⟩
  have HNE := Lib.hid (show ne = e.norm ∧ ne.k = e.k from ⟨hne, by rw [hne, En.norm_k]⟩)
  obtain ⟨n, hn⟩ : ∃ n, n = l.length := ⟨_, rfl⟩
  have HN := Lib.hid hn
  obtain ⟨sz, hsz⟩ : ∃ sz, sz = sizeE l := ⟨_, rfl⟩
  have HSZ := Lib.hid hsz
  obtain ⟨we, hwe⟩ : ∃ we, we = wE ne := ⟨_, rfl⟩
  have HWE := Lib.hid hwe
  have hszl : sz ≤ 10000 * 281474976702464 := by rw [hsz]; exact Nat.le_trans (sizeE_le HOK.out) (Nat.mul_le_mul_right _ hl)
  have hwel : we ≤ 281474976702464 := by rw [hwe]; unfold wE; rw [hne]; have := HE.out; omega
  rw [← hne] at HE
  rw [← hn] at hl
  clear hne hn hsz hwe
  cases eg
  case' true =>
    go_enter Try.func9, Try.ntmps9
    go_upto_region 2 with fail
    rw [← HW0.out, ← HGB.out.1]
    go_upto_region 4 with fail
    have HV := Lib.hid (show (W0.setCell ⟨gb, 1, none⟩ (.string ⟨#[]⟩)).heap[gb]? = some (.cells #[.string (strB ne.k), .string (strB ne.v), .bool ne.g] 27 (0, 0)) ∧ MemS (W0.setCell ⟨gb, 1, none⟩ (.string ⟨#[]⟩)) g A c l ∧ Keeps [] w (W0.setCell ⟨gb, 1, none⟩ (.string ⟨#[]⟩)) from by
      have hks : Keeps [gb] W0 (W0.setCell ⟨gb, 1, none⟩ (.string ⟨#[]⟩)) := (Keeps.refl _ W0).setCell (p := ⟨gb, 1, none⟩) (.inl (by simp)) _
      refine ⟨?_, (HM.out.keeps0 HK0.out).keeps hks (by have := HGB.out.2.1; simp; omega) (fun a ha => by have := HGB.out.2.2 a ha; simp; omega), HK0.out.trans hks (fun t ht => .inr (by simp at ht; have := HGB.out.1; omega))⟩
      rw [heap_setCell_same _ gb 1 _ _ _ HA0.out, HNE.out.1]
      unfold En.norm
      rw [← HEG.out]
      rfl)
    generalize W0.setCell ⟨gb, 1, none⟩ (.string ⟨#[]⟩) = V at HV ⊢
    clear q1 q2 fz HW0 HA0 HK0
  rotate_left
  case' false =>
    go_enter Try.func9, Try.ntmps9
    go_upto_region 2 with fail
    rw [← HW0.out, ← HGB.out.1]
    go_upto_region 4 with fail
    have HV := Lib.hid (show W0.heap[gb]? = some (.cells #[.string (strB ne.k), .string (strB ne.v), .bool ne.g] 27 (0, 0)) ∧ MemS W0 g A c l ∧ Keeps [] w W0 from by
      refine ⟨?_, HM.out.keeps0 HK0.out, HK0.out⟩
      rw [HA0.out, HNE.out.1]
      unfold En.norm
      rw [← HEG.out]
      simp [← HEG.out])
    clear q1 q2 fz HW0 HA0 HK0
    generalize W0 = V at HV ⊢
  all_goals
    have HCC := Lib.hid (show V.cell? ⟨g, 0, none⟩ = some (.slice A n c) ∧ V.cell? ⟨gb, 0, none⟩ = some (.string (strB ne.k)) from ⟨by rw [HN.out]; exact HV.out.2.1.cells.1, by rw [cell_of_row _ _ _ _ _ _ HV.out.1]; rfl⟩)
    have qa : ∀ z : World, (z.cell? ⟨g, 0, none⟩ = some (.slice A n c) ∧ z.cell? ⟨gb, 0, none⟩ = some (.string (strB ne.k))) → z.cell? ⟨g, 0, none⟩ = some (.slice A n c) := fun z hz => hz.1
    have qb : ∀ z : World, (z.cell? ⟨g, 0, none⟩ = some (.slice A n c) ∧ z.cell? ⟨gb, 0, none⟩ = some (.string (strB ne.k))) → z.cell? ⟨gb, 0, none⟩ = some (.string (strB ne.k)) := fun z hz => hz.2
    refine seq_start (by kernel_rfl) (fun z => z.cell? ⟨g, 0, none⟩ = some (.slice A n c) ∧ z.cell? ⟨gb, 0, none⟩ = some (.string (strB ne.k))) 12 [0, 1, 2, 3, 4, 5, 6, 7, 8, 9, 10, 11] rfl (HCC.out) (fun hS => ?_)
    have HVd := Lib.hid (show V.drew.heap[gb]? = some (.cells #[.string (strB ne.k), .string (strB ne.v), .bool ne.g] 27 (0, 0)) ∧ MemS V.drew g A c l ∧ Keeps [] w V.drew from ⟨HV.out.1, HV.out.2.1.keeps0 (Keeps.refl [] V).drew, HV.out.2.2.drew⟩)
    clear HV HCC
    generalize V.drew = V1 at HVd hS ⊢
    refine seq_take (v := ?_) rfl (by kernel_rfl) (by kernel_rfl) (by kernel_rfl) (Or.inl ⟨by rfl, fun w' hSw => ?_⟩) (by assumption) ?_
    rotate_left
    · go_simp
      with_reducible rfl
    simp only [Act.put, List.setIfInBounds_toArray, List.set_cons_zero, List.set_cons_succ]
    refine seq_take (v := ?_) rfl (by kernel_rfl) (by kernel_rfl) (by kernel_rfl) (Or.inl ⟨by rfl, fun w' hSw => ?_⟩) (by assumption) ?_
    rotate_left
    · go_simp
      with_reducible rfl
    simp only [Act.put, List.setIfInBounds_toArray, List.set_cons_zero, List.set_cons_succ]
    refine seq_take (v := ?_) rfl (by kernel_rfl) (by kernel_rfl) (by kernel_rfl) (Or.inl ⟨by rfl, fun w' hSw => ?_⟩) (by assumption) ?_
    rotate_left
    · go_simp
      with_reducible rfl
    simp only [Act.put, List.setIfInBounds_toArray, List.set_cons_zero, List.set_cons_succ]
    refine seq_take (v := ?_) rfl (by kernel_rfl) (by kernel_rfl) (by kernel_rfl) (Or.inl ⟨by rfl, fun w' hSw => ?_⟩) (by assumption) ?_
    rotate_left
    · go_simp
      with_reducible rfl
    simp only [Act.put, List.setIfInBounds_toArray, List.set_cons_zero, List.set_cons_succ]
    refine seq_take (v := ?_) rfl (by kernel_rfl) (by kernel_rfl) (by kernel_rfl) (Or.inl ⟨by rfl, fun w' hSw => ?_⟩) (by assumption) ?_
    rotate_left
    · go_simp
      with_reducible rfl
    simp only [Act.put, List.setIfInBounds_toArray, List.set_cons_zero, List.set_cons_succ]
    refine seq_take (v := ?_) rfl (by kernel_rfl) (by kernel_rfl) (by kernel_rfl) (Or.inl ⟨by rfl, fun w' hSw => ?_⟩) (by assumption) ?_
    rotate_left
    · go_simp
      with_reducible rfl
    simp only [Act.put, List.setIfInBounds_toArray, List.set_cons_zero, List.set_cons_succ]
    refine seq_do rfl (by kernel_rfl) (by rfl) (fun K hK => ?_)
    go_simp
    have HBS := bsearch_any A c l ne.k V1 HVd.out.2.1.rd HS.out (by have := HN.out; omega)
    rw [← HN.out] at HBS
    refine HBS.mono ?_
    clear HBS
    rintro r w2 ⟨rfl, hk2⟩
    obtain ⟨i, hi⟩ : ∃ i, i = lo l ne.k := ⟨_, rfl⟩
    obtain ⟨t, htt⟩ : ∃ t, t = hit l ne.k := ⟨_, rfl⟩
    rw [← hi, ← htt]
    have HI := Lib.hid (show i = lo l e.k ∧ t = hit l e.k from by rw [← HNE.out.2]; exact ⟨hi, htt⟩)
    have hin : i ≤ n := by rw [hi, HN.out]; exact lo_le _ _
    have H2 := Lib.hid (show w2.heap[gb]? = some (.cells #[.string (strB ne.k), .string (strB ne.v), .bool ne.g] 27 (0, 0)) ∧ MemS w2 g A c l ∧ Keeps [] w w2 from ⟨(hk2.block gb (lt_of_block HVd.out.1) (by simp)).trans HVd.out.1, HVd.out.2.1.keeps0 hk2, HVd.out.2.2.trans hk2 (by simp)⟩)
    clear hi htt hk2 HVd
    refine hK.out (fun z => z.cell? ⟨g, 0, none⟩ = some (.slice A n c) ∧ z.cell? ⟨gb, 0, none⟩ = some (.string (strB ne.k))) _ _ (fun _ h => h) ⟨by rw [HN.out]; exact H2.out.2.1.cells.1, by rw [cell_of_row _ _ _ _ _ _ H2.out.1]; rfl⟩ (fun hS => ?_)
    refine seq_take (v := ?_) rfl (by kernel_rfl) (by kernel_rfl) (by kernel_rfl) (Or.inl ⟨by rfl, fun w' hSw => ?_⟩) (by assumption) ?_
    rotate_left
    · go_simp
      with_reducible rfl
    simp only [Act.put, List.setIfInBounds_toArray, List.set_cons_zero, List.set_cons_succ]
    refine seq_take (v := ?_) rfl (by kernel_rfl) (by kernel_rfl) (by kernel_rfl) (Or.inl ⟨by rfl, fun w' hSw => ?_⟩) (by assumption) ?_
    rotate_left
    · go_simp
      with_reducible rfl
    simp only [Act.put, List.setIfInBounds_toArray, List.set_cons_zero, List.set_cons_succ]
    refine seq_take (v := ?_) rfl (by kernel_rfl) (by kernel_rfl) (by kernel_rfl) (Or.inl ⟨by rfl, fun w' hSw => ?_⟩) (by assumption) ?_
    rotate_left
    · go_simp
      with_reducible rfl
    simp only [Act.put, List.setIfInBounds_toArray, List.set_cons_zero, List.set_cons_succ]
    refine seq_take (v := ?_) rfl (by kernel_rfl) (by kernel_rfl) (by kernel_rfl) (Or.inl ⟨by rfl, fun w' hSw => ?_⟩) (by assumption) ?_
    rotate_left
    · go_simp
      with_reducible rfl
    simp only [Act.put, List.setIfInBounds_toArray, List.set_cons_zero, List.set_cons_succ]
    refine seq_take (v := ?_) rfl (by kernel_rfl) (by kernel_rfl) (by kernel_rfl) (Or.inl ⟨by rfl, fun w' hSw => ?_⟩) (by assumption) ?_
    rotate_left
    · go_simp
      with_reducible rfl
    simp only [Act.put, List.setIfInBounds_toArray, List.set_cons_zero, List.set_cons_succ]
    refine seq_done (by kernel_rfl) ?_
    all_goals skip
    clear hS qa qb
    go_upto_region 5 with fail
    have HCC := Lib.hid (show w2.cell? ⟨g, 1, none⟩ = some (.int .i64 (sz : Int)) ∧ (w2.cell? ⟨gb, 0, none⟩ = some (.string (strB ne.k)) ∧ w2.cell? ⟨gb, 1, none⟩ = some (.string (strB ne.v)) ∧ w2.cell? ⟨gb, 2, none⟩ = some (.bool ne.g)) from ⟨by rw [HSZ.out]; exact H2.out.2.1.cells.2, by rw [cell_of_row _ _ _ _ _ _ H2.out.1]; rfl, by rw [cell_of_row _ _ _ _ _ _ H2.out.1]; rfl, by rw [cell_of_row _ _ _ _ _ _ H2.out.1]; rfl⟩)
    have qa : ∀ z : World, (z.cell? ⟨g, 1, none⟩ = some (.int .i64 (sz : Int)) ∧ (z.cell? ⟨gb, 0, none⟩ = some (.string (strB ne.k)) ∧ z.cell? ⟨gb, 1, none⟩ = some (.string (strB ne.v)) ∧ z.cell? ⟨gb, 2, none⟩ = some (.bool ne.g))) → z.cell? ⟨g, 1, none⟩ = some (.int .i64 (sz : Int)) := fun z hz => hz.1
    have qb : ∀ z : World, (z.cell? ⟨g, 1, none⟩ = some (.int .i64 (sz : Int)) ∧ (z.cell? ⟨gb, 0, none⟩ = some (.string (strB ne.k)) ∧ z.cell? ⟨gb, 1, none⟩ = some (.string (strB ne.v)) ∧ z.cell? ⟨gb, 2, none⟩ = some (.bool ne.g))) → z.cell? ⟨gb, 0, none⟩ = some (.string (strB ne.k)) := fun z hz => hz.2.1
    have qc : ∀ z : World, (z.cell? ⟨g, 1, none⟩ = some (.int .i64 (sz : Int)) ∧ (z.cell? ⟨gb, 0, none⟩ = some (.string (strB ne.k)) ∧ z.cell? ⟨gb, 1, none⟩ = some (.string (strB ne.v)) ∧ z.cell? ⟨gb, 2, none⟩ = some (.bool ne.g))) → z.cell? ⟨gb, 1, none⟩ = some (.string (strB ne.v)) := fun z hz => hz.2.2.1
    have qd : ∀ z : World, (z.cell? ⟨g, 1, none⟩ = some (.int .i64 (sz : Int)) ∧ (z.cell? ⟨gb, 0, none⟩ = some (.string (strB ne.k)) ∧ z.cell? ⟨gb, 1, none⟩ = some (.string (strB ne.v)) ∧ z.cell? ⟨gb, 2, none⟩ = some (.bool ne.g))) → z.cell? ⟨gb, 2, none⟩ = some (.bool ne.g) := fun z hz => hz.2.2.2
    obtain ⟨s1, hs1⟩ : ∃ s1, s1 = sz + we := ⟨_, rfl⟩
    have fsum : IntKind.i64.wrap ((sz : Int) + (we : Int)) = (s1 : Int) := by rw [IntKind.wrap_i64]; omega
    have HS1 := Lib.hid (show s1 = sz + we ∧ s1 ≤ 10001 * 281474976702464 from by omega)
    refine seqz_start (by kernel_rfl) (fun z => z.cell? ⟨g, 1, none⟩ = some (.int .i64 (sz : Int)) ∧ (z.cell? ⟨gb, 0, none⟩ = some (.string (strB ne.k)) ∧ z.cell? ⟨gb, 1, none⟩ = some (.string (strB ne.v)) ∧ z.cell? ⟨gb, 2, none⟩ = some (.bool ne.g))) 9 10 [0, 1, 2, 3, 4, 5, 6, 7, 8, 9] rfl (HCC.out) (fun hS => ?_)
    have H2d := Lib.hid (show w2.drew.heap[gb]? = some (.cells #[.string (strB ne.k), .string (strB ne.v), .bool ne.g] 27 (0, 0)) ∧ MemS w2.drew g A c l ∧ Keeps [] w w2.drew from ⟨H2.out.1, H2.out.2.1.keeps0 (Keeps.refl [] w2).drew, H2.out.2.2.drew⟩)
    clear H2 HCC hs1
    generalize w2.drew = V2 at H2d hS ⊢
    refine seqz_take (v := ?_) rfl (by kernel_rfl) (by kernel_rfl) (by kernel_rfl) (by kernel_rfl) (by kernel_rfl) (by decide) (Or.inl ⟨by rfl, fun w' hSw => ?_⟩) (by assumption) ?_
    rotate_left
    · go_simp
      with_reducible rfl
    simp only [Act.put, List.setIfInBounds_toArray, List.set_cons_zero, List.set_cons_succ]
    refine seqz_take (v := ?_) rfl (by kernel_rfl) (by kernel_rfl) (by kernel_rfl) (by kernel_rfl) (by kernel_rfl) (by decide) (Or.inl ⟨by rfl, fun w' hSw => ?_⟩) (by assumption) ?_
    rotate_left
    · go_simp
      with_reducible rfl
    simp only [Act.put, List.setIfInBounds_toArray, List.set_cons_zero, List.set_cons_succ]
    refine seqz_take (v := ?_) rfl (by kernel_rfl) (by kernel_rfl) (by kernel_rfl) (by kernel_rfl) (by kernel_rfl) (by decide) (Or.inl ⟨by rfl, fun w' hSw => ?_⟩) (by assumption) ?_
    rotate_left
    · go_simp
      with_reducible rfl
    simp only [Act.put, List.setIfInBounds_toArray, List.set_cons_zero, List.set_cons_succ]
    refine seqz_take (v := ?_) rfl (by kernel_rfl) (by kernel_rfl) (by kernel_rfl) (by kernel_rfl) (by kernel_rfl) (by decide) (Or.inl ⟨by rfl, fun w' hSw => ?_⟩) (by assumption) ?_
    rotate_left
    · go_simp
      with_reducible rfl
    simp only [Act.put, List.setIfInBounds_toArray, List.set_cons_zero, List.set_cons_succ]
    refine seqz_take (v := ?_) rfl (by kernel_rfl) (by kernel_rfl) (by kernel_rfl) (by kernel_rfl) (by kernel_rfl) (by decide) (Or.inl ⟨by rfl, fun w' hSw => ?_⟩) (by assumption) ?_
    rotate_left
    · go_simp
      with_reducible rfl
    simp only [Act.put, List.setIfInBounds_toArray, List.set_cons_zero, List.set_cons_succ]
    refine seqz_do rfl (by kernel_rfl) (by rfl) (fun K hK => ?_)
    go_simp
    have HWG := weigh_any ne V2 HE.out.1 HE.out.2
    unfold En.val at HWG
    rw [← HWE.out] at HWG
    refine HWG.mono ?_
    clear HWG
    rintro r w3 ⟨rfl, hk3⟩
    have H3 := Lib.hid (show w3.heap[gb]? = some (.cells #[.string (strB ne.k), .string (strB ne.v), .bool ne.g] 27 (0, 0)) ∧ MemS w3 g A c l ∧ Keeps [] w w3 from ⟨(hk3.block gb (lt_of_block H2d.out.1) (by simp)).trans H2d.out.1, H2d.out.2.1.keeps0 hk3, H2d.out.2.2.trans hk3 (by simp)⟩)
    clear hk3 H2d
    have HCC := Lib.hid (show w3.cell? ⟨g, 1, none⟩ = some (.int .i64 (sz : Int)) ∧ (w3.cell? ⟨gb, 0, none⟩ = some (.string (strB ne.k)) ∧ w3.cell? ⟨gb, 1, none⟩ = some (.string (strB ne.v)) ∧ w3.cell? ⟨gb, 2, none⟩ = some (.bool ne.g)) from ⟨by rw [HSZ.out]; exact H3.out.2.1.cells.2, by rw [cell_of_row _ _ _ _ _ _ H3.out.1]; rfl, by rw [cell_of_row _ _ _ _ _ _ H3.out.1]; rfl, by rw [cell_of_row _ _ _ _ _ _ H3.out.1]; rfl⟩)
    refine hK.out (fun z => z.cell? ⟨g, 1, none⟩ = some (.int .i64 (sz : Int)) ∧ (z.cell? ⟨gb, 0, none⟩ = some (.string (strB ne.k)) ∧ z.cell? ⟨gb, 1, none⟩ = some (.string (strB ne.v)) ∧ z.cell? ⟨gb, 2, none⟩ = some (.bool ne.g))) _ _ (fun _ h => h) HCC.out (fun hS => ?_)
    refine seqz_take (v := ?_) rfl (by kernel_rfl) (by kernel_rfl) (by kernel_rfl) (by kernel_rfl) (by kernel_rfl) (by decide) (Or.inl ⟨by rfl, fun w' hSw => ?_⟩) (by assumption) ?_
    rotate_left
    · go_simp
      with_reducible rfl
    simp only [Act.put, List.setIfInBounds_toArray, List.set_cons_zero, List.set_cons_succ]
    refine seqz_take (v := ?_) rfl (by kernel_rfl) (by kernel_rfl) (by kernel_rfl) (by kernel_rfl) (by kernel_rfl) (by decide) (Or.inl ⟨by rfl, fun w' hSw => ?_⟩) (by assumption) ?_
    rotate_left
    · go_simp
      with_reducible rfl
    simp only [Act.put, List.setIfInBounds_toArray, List.set_cons_zero, List.set_cons_succ]
    refine seqz_take (v := ?_) rfl (by kernel_rfl) (by kernel_rfl) (by kernel_rfl) (by kernel_rfl) (by kernel_rfl) (by decide) (Or.inl ⟨by rfl, fun w' hSw => ?_⟩) (by assumption) ?_
    rotate_left
    · go_simp
      with_reducible rfl
    simp only [Act.put, List.setIfInBounds_toArray, List.set_cons_zero, List.set_cons_succ]
    refine seqz_last rfl (by kernel_rfl) (by rfl) (by kernel_rfl) ?_
    all_goals skip
    clear hS qa qb qc qd
    have c1 := HCC.out.1
    have fz : ∀ j, w3.frozen? ⟨g, j, none⟩ = false := fun j => frozen_of_row w3 _ j _ _ H3.out.2.1.1
    go_upto_region 6 with fail
    have H4 := Lib.hid (show (w3.setCell ⟨g, 1, none⟩ (.int .i64 (s1 : Int))).heap[gb]? = some (.cells #[.string (strB ne.k), .string (strB ne.v), .bool ne.g] 27 (0, 0)) ∧ (w3.setCell ⟨g, 1, none⟩ (.int .i64 (s1 : Int))).heap[g]? = some (.cells #[.slice A n c, .int .i64 (s1 : Int)] 50 (0, 0)) ∧ (w3.setCell ⟨g, 1, none⟩ (.int .i64 (s1 : Int))).ownsRow 0 27 3 (.slice A n c) n (encEn l) ∧ Keeps [g] w (w3.setCell ⟨g, 1, none⟩ (.int .i64 (s1 : Int))) from by
      have hks : Keeps [g] w3 (w3.setCell ⟨g, 1, none⟩ (.int .i64 (s1 : Int))) := (Keeps.refl _ w3).setCell (p := ⟨g, 1, none⟩) (.inl (by simp)) _
      refine ⟨(hks.block gb (lt_of_block H3.out.1) (by have := HGB.out.2.1; simp; omega)).trans H3.out.1, ?_, by rw [HN.out]; exact ownsRow_keeps H3.out.2.1.2.1 hks (fun a ha => by simpa using H3.out.2.1.2.2 a ha), (H3.out.2.2.mono (by simp)).trans hks (fun t ht => .inl ht)⟩
      rw [heap_setCell_same _ g 1 _ _ _ H3.out.2.1.1, HN.out]
      rfl)
    clear H3 HCC c1 fz fsum
    generalize w3.setCell ⟨g, 1, none⟩ (.int .i64 (s1 : Int)) = w4 at H4 ⊢
    cases t
    case' true =>
      have HH := Lib.hid (hit_iff.1 HI.out.2.symm)
      obtain ⟨hlt, hkk⟩ := hit_iff.1 HI.out.2.symm
      have hil : i < l.length := by rw [HI.out.1]; exact hlt
      have HIL := Lib.hid hil
      have hiI : (i : Int) < (n : Int) := by have := HN.out; omega
      obtain ⟨ga, ca, hfa, _, _⟩ := World.ownsRow.form H4.out.2.2.1 (by have := HN.out; omega)
      obtain ⟨rfl, rfl⟩ : A = some ⟨ga, 0, none⟩ ∧ c = ca := by injection hfa with e1 e2 e3; exact ⟨e1, e3⟩
      obtain ⟨old, hold⟩ : ∃ old, old = l[i]'(HIL.out) := ⟨_, rfl⟩
      have HOLD := Lib.hid hold
      have HGA := Lib.hid (show ga ≠ g ∧ ga < gb from ⟨HM.out.2.2 _ rfl, HGB.out.2.2 _ rfl⟩)
      obtain ⟨wo, hwo⟩ : ∃ wo, wo = wE old := ⟨_, rfl⟩
      obtain ⟨s2, hs2⟩ : ∃ s2, s2 = sizeE (putE l e) := ⟨_, rfl⟩
      have HWO := Lib.hid hwo
      have hsum : s2 + wo = s1 := by
        have h1 := sizeE_put_hit HI.out.2.symm
        rw [hs2, hwo, hold, HS1.out.1, HSZ.out, HWE.out, HNE.out.1]
        simp only [HI.out.1]
        exact h1
      have HS2 := Lib.hid hs2
      have hs1l := HS1.out.2
      have fsub : IntKind.i64.wrap ((s1 : Int) - (wo : Int)) = (s2 : Int) := by rw [IntKind.wrap_i64]; omega
      have HOL := Lib.hid (show old.k.length ≤ 140737488351232 ∧ old.v.length ≤ 140737488351232 from by rw [hold]; exact HOK.out _ (List.getElem_mem _))
      have HCE := Lib.hid (show ∀ z : World, z.ownsRow 0 27 3 (.slice (some ⟨ga, 0, none⟩) n c) n (encEn l) → z.cell? ⟨ga, i * 3, none⟩ = some (.string (strB old.k)) ∧ z.cell? ⟨ga, i * 3 + 1, none⟩ = some (.string (strB old.v)) ∧ z.cell? ⟨ga, i * 3 + 2, none⟩ = some (.bool old.g) from fun z hz => by
        have hlen := HN.out
        refine ⟨?_, ?_, ?_⟩
        · rw [World.ownsRow.cellAt hz _ (by omega), Nat.mul_comm, ← Nat.add_zero (3 * i), encEn_get l i HIL.out 0 (by decide), HOLD.out]; rfl
        · rw [World.ownsRow.cellAt hz _ (by omega), Nat.mul_comm, encEn_get l i HIL.out 1 (by decide), HOLD.out]; rfl
        · rw [World.ownsRow.cellAt hz _ (by omega), Nat.mul_comm, encEn_get l i HIL.out 2 (by decide), HOLD.out]; rfl)
      clear hlt hkk hil hfa hold hwo hsum hs2
      go_upto_region 7 with fail
      have HCC := Lib.hid (show (w4.cell? ⟨g, 0, none⟩ = some (.slice (some ⟨ga, 0, none⟩) n c) ∧ w4.cell? ⟨g, 1, none⟩ = some (.int .i64 (s1 : Int))) ∧ (w4.cell? ⟨ga, i * 3, none⟩ = some (.string (strB old.k)) ∧ w4.cell? ⟨ga, i * 3 + 1, none⟩ = some (.string (strB old.v)) ∧ w4.cell? ⟨ga, i * 3 + 2, none⟩ = some (.bool old.g)) from ⟨⟨by rw [cell_of_row _ _ _ _ _ _ H4.out.2.1]; rfl, by rw [cell_of_row _ _ _ _ _ _ H4.out.2.1]; rfl⟩, HCE.out _ H4.out.2.2.1⟩)
      have qa : ∀ z : World, ((z.cell? ⟨g, 0, none⟩ = some (.slice (some ⟨ga, 0, none⟩) n c) ∧ z.cell? ⟨g, 1, none⟩ = some (.int .i64 (s1 : Int))) ∧ (z.cell? ⟨ga, i * 3, none⟩ = some (.string (strB old.k)) ∧ z.cell? ⟨ga, i * 3 + 1, none⟩ = some (.string (strB old.v)) ∧ z.cell? ⟨ga, i * 3 + 2, none⟩ = some (.bool old.g))) → z.cell? ⟨g, 0, none⟩ = some (.slice (some ⟨ga, 0, none⟩) n c) := fun z hz => hz.1.1
      have qb : ∀ z : World, ((z.cell? ⟨g, 0, none⟩ = some (.slice (some ⟨ga, 0, none⟩) n c) ∧ z.cell? ⟨g, 1, none⟩ = some (.int .i64 (s1 : Int))) ∧ (z.cell? ⟨ga, i * 3, none⟩ = some (.string (strB old.k)) ∧ z.cell? ⟨ga, i * 3 + 1, none⟩ = some (.string (strB old.v)) ∧ z.cell? ⟨ga, i * 3 + 2, none⟩ = some (.bool old.g))) → z.cell? ⟨g, 1, none⟩ = some (.int .i64 (s1 : Int)) := fun z hz => hz.1.2
      have qc : ∀ z : World, ((z.cell? ⟨g, 0, none⟩ = some (.slice (some ⟨ga, 0, none⟩) n c) ∧ z.cell? ⟨g, 1, none⟩ = some (.int .i64 (s1 : Int))) ∧ (z.cell? ⟨ga, i * 3, none⟩ = some (.string (strB old.k)) ∧ z.cell? ⟨ga, i * 3 + 1, none⟩ = some (.string (strB old.v)) ∧ z.cell? ⟨ga, i * 3 + 2, none⟩ = some (.bool old.g))) → z.cell? ⟨ga, i * 3, none⟩ = some (.string (strB old.k)) := fun z hz => hz.2.1
      have qd : ∀ z : World, ((z.cell? ⟨g, 0, none⟩ = some (.slice (some ⟨ga, 0, none⟩) n c) ∧ z.cell? ⟨g, 1, none⟩ = some (.int .i64 (s1 : Int))) ∧ (z.cell? ⟨ga, i * 3, none⟩ = some (.string (strB old.k)) ∧ z.cell? ⟨ga, i * 3 + 1, none⟩ = some (.string (strB old.v)) ∧ z.cell? ⟨ga, i * 3 + 2, none⟩ = some (.bool old.g))) → z.cell? ⟨ga, i * 3 + 1, none⟩ = some (.string (strB old.v)) := fun z hz => hz.2.2.1
      have qe : ∀ z : World, ((z.cell? ⟨g, 0, none⟩ = some (.slice (some ⟨ga, 0, none⟩) n c) ∧ z.cell? ⟨g, 1, none⟩ = some (.int .i64 (s1 : Int))) ∧ (z.cell? ⟨ga, i * 3, none⟩ = some (.string (strB old.k)) ∧ z.cell? ⟨ga, i * 3 + 1, none⟩ = some (.string (strB old.v)) ∧ z.cell? ⟨ga, i * 3 + 2, none⟩ = some (.bool old.g))) → z.cell? ⟨ga, i * 3 + 2, none⟩ = some (.bool old.g) := fun z hz => hz.2.2.2
      refine seqz_start (by kernel_rfl) (fun z => (z.cell? ⟨g, 0, none⟩ = some (.slice (some ⟨ga, 0, none⟩) n c) ∧ z.cell? ⟨g, 1, none⟩ = some (.int .i64 (s1 : Int))) ∧ (z.cell? ⟨ga, i * 3, none⟩ = some (.string (strB old.k)) ∧ z.cell? ⟨ga, i * 3 + 1, none⟩ = some (.string (strB old.v)) ∧ z.cell? ⟨ga, i * 3 + 2, none⟩ = some (.bool old.g))) 15 16 [0, 1, 2, 3, 4, 5, 6, 7, 8, 9, 10, 11, 12, 13, 14, 15] rfl (HCC.out) (fun hS => ?_)
      have H4d := Lib.hid (show w4.drew.heap[gb]? = some (.cells #[.string (strB ne.k), .string (strB ne.v), .bool ne.g] 27 (0, 0)) ∧ w4.drew.heap[g]? = some (.cells #[.slice (some ⟨ga, 0, none⟩) n c, .int .i64 (s1 : Int)] 50 (0, 0)) ∧ w4.drew.ownsRow 0 27 3 (.slice (some ⟨ga, 0, none⟩) n c) n (encEn l) ∧ Keeps [g] w w4.drew from ⟨H4.out.1, H4.out.2.1, H4.out.2.2.1, H4.out.2.2.2.drew⟩)
      clear H4 HCC
      generalize w4.drew = V4 at H4d hS ⊢
      refine seqz_take (v := ?_) rfl (by kernel_rfl) (by kernel_rfl) (by kernel_rfl) (by kernel_rfl) (by kernel_rfl) (by decide) (Or.inl ⟨by rfl, fun w' hSw => ?_⟩) (by assumption) ?_
      rotate_left
      · go_simp
        with_reducible rfl
      simp only [Act.put, List.setIfInBounds_toArray, List.set_cons_zero, List.set_cons_succ]
      refine seqz_take (v := ?_) rfl (by kernel_rfl) (by kernel_rfl) (by kernel_rfl) (by kernel_rfl) (by kernel_rfl) (by decide) (Or.inl ⟨by rfl, fun w' hSw => ?_⟩) (by assumption) ?_
      rotate_left
      · go_simp
        with_reducible rfl
      simp only [Act.put, List.setIfInBounds_toArray, List.set_cons_zero, List.set_cons_succ]
      refine seqz_take (v := ?_) rfl (by kernel_rfl) (by kernel_rfl) (by kernel_rfl) (by kernel_rfl) (by kernel_rfl) (by decide) (Or.inl ⟨by rfl, fun w' hSw => ?_⟩) (by assumption) ?_
      rotate_left
      · go_simp
        with_reducible rfl
      simp only [Act.put, List.setIfInBounds_toArray, List.set_cons_zero, List.set_cons_succ]
      refine seqz_take (v := ?_) rfl (by kernel_rfl) (by kernel_rfl) (by kernel_rfl) (by kernel_rfl) (by kernel_rfl) (by decide) (Or.inl ⟨by rfl, fun w' hSw => ?_⟩) (by assumption) ?_
      rotate_left
      · go_simp
        with_reducible rfl
      simp only [Act.put, List.setIfInBounds_toArray, List.set_cons_zero, List.set_cons_succ]
      refine seqz_take (v := ?_) rfl (by kernel_rfl) (by kernel_rfl) (by kernel_rfl) (by kernel_rfl) (by kernel_rfl) (by decide) (Or.inl ⟨by rfl, fun w' hSw => ?_⟩) (by assumption) ?_
      rotate_left
      · go_simp
        with_reducible rfl
      simp only [Act.put, List.setIfInBounds_toArray, List.set_cons_zero, List.set_cons_succ]
      refine seqz_take (v := ?_) rfl (by kernel_rfl) (by kernel_rfl) (by kernel_rfl) (by kernel_rfl) (by kernel_rfl) (by decide) (Or.inl ⟨by rfl, fun w' hSw => ?_⟩) (by assumption) ?_
      rotate_left
      · go_simp
        with_reducible rfl
      simp only [Act.put, List.setIfInBounds_toArray, List.set_cons_zero, List.set_cons_succ]
      refine seqz_take (v := ?_) rfl (by kernel_rfl) (by kernel_rfl) (by kernel_rfl) (by kernel_rfl) (by kernel_rfl) (by decide) (Or.inl ⟨by rfl, fun w' hSw => ?_⟩) (by assumption) ?_
      rotate_left
      · go_simp
        with_reducible rfl
      simp only [Act.put, List.setIfInBounds_toArray, List.set_cons_zero, List.set_cons_succ]
      refine seqz_take (v := ?_) rfl (by kernel_rfl) (by kernel_rfl) (by kernel_rfl) (by kernel_rfl) (by kernel_rfl) (by decide) (Or.inl ⟨by rfl, fun w' hSw => ?_⟩) (by assumption) ?_
      rotate_left
      · go_simp
        with_reducible rfl
      simp only [Act.put, List.setIfInBounds_toArray, List.set_cons_zero, List.set_cons_succ]
      refine seqz_take (v := ?_) rfl (by kernel_rfl) (by kernel_rfl) (by kernel_rfl) (by kernel_rfl) (by kernel_rfl) (by decide) (Or.inl ⟨by rfl, fun w' hSw => ?_⟩) (by assumption) ?_
      rotate_left
      · go_simp
        with_reducible rfl
      simp only [Act.put, List.setIfInBounds_toArray, List.set_cons_zero, List.set_cons_succ]
      refine seqz_take (v := ?_) rfl (by kernel_rfl) (by kernel_rfl) (by kernel_rfl) (by kernel_rfl) (by kernel_rfl) (by decide) (Or.inl ⟨by rfl, fun w' hSw => ?_⟩) (by assumption) ?_
      rotate_left
      · go_simp
        with_reducible rfl
      simp only [Act.put, List.setIfInBounds_toArray, List.set_cons_zero, List.set_cons_succ]
      refine seqz_take (v := ?_) rfl (by kernel_rfl) (by kernel_rfl) (by kernel_rfl) (by kernel_rfl) (by kernel_rfl) (by decide) (Or.inl ⟨by rfl, fun w' hSw => ?_⟩) (by assumption) ?_
      rotate_left
      · go_simp
        with_reducible rfl
      simp only [Act.put, List.setIfInBounds_toArray, List.set_cons_zero, List.set_cons_succ]
      refine seqz_do rfl (by kernel_rfl) (by rfl) (fun K hK => ?_)
      go_simp
      have HWG := weigh_any old V4 HOL.out.1 HOL.out.2
      unfold En.val at HWG
      rw [← HWO.out] at HWG
      refine HWG.mono ?_
      clear HWG
      rintro r w5 ⟨rfl, hk5⟩
      have H5 := Lib.hid (show w5.heap[gb]? = some (.cells #[.string (strB ne.k), .string (strB ne.v), .bool ne.g] 27 (0, 0)) ∧ w5.heap[g]? = some (.cells #[.slice (some ⟨ga, 0, none⟩) n c, .int .i64 (s1 : Int)] 50 (0, 0)) ∧ w5.ownsRow 0 27 3 (.slice (some ⟨ga, 0, none⟩) n c) n (encEn l) ∧ Keeps [g] w w5 from ⟨(hk5.block gb (lt_of_block H4d.out.1) (by simp)).trans H4d.out.1, (hk5.block g (lt_of_block H4d.out.2.1) (by simp)).trans H4d.out.2.1, ownsRow_keeps H4d.out.2.2.1 hk5 (by simp), H4d.out.2.2.2.trans (hk5.mono (by simp)) (fun t ht => .inl ht)⟩)
      clear hk5 H4d
      have HCC := Lib.hid (show (w5.cell? ⟨g, 0, none⟩ = some (.slice (some ⟨ga, 0, none⟩) n c) ∧ w5.cell? ⟨g, 1, none⟩ = some (.int .i64 (s1 : Int))) ∧ (w5.cell? ⟨ga, i * 3, none⟩ = some (.string (strB old.k)) ∧ w5.cell? ⟨ga, i * 3 + 1, none⟩ = some (.string (strB old.v)) ∧ w5.cell? ⟨ga, i * 3 + 2, none⟩ = some (.bool old.g)) from ⟨⟨by rw [cell_of_row _ _ _ _ _ _ H5.out.2.1]; rfl, by rw [cell_of_row _ _ _ _ _ _ H5.out.2.1]; rfl⟩, HCE.out _ H5.out.2.2.1⟩)
      refine hK.out (fun z => (z.cell? ⟨g, 0, none⟩ = some (.slice (some ⟨ga, 0, none⟩) n c) ∧ z.cell? ⟨g, 1, none⟩ = some (.int .i64 (s1 : Int))) ∧ (z.cell? ⟨ga, i * 3, none⟩ = some (.string (strB old.k)) ∧ z.cell? ⟨ga, i * 3 + 1, none⟩ = some (.string (strB old.v)) ∧ z.cell? ⟨ga, i * 3 + 2, none⟩ = some (.bool old.g))) _ _ (fun _ h => h) HCC.out (fun hS => ?_)
      refine seqz_take (v := ?_) rfl (by kernel_rfl) (by kernel_rfl) (by kernel_rfl) (by kernel_rfl) (by kernel_rfl) (by decide) (Or.inl ⟨by rfl, fun w' hSw => ?_⟩) (by assumption) ?_
      rotate_left
      · go_simp
        with_reducible rfl
      simp only [Act.put, List.setIfInBounds_toArray, List.set_cons_zero, List.set_cons_succ]
      refine seqz_take (v := ?_) rfl (by kernel_rfl) (by kernel_rfl) (by kernel_rfl) (by kernel_rfl) (by kernel_rfl) (by decide) (Or.inl ⟨by rfl, fun w' hSw => ?_⟩) (by assumption) ?_
      rotate_left
      · go_simp
        with_reducible rfl
      simp only [Act.put, List.setIfInBounds_toArray, List.set_cons_zero, List.set_cons_succ]
      refine seqz_take (v := ?_) rfl (by kernel_rfl) (by kernel_rfl) (by kernel_rfl) (by kernel_rfl) (by kernel_rfl) (by decide) (Or.inl ⟨by rfl, fun w' hSw => ?_⟩) (by assumption) ?_
      rotate_left
      · go_simp
        with_reducible rfl
      simp only [Act.put, List.setIfInBounds_toArray, List.set_cons_zero, List.set_cons_succ]
      refine seqz_last rfl (by kernel_rfl) (by rfl) (by kernel_rfl) ?_
      all_goals skip
      clear hS qa qb qc qd qe
      have c1 := HCC.out.1.2
      have fz : ∀ j, w5.frozen? ⟨g, j, none⟩ = false := fun j => frozen_of_row w5 _ j _ _ H5.out.2.1
      go_upto_region 8 with fail
      have H6 := Lib.hid (show (w5.setCell ⟨g, 1, none⟩ (.int .i64 (s2 : Int))).heap[gb]? = some (.cells #[.string (strB ne.k), .string (strB ne.v), .bool ne.g] 27 (0, 0)) ∧ (w5.setCell ⟨g, 1, none⟩ (.int .i64 (s2 : Int))).heap[g]? = some (.cells #[.slice (some ⟨ga, 0, none⟩) n c, .int .i64 (s2 : Int)] 50 (0, 0)) ∧ (w5.setCell ⟨g, 1, none⟩ (.int .i64 (s2 : Int))).ownsRow 0 27 3 (.slice (some ⟨ga, 0, none⟩) n c) n (encEn l) ∧ Keeps [g] w (w5.setCell ⟨g, 1, none⟩ (.int .i64 (s2 : Int))) from by
        have hks : Keeps [g] w5 (w5.setCell ⟨g, 1, none⟩ (.int .i64 (s2 : Int))) := (Keeps.refl _ w5).setCell (p := ⟨g, 1, none⟩) (.inl (by simp)) _
        refine ⟨(hks.block gb (lt_of_block H5.out.1) (by have := HGB.out.2.1; simp; omega)).trans H5.out.1, ?_, ownsRow_keeps H5.out.2.2.1 hks (fun a ha => by cases ha; simpa using HGA.out.1), H5.out.2.2.2.trans hks (fun t ht => .inl ht)⟩
        rw [heap_setCell_same _ g 1 _ _ _ H5.out.2.1]
        rfl)
      clear H5 HCC c1 fz fsub
      generalize w5.setCell ⟨g, 1, none⟩ (.int .i64 (s2 : Int)) = w6 at H6 ⊢
      have HCC := Lib.hid (show w6.cell? ⟨g, 0, none⟩ = some (.slice (some ⟨ga, 0, none⟩) n c) ∧ (w6.cell? ⟨gb, 0, none⟩ = some (.string (strB ne.k)) ∧ w6.cell? ⟨gb, 1, none⟩ = some (.string (strB ne.v)) ∧ w6.cell? ⟨gb, 2, none⟩ = some (.bool ne.g)) from ⟨by rw [cell_of_row _ _ _ _ _ _ H6.out.2.1]; rfl, by rw [cell_of_row _ _ _ _ _ _ H6.out.1]; rfl, by rw [cell_of_row _ _ _ _ _ _ H6.out.1]; rfl, by rw [cell_of_row _ _ _ _ _ _ H6.out.1]; rfl⟩)
      have qa : ∀ z : World, (z.cell? ⟨g, 0, none⟩ = some (.slice (some ⟨ga, 0, none⟩) n c) ∧ (z.cell? ⟨gb, 0, none⟩ = some (.string (strB ne.k)) ∧ z.cell? ⟨gb, 1, none⟩ = some (.string (strB ne.v)) ∧ z.cell? ⟨gb, 2, none⟩ = some (.bool ne.g))) → z.cell? ⟨g, 0, none⟩ = some (.slice (some ⟨ga, 0, none⟩) n c) := fun z hz => hz.1
      have qb : ∀ z : World, (z.cell? ⟨g, 0, none⟩ = some (.slice (some ⟨ga, 0, none⟩) n c) ∧ (z.cell? ⟨gb, 0, none⟩ = some (.string (strB ne.k)) ∧ z.cell? ⟨gb, 1, none⟩ = some (.string (strB ne.v)) ∧ z.cell? ⟨gb, 2, none⟩ = some (.bool ne.g))) → z.cell? ⟨gb, 0, none⟩ = some (.string (strB ne.k)) := fun z hz => hz.2.1
      have qc : ∀ z : World, (z.cell? ⟨g, 0, none⟩ = some (.slice (some ⟨ga, 0, none⟩) n c) ∧ (z.cell? ⟨gb, 0, none⟩ = some (.string (strB ne.k)) ∧ z.cell? ⟨gb, 1, none⟩ = some (.string (strB ne.v)) ∧ z.cell? ⟨gb, 2, none⟩ = some (.bool ne.g))) → z.cell? ⟨gb, 1, none⟩ = some (.string (strB ne.v)) := fun z hz => hz.2.2.1
      have qd : ∀ z : World, (z.cell? ⟨g, 0, none⟩ = some (.slice (some ⟨ga, 0, none⟩) n c) ∧ (z.cell? ⟨gb, 0, none⟩ = some (.string (strB ne.k)) ∧ z.cell? ⟨gb, 1, none⟩ = some (.string (strB ne.v)) ∧ z.cell? ⟨gb, 2, none⟩ = some (.bool ne.g))) → z.cell? ⟨gb, 2, none⟩ = some (.bool ne.g) := fun z hz => hz.2.2.2
      refine seqz_start (by kernel_rfl) (fun z => z.cell? ⟨g, 0, none⟩ = some (.slice (some ⟨ga, 0, none⟩) n c) ∧ (z.cell? ⟨gb, 0, none⟩ = some (.string (strB ne.k)) ∧ z.cell? ⟨gb, 1, none⟩ = some (.string (strB ne.v)) ∧ z.cell? ⟨gb, 2, none⟩ = some (.bool ne.g))) 7 8 [0, 1, 2, 3, 4, 5, 6, 7] rfl (HCC.out) (fun hS => ?_)
      have H6d := Lib.hid (show w6.drew.heap[gb]? = some (.cells #[.string (strB ne.k), .string (strB ne.v), .bool ne.g] 27 (0, 0)) ∧ w6.drew.heap[g]? = some (.cells #[.slice (some ⟨ga, 0, none⟩) n c, .int .i64 (s2 : Int)] 50 (0, 0)) ∧ w6.drew.ownsRow 0 27 3 (.slice (some ⟨ga, 0, none⟩) n c) n (encEn l) ∧ Keeps [g] w w6.drew from ⟨H6.out.1, H6.out.2.1, H6.out.2.2.1, H6.out.2.2.2.drew⟩)
      clear H6 HCC
      refine seqz_take (v := ?_) rfl (by kernel_rfl) (by kernel_rfl) (by kernel_rfl) (by kernel_rfl) (by kernel_rfl) (by decide) (Or.inl ⟨by rfl, fun w' hSw => ?_⟩) (by assumption) ?_
      rotate_left
      · go_simp
        with_reducible rfl
      simp only [Act.put, List.setIfInBounds_toArray, List.set_cons_zero, List.set_cons_succ]
      refine seqz_take (v := ?_) rfl (by kernel_rfl) (by kernel_rfl) (by kernel_rfl) (by kernel_rfl) (by kernel_rfl) (by decide) (Or.inl ⟨by rfl, fun w' hSw => ?_⟩) (by assumption) ?_
      rotate_left
      · go_simp
        with_reducible rfl
      simp only [Act.put, List.setIfInBounds_toArray, List.set_cons_zero, List.set_cons_succ]
      refine seqz_take (v := ?_) rfl (by kernel_rfl) (by kernel_rfl) (by kernel_rfl) (by kernel_rfl) (by kernel_rfl) (by decide) (Or.inl ⟨by rfl, fun w' hSw => ?_⟩) (by assumption) ?_
      rotate_left
      · go_simp
        with_reducible rfl
      simp only [Act.put, List.setIfInBounds_toArray, List.set_cons_zero, List.set_cons_succ]
      refine seqz_take (v := ?_) rfl (by kernel_rfl) (by kernel_rfl) (by kernel_rfl) (by kernel_rfl) (by kernel_rfl) (by decide) (Or.inl ⟨by rfl, fun w' hSw => ?_⟩) (by assumption) ?_
      rotate_left
      · go_simp
        with_reducible rfl
      simp only [Act.put, List.setIfInBounds_toArray, List.set_cons_zero, List.set_cons_succ]
      refine seqz_take (v := ?_) rfl (by kernel_rfl) (by kernel_rfl) (by kernel_rfl) (by kernel_rfl) (by kernel_rfl) (by decide) (Or.inl ⟨by rfl, fun w' hSw => ?_⟩) (by assumption) ?_
      rotate_left
      · go_simp
        with_reducible rfl
      simp only [Act.put, List.setIfInBounds_toArray, List.set_cons_zero, List.set_cons_succ]
      refine seqz_take (v := ?_) rfl (by kernel_rfl) (by kernel_rfl) (by kernel_rfl) (by kernel_rfl) (by kernel_rfl) (by decide) (Or.inl ⟨by rfl, fun w' hSw => ?_⟩) (by assumption) ?_
      rotate_left
      · go_simp
        with_reducible rfl
      simp only [Act.put, List.setIfInBounds_toArray, List.set_cons_zero, List.set_cons_succ]
      refine seqz_take (v := ?_) rfl (by kernel_rfl) (by kernel_rfl) (by kernel_rfl) (by kernel_rfl) (by kernel_rfl) (by decide) (Or.inl ⟨by rfl, fun w' hSw => ?_⟩) (by assumption) ?_
      rotate_left
      · go_simp
        with_reducible rfl
      simp only [Act.put, List.setIfInBounds_toArray, List.set_cons_zero, List.set_cons_succ]
      refine seqz_last rfl (by kernel_rfl) (by rfl) (by kernel_rfl) ?_
      all_goals skip
      generalize w6.drew = V6 at H6d hS ⊢
      clear hS qa qb qc qd
      obtain ⟨c0, c1, c2⟩ := HCE.out _ H6d.out.2.2.1
      have fz : ∀ j, V6.frozen? ⟨ga, j, none⟩ = false := fun j => World.ownsRow.frozenAt H6d.out.2.2.1 j
      go_wp2_with fail
      (try simp only [Exit.inBlock, Exit.then])
      refine bodyPost_ret (results_none rfl _ _ _) rfl ?_
      have k1 := World.ownsRow.stored H6d.out.2.2.1 (i * 3) (.string (strB ne.k))
      have k2 := World.ownsRow.stored k1.1 (i * 3 + 1) (.string (strB ne.v))
      have k3 := World.ownsRow.stored k2.1 (i * 3 + 2) (.bool ne.g)
      have hks : Keeps [ga] V6 (((V6.setCell ⟨ga, i * 3, none⟩ (.string (strB ne.k))).setCell ⟨ga, i * 3 + 1, none⟩ (.string (strB ne.v))).setCell ⟨ga, i * 3 + 2, none⟩ (.bool ne.g)) := (((Keeps.refl [ga] V6).setCell (p := ⟨ga, i * 3, none⟩) (.inl (by simp)) _).setCell (p := ⟨ga, i * 3 + 1, none⟩) (.inl (by simp)) _).setCell (p := ⟨ga, i * 3 + 2, none⟩) (.inl (by simp)) _
      have hput : putE l e = l.set i ne := by rw [putE_hit HI.out.2.symm, HI.out.1, HNE.out.1]
      have hlen : (putE l e).length = n := by rw [hput, List.length_set, HN.out]
      have k4 := k3.1
      rw [encEn_set3 l i HIL.out ne, ← hput] at k4
      refine ⟨rfl, some ⟨ga, 0, none⟩, c, ⟨?_, by rw [hlen]; exact k4, fun a ha => by cases ha; exact HGA.out.1⟩, (H6d.out.2.2.2.mono (by simp)).trans (hks.mono (by simp [blk])) (fun t ht => .inl ht), fun a ha => .inl (by cases ha; simp [blk])⟩
      rw [hlen, ← HS2.out]
      exact (hks.block g (lt_of_block H6d.out.2.1) (by have := HGA.out.1; simp; omega)).trans H6d.out.2.1
    rotate_left
    case' false =>
      have hsum : s1 = sizeE (putE l e) := by rw [sizeE_put_not HI.out.2.symm, HS1.out.1, HSZ.out, HWE.out, HNE.out.1]
      have HS2 := Lib.hid hsum
      clear hsum
      go_upto_region 9 with fail
      have HCC := Lib.hid (show w4.cell? ⟨g, 0, none⟩ = some (.slice A n c) ∧ (w4.cell? ⟨gb, 0, none⟩ = some (.string (strB ne.k)) ∧ w4.cell? ⟨gb, 1, none⟩ = some (.string (strB ne.v)) ∧ w4.cell? ⟨gb, 2, none⟩ = some (.bool ne.g)) from ⟨by rw [cell_of_row _ _ _ _ _ _ H4.out.2.1]; rfl, by rw [cell_of_row _ _ _ _ _ _ H4.out.1]; rfl, by rw [cell_of_row _ _ _ _ _ _ H4.out.1]; rfl, by rw [cell_of_row _ _ _ _ _ _ H4.out.1]; rfl⟩)
      have qa : ∀ z : World, (z.cell? ⟨g, 0, none⟩ = some (.slice A n c) ∧ (z.cell? ⟨gb, 0, none⟩ = some (.string (strB ne.k)) ∧ z.cell? ⟨gb, 1, none⟩ = some (.string (strB ne.v)) ∧ z.cell? ⟨gb, 2, none⟩ = some (.bool ne.g))) → z.cell? ⟨g, 0, none⟩ = some (.slice A n c) := fun z hz => hz.1
      have qb : ∀ z : World, (z.cell? ⟨g, 0, none⟩ = some (.slice A n c) ∧ (z.cell? ⟨gb, 0, none⟩ = some (.string (strB ne.k)) ∧ z.cell? ⟨gb, 1, none⟩ = some (.string (strB ne.v)) ∧ z.cell? ⟨gb, 2, none⟩ = some (.bool ne.g))) → z.cell? ⟨gb, 0, none⟩ = some (.string (strB ne.k)) := fun z hz => hz.2.1
      have qc : ∀ z : World, (z.cell? ⟨g, 0, none⟩ = some (.slice A n c) ∧ (z.cell? ⟨gb, 0, none⟩ = some (.string (strB ne.k)) ∧ z.cell? ⟨gb, 1, none⟩ = some (.string (strB ne.v)) ∧ z.cell? ⟨gb, 2, none⟩ = some (.bool ne.g))) → z.cell? ⟨gb, 1, none⟩ = some (.string (strB ne.v)) := fun z hz => hz.2.2.1
      have qd : ∀ z : World, (z.cell? ⟨g, 0, none⟩ = some (.slice A n c) ∧ (z.cell? ⟨gb, 0, none⟩ = some (.string (strB ne.k)) ∧ z.cell? ⟨gb, 1, none⟩ = some (.string (strB ne.v)) ∧ z.cell? ⟨gb, 2, none⟩ = some (.bool ne.g))) → z.cell? ⟨gb, 2, none⟩ = some (.bool ne.g) := fun z hz => hz.2.2.2
      refine seqz_start (by kernel_rfl) (fun z => z.cell? ⟨g, 0, none⟩ = some (.slice A n c) ∧ (z.cell? ⟨gb, 0, none⟩ = some (.string (strB ne.k)) ∧ z.cell? ⟨gb, 1, none⟩ = some (.string (strB ne.v)) ∧ z.cell? ⟨gb, 2, none⟩ = some (.bool ne.g))) 11 12 [0, 1, 2, 3, 4, 5, 6, 7, 8, 9, 10, 11] rfl (HCC.out) (fun hS => ?_)
      have H4d := Lib.hid (show w4.drew.heap[gb]? = some (.cells #[.string (strB ne.k), .string (strB ne.v), .bool ne.g] 27 (0, 0)) ∧ w4.drew.heap[g]? = some (.cells #[.slice A n c, .int .i64 (s1 : Int)] 50 (0, 0)) ∧ w4.drew.ownsRow 0 27 3 (.slice A n c) n (encEn l) ∧ Keeps [g] w w4.drew from ⟨H4.out.1, H4.out.2.1, H4.out.2.2.1, H4.out.2.2.2.drew⟩)
      clear H4 HCC
      generalize w4.drew = V4 at H4d hS ⊢
      refine seqz_take (v := ?_) rfl (by kernel_rfl) (by kernel_rfl) (by kernel_rfl) (by kernel_rfl) (by kernel_rfl) (by decide) (Or.inl ⟨by rfl, fun w' hSw => ?_⟩) (by assumption) ?_
      rotate_left
      · go_simp
        with_reducible rfl
      simp only [Act.put, List.setIfInBounds_toArray, List.set_cons_zero, List.set_cons_succ]
      refine seqz_take (v := ?_) rfl (by kernel_rfl) (by kernel_rfl) (by kernel_rfl) (by kernel_rfl) (by kernel_rfl) (by decide) (Or.inl ⟨by rfl, fun w' hSw => ?_⟩) (by assumption) ?_
      rotate_left
      · go_simp
        with_reducible rfl
      simp only [Act.put, List.setIfInBounds_toArray, List.set_cons_zero, List.set_cons_succ]
      refine seqz_take (v := ?_) rfl (by kernel_rfl) (by kernel_rfl) (by kernel_rfl) (by kernel_rfl) (by kernel_rfl) (by decide) (Or.inl ⟨by rfl, fun w' hSw => ?_⟩) (by assumption) ?_
      rotate_left
      · go_simp
        with_reducible rfl
      simp only [Act.put, List.setIfInBounds_toArray, List.set_cons_zero, List.set_cons_succ]
      refine seqz_take (v := ?_) rfl (by kernel_rfl) (by kernel_rfl) (by kernel_rfl) (by kernel_rfl) (by kernel_rfl) (by decide) (Or.inl ⟨by rfl, fun w' hSw => ?_⟩) (by assumption) ?_
      rotate_left
      · go_simp
        with_reducible rfl
      simp only [Act.put, List.setIfInBounds_toArray, List.set_cons_zero, List.set_cons_succ]
      refine seqz_take (v := ?_) rfl (by kernel_rfl) (by kernel_rfl) (by kernel_rfl) (by kernel_rfl) (by kernel_rfl) (by decide) (Or.inl ⟨by rfl, fun w' hSw => ?_⟩) (by assumption) ?_
      rotate_left
      · go_simp
        with_reducible rfl
      simp only [Act.put, List.setIfInBounds_toArray, List.set_cons_zero, List.set_cons_succ]
      refine seqz_take (v := ?_) rfl (by kernel_rfl) (by kernel_rfl) (by kernel_rfl) (by kernel_rfl) (by kernel_rfl) (by decide) (Or.inl ⟨by rfl, fun w' hSw => ?_⟩) (by assumption) ?_
      rotate_left
      · go_simp
        with_reducible rfl
      simp only [Act.put, List.setIfInBounds_toArray, List.set_cons_zero, List.set_cons_succ]
      refine seqz_take (v := ?_) rfl (by kernel_rfl) (by kernel_rfl) (by kernel_rfl) (by kernel_rfl) (by kernel_rfl) (by decide) (Or.inl ⟨by rfl, fun w' hSw => ?_⟩) (by assumption) ?_
      rotate_left
      · go_simp
        with_reducible rfl
      simp only [Act.put, List.setIfInBounds_toArray, List.set_cons_zero, List.set_cons_succ]
      refine seqz_do rfl (by kernel_rfl) (by rfl) (fun K hK => ?_)
      go_simp
      obtain ⟨g2, hg2⟩ : ∃ g2, g2 = V4.heap.size := ⟨_, rfl⟩
      have hka : Keeps [] V4 (V4.alloc (.cells #[.string (strB ne.k), .string (strB ne.v), .bool ne.g] 27)) := (Keeps.refl [] V4).alloc _
      have H5 := Lib.hid (show (V4.alloc (.cells #[.string (strB ne.k), .string (strB ne.v), .bool ne.g] 27)).heap[gb]? = some (.cells #[.string (strB ne.k), .string (strB ne.v), .bool ne.g] 27 (0, 0)) ∧ (V4.alloc (.cells #[.string (strB ne.k), .string (strB ne.v), .bool ne.g] 27)).heap[g]? = some (.cells #[.slice A n c, .int .i64 (s1 : Int)] 50 (0, 0)) ∧ (V4.alloc (.cells #[.string (strB ne.k), .string (strB ne.v), .bool ne.g] 27)).ownsRow 0 27 3 (.slice A n c) n (encEn l) ∧ Keeps [g] w (V4.alloc (.cells #[.string (strB ne.k), .string (strB ne.v), .bool ne.g] 27)) ∧ (V4.alloc (.cells #[.string (strB ne.k), .string (strB ne.v), .bool ne.g] 27)).heap[g2]? = some (.cells #[.string (strB ne.k), .string (strB ne.v), .bool ne.g] 27 (0, 0)) ∧ (∀ a, A = some a → a.block ≠ g2) from
        ⟨(hka.block gb (lt_of_block H4d.out.1) (by simp)).trans H4d.out.1, (hka.block g (lt_of_block H4d.out.2.1) (by simp)).trans H4d.out.2.1, ownsRow_keeps H4d.out.2.2.1 hka (by simp), H4d.out.2.2.2.trans (hka.mono (by simp)) (fun t ht => .inl ht), by rw [hg2]; exact heap_alloc_new _ _, fun a ha => by have := ownsRow_lt H4d.out.2.2.1 a ha; omega⟩)
      clear hka H4d
      rw [← hg2]
      clear hg2
      generalize V4.alloc (.cells #[.string (strB ne.k), .string (strB ne.v), .bool ne.g] 27) = V5 at H5 ⊢
      refine hK.out (fun z => z.cell? ⟨g, 0, none⟩ = some (.slice A n c) ∧ (z.cell? ⟨gb, 0, none⟩ = some (.string (strB ne.k)) ∧ z.cell? ⟨gb, 1, none⟩ = some (.string (strB ne.v)) ∧ z.cell? ⟨gb, 2, none⟩ = some (.bool ne.g))) _ _ (fun _ h => h) ⟨by rw [cell_of_row _ _ _ _ _ _ H5.out.2.1]; rfl, by rw [cell_of_row _ _ _ _ _ _ H5.out.1]; rfl, by rw [cell_of_row _ _ _ _ _ _ H5.out.1]; rfl, by rw [cell_of_row _ _ _ _ _ _ H5.out.1]; rfl⟩ (fun hS => ?_)
      refine seqz_do rfl (by kernel_rfl) (by rfl) (fun K hK => ?_)
      go_simp
      have HIN := insert_en A c l i ne g2 V5 (by rw [← HN.out]; exact H5.out.2.2.1) H5.out.2.2.2.2.1 H5.out.2.2.2.2.2 (by rw [← HN.out]; exact hin) (by have := HN.out; omega)
      rw [← HN.out] at HIN
      refine HIN.mono ?_
      clear HIN
      rintro r w6 ⟨A6, c6, rfl, ho6, hk6, hb6⟩
      have hput : putE l e = l.take i ++ ne :: l.drop i := by rw [putE_not HI.out.2.symm, ← HI.out.1, ← HNE.out.1]
      have HPL := Lib.hid (show (putE l e).length = n + 1 from by rw [putE_len, ← HI.out.2, ← HN.out]; rfl)
      have H6 := Lib.hid (show w6.heap[gb]? = some (.cells #[.string (strB ne.k), .string (strB ne.v), .bool ne.g] 27 (0, 0)) ∧ w6.heap[g]? = some (.cells #[.slice A n c, .int .i64 (s1 : Int)] 50 (0, 0)) ∧ w6.ownsRow 0 27 3 (.slice A6 (n + 1) c6) (n + 1) (encEn (putE l e)) ∧ Keeps (g :: blk A) w w6 ∧ (∀ a, A6 = some a → (a.block ∈ blk A ∨ w.heap.size ≤ a.block) ∧ a.block ≠ g) from by
        have hgn : g ∉ blk A := fun hm => by obtain ⟨a1, e1, e2⟩ := mem_blk.1 hm; exact HM.out.2.2 a1 e1 e2
        have hgbn : gb ∉ blk A := fun hm => by obtain ⟨a1, e1, e2⟩ := mem_blk.1 hm; have := HGB.out.2.2 a1 e1; omega
        refine ⟨(hk6.block gb (lt_of_block H5.out.1) hgbn).trans H5.out.1, (hk6.block g (lt_of_block H5.out.2.1) hgn).trans H5.out.2.1, by rw [hput]; exact ho6, (H5.out.2.2.2.1.mono (by simp)).trans (hk6.mono (fun b hb => .inl (List.mem_cons_of_mem _ hb))) (fun t ht => .inl ht), fun a ha => ?_⟩
        rcases hb6 a ha with h | h
        · exact ⟨.inl h, fun e' => hgn (e' ▸ h)⟩
        · have h1 := H5.out.2.2.2.1.size
          have h2 := lt_of_block H5.out.2.1
          exact ⟨.inr (by omega), by omega⟩)
      clear ho6 hk6 hb6 hput H5
      refine hK.out (fun z => z.cell? ⟨g, 0, none⟩ = some (.slice A n c) ∧ (z.cell? ⟨gb, 0, none⟩ = some (.string (strB ne.k)) ∧ z.cell? ⟨gb, 1, none⟩ = some (.string (strB ne.v)) ∧ z.cell? ⟨gb, 2, none⟩ = some (.bool ne.g))) _ _ (fun _ h => h) ⟨by rw [cell_of_row _ _ _ _ _ _ H6.out.2.1]; rfl, by rw [cell_of_row _ _ _ _ _ _ H6.out.1]; rfl, by rw [cell_of_row _ _ _ _ _ _ H6.out.1]; rfl, by rw [cell_of_row _ _ _ _ _ _ H6.out.1]; rfl⟩ (fun hS => ?_)
      refine seqz_take (v := ?_) rfl (by kernel_rfl) (by kernel_rfl) (by kernel_rfl) (by kernel_rfl) (by kernel_rfl) (by decide) (Or.inl ⟨by rfl, fun w' hSw => ?_⟩) (by assumption) ?_
      rotate_left
      · go_simp
        with_reducible rfl
      simp only [Act.put, List.setIfInBounds_toArray, List.set_cons_zero, List.set_cons_succ]
      refine seqz_take (v := ?_) rfl (by kernel_rfl) (by kernel_rfl) (by kernel_rfl) (by kernel_rfl) (by kernel_rfl) (by decide) (Or.inl ⟨by rfl, fun w' hSw => ?_⟩) (by assumption) ?_
      rotate_left
      · go_simp
        with_reducible rfl
      simp only [Act.put, List.setIfInBounds_toArray, List.set_cons_zero, List.set_cons_succ]
      refine seqz_last rfl (by kernel_rfl) (by rfl) (by kernel_rfl) ?_
      all_goals skip
      clear hS qa qb qc qd
      have c0 : w6.cell? ⟨g, 0, none⟩ = some (.slice A n c) := by rw [cell_of_row _ _ _ _ _ _ H6.out.2.1]; rfl
      have fz : ∀ j, w6.frozen? ⟨g, j, none⟩ = false := fun j => frozen_of_row w6 _ j _ _ H6.out.2.1
      go_wp2_with fail
      go_end0
      have hks : Keeps [g] w6 (w6.setCell ⟨g, 0, none⟩ (.slice A6 (n + 1) c6)) := (Keeps.refl _ w6).setCell (p := ⟨g, 0, none⟩) (.inl (by simp)) _
      refine ⟨rfl, A6, c6, ⟨?_, by rw [HPL.out]; exact ownsRow_keeps H6.out.2.2.1 hks (fun a ha => by simpa using (H6.out.2.2.2.2 a ha).2), fun a ha => (H6.out.2.2.2.2 a ha).2⟩, H6.out.2.2.2.1.trans hks (fun t ht => .inl (by simp at ht; simp [ht])), fun a ha => (H6.out.2.2.2.2 a ha).1⟩
      rw [heap_setCell_same _ g 0 _ _ _ H6.out.2.1, HPL.out, HS2.out]
      rfl
end Go.Proofs.Ytaedmafmflohiaa
