/- The document's rows of entries: a key's entry, the bytes of all, a range: contracts. Two operations that may come up, not beside one another in the text. -/
import Derived.Test.YtaedmafmflohiaaQMergeNewest7
import Derived.Deep.DeepCutAuto
import Derived.Laws.Cover1
import Derived.Test.YtaedmafmflohiaaQMergeNewest1
namespace Go.Proofs.Ytaedmafmflohiaa
open Go.RowKit

set_option maxHeartbeats 4000000 in
theorem rget_any (A : Option Addr) (c : Nat) (l : List En) (key : List UInt8) (w : World) (hr : Rd w A l.length 3 (encEn l)) (hl : l.length ≤ 10000) :
    Calls Try.prog 22 #[.slice A l.length c, .string (strB key)] w fun r w' => r = .returned (getV l key) ∧ Keeps [] w w' := by
  obtain ⟨gr, hgr⟩ : ∃ gr, gr = w.heap.size := ⟨_, rfl⟩
  obtain ⟨W0, hW0⟩ : ∃ W0, W0 = w.alloc (.cells #[.string ⟨#[]⟩, .string ⟨#[]⟩, .bool false] 27) := ⟨_, rfl⟩
  obtain ⟨n, hn⟩ : ∃ n, n = l.length := ⟨_, rfl⟩
  have HN := Lib.hid hn
  have H0 := Lib.hid (show W0.heap[gr]? = some (.cells #[.string ⟨#[]⟩, .string ⟨#[]⟩, .bool false] 27 (0, 0)) ∧ Rd W0 A l.length 3 (encEn l) ∧ Keeps [] w W0 from by
    have hka : Keeps [] w W0 := by rw [hW0]; exact (Keeps.refl [] w).alloc _
    exact ⟨by rw [hW0, hgr]; exact heap_alloc_new _ _, hr.keeps0 hka, hka⟩)
  have HW0 := Lib.hid (And.intro hW0 hgr)
  have z0 : W0.cell? ⟨gr, 0, none⟩ = some (.string ⟨#[]⟩) := by rw [cell_of_row _ _ _ _ _ _ H0.out.1]; rfl
  have z1 : W0.cell? ⟨gr, 1, none⟩ = some (.string ⟨#[]⟩) := by rw [cell_of_row _ _ _ _ _ _ H0.out.1]; rfl
  have z2 : W0.cell? ⟨gr, 2, none⟩ = some (.bool false) := by rw [cell_of_row _ _ _ _ _ _ H0.out.1]; rfl
  have fz : ∀ j, W0.frozen? ⟨gr, j, none⟩ = false := fun j => frozen_of_row W0 _ j _ _ H0.out.1
  have HRW := Lib.hid (show ∀ u0 u1 u2, (((W0.setCell ⟨gr, 0, none⟩ u0).setCell ⟨gr, 1, none⟩ u1).setCell ⟨gr, 2, none⟩ u2).heap[gr]? = some (.cells #[u0, u1, u2] 27 (0, 0)) ∧ Keeps [] w (((W0.setCell ⟨gr, 0, none⟩ u0).setCell ⟨gr, 1, none⟩ u1).setCell ⟨gr, 2, none⟩ u2) from fun u0 u1 u2 => by
    have hks : Keeps [gr] W0 (((W0.setCell ⟨gr, 0, none⟩ u0).setCell ⟨gr, 1, none⟩ u1).setCell ⟨gr, 2, none⟩ u2) := (((Keeps.refl [gr] W0).setCell (p := ⟨gr, 0, none⟩) (.inl (by simp)) _).setCell (p := ⟨gr, 1, none⟩) (.inl (by simp)) _).setCell (p := ⟨gr, 2, none⟩) (.inl (by simp)) _
    refine ⟨?_, H0.out.2.2.trans hks (fun t ht => .inr (by simp at ht; have := HW0.out.2; omega))⟩
    rw [heap_setCell_same _ gr 2 _ _ _ (heap_setCell_same _ gr 1 _ _ _ (heap_setCell_same _ gr 0 _ _ _ H0.out.1))]
    rfl)
  rw [← hn] at hl ⊢
  clear hr hgr hW0 hn
  go_enter Try.func22, Try.ntmps22
  go_upto_region 1 with fail
  rw [← HW0.out.1, ← HW0.out.2]
  go_wp2_with fail
  go_loop [6] (fun si => ∃ j : Nat, j ≤ n ∧ si = .int .i64 j ∧ Hid (∀ t (h : t < l.length), t < j → l[t].k ≠ key)) (fun si => n - (intOf si).toNat)
  case atStart => exact ⟨0, Nat.zero_le _, rfl, fun t h h2 => by omega⟩
  case round =>
    obtain ⟨j, hj, rfl, hb⟩ := hrel
    by_cases hlt : j < n
    · have hjn : (j : Int) < (n : Int) := by omega
      have HJL := Lib.hid (show j < l.length ∧ j < n from by have := HN.out; omega)
      obtain ⟨ga, o, hA, k0, k1, k2⟩ := en_cells H0.out.2.1 (i := j) HJL.out.1
      subst hA
      obtain ⟨e, he⟩ : ∃ e, e = l[j]'(HJL.out.1) := ⟨_, rfl⟩
      rw [← he] at k0 k1 k2
      have HE := Lib.hid he
      obtain ⟨q, hq⟩ : ∃ q, q = (e.k == key) := ⟨_, rfl⟩
      have fq : ((strB e.k).toList == (strB key).toList) = q := by rw [strB_beq, hq]
      have HQ := Lib.hid hq
      clear he hq hlt
      cases q with
      | true =>
        have HG := Lib.hid (show getE l key = some e from by
          unfold getE
          rw [List.find?_eq_some_iff_getElem]
          refine ⟨HQ.out.symm, j, HJL.out.1, HE.out.symm, fun t ht => ?_⟩
          have := hb.out t (by have := HJL.out.1; omega) ht
          simpa using this)
        go_wp2_with fail
        (try simp only [Exit.inBlock, Exit.then])
        have hw := HRW.out (.string (strB e.k)) (.string (strB e.v)) (.bool e.g)
        refine bodyPost_ret (v := .tuple #[.agg #[.string (strB e.k), .string (strB e.v), .bool e.g], .bool true]) (results_cell_tmp2 Try.results22 _ _ gr 27 _ (0, 0) _ _ rfl rfl hw.1 Try.underlying27 rfl infoEn3) rfl ?_
        exact ⟨by unfold getV; rw [HG.out]; rfl, hw.2⟩
      | false =>
        have HB := Lib.hid (show ∀ t (h : t < l.length), t < j + 1 → l[t].k ≠ key from fun t h h2 => by
          by_cases e2 : t = j
          · subst e2
            intro e3
            have := HQ.out
            rw [HE.out] at this
            simp [e3] at this
          · exact hb.out t h (by omega))
        go_wp2_with fail
        go_round
        case rel => exact ⟨j + 1, HJL.out.2, by go_num, HB.out⟩
        case measure => have := HJL.out; simp [intOf]; omega
    · have hjn : ¬ (j : Int) < (n : Int) := by omega
      have HG := Lib.hid (show getE l key = none from by
        rw [getE_none]
        intro x hx
        obtain ⟨t, ht, rfl⟩ := List.mem_iff_getElem.1 hx
        exact hb.out t ht (by have := HN.out; omega))
      clear hlt
      go_wp2_with fail
      (try simp only [Exit.inBlock, Exit.then])
      have hw := HRW.out (.string ⟨#[]⟩) (.string ⟨#[]⟩) (.bool false)
      refine bodyPost_ret (v := .tuple #[.agg #[.string ⟨#[]⟩, .string ⟨#[]⟩, .bool false], .bool false]) (results_cell_tmp2 Try.results22 _ _ gr 27 _ (0, 0) _ _ rfl rfl hw.1 Try.underlying27 rfl infoEn3) rfl ?_
      exact ⟨by unfold getV; rw [HG.out]; rfl, hw.2⟩
set_option maxHeartbeats 4000000 in
theorem rsize_any (A : Option Addr) (c : Nat) (l : List En) (w : World) (hr : Rd w A l.length 3 (encEn l)) (hok : EnOk l) (hl : l.length ≤ 10000) :
    Calls Try.prog 21 #[.slice A l.length c] w fun r w' => r = .returned (.int .i64 (sizeE l : Nat)) ∧ Keeps [] w w' := by
  have HR := Lib.hid hr
  have HOK := Lib.hid hok
  obtain ⟨n, hn⟩ : ∃ n, n = l.length := ⟨_, rfl⟩
  have HN := Lib.hid hn
  have INV := Lib.hid (Keeps.refl [] w)
  rw [← hn] at hl ⊢
  clear hr hok hn
  go_enter Try.func21, Try.ntmps21
  go_wp2_with fail
  go_loopw [3, 4] (fun sn si wr => ∃ (j m : Nat), j ≤ n ∧ si = .int .i64 j ∧ sn = .int .i64 m ∧ Hid (m = sizeE (l.take j)) ∧ Hid (Keeps [] w wr)) (fun _ si _ => n - (intOf si).toNat)
  case atStart => exact ⟨0, 0, Nat.zero_le _, rfl, rfl, rfl, INV.out⟩
  case round =>
    clear INV
    obtain ⟨j, m, hj, rfl, rfl, hm, hinv⟩ := hrel
    have HML := Lib.hid (show m ≤ 10000 * 281474976702464 from by
      rw [hm.out]
      have h1 := sizeE_le (l := l.take j) (fun e he => HOK.out e (List.mem_of_mem_take he))
      rw [List.length_take] at h1
      exact Nat.le_trans h1 (Nat.mul_le_mul_right _ (by omega)))
    by_cases hlt : j < n
    · have hjn : (j : Int) < (n : Int) := by omega
      have HJL := Lib.hid (show j < l.length ∧ j < n from by have := HN.out; omega)
      have hrd : Rd wr A l.length 3 (encEn l) := HR.out.keeps0 hinv.out
      obtain ⟨ga, o, hA, k0, k1, k2⟩ := en_cells hrd (i := j) HJL.out.1
      subst hA
      obtain ⟨e, he⟩ : ∃ e, e = l[j]'(HJL.out.1) := ⟨_, rfl⟩
      rw [← he] at k0 k1 k2
      obtain ⟨lk, hlk⟩ : ∃ lk, lk = e.k.length := ⟨_, rfl⟩
      obtain ⟨lv, hlv⟩ : ∃ lv, lv = e.v.length := ⟨_, rfl⟩
      have hlk' : (strB e.k).size = lk := by rw [hlk]; rfl
      have hlv' : (strB e.v).size = lv := by rw [hlv]; rfl
      obtain ⟨m2, hm2⟩ : ∃ m2, m2 = m + lk + lv := ⟨_, rfl⟩
      obtain ⟨m1, hm1⟩ : ∃ m1, m1 = m + lk := ⟨_, rfl⟩
      have hok := HOK.out e (by rw [he]; exact List.getElem_mem _)
      rw [← hlk, ← hlv] at hok
      have f1 : IntKind.i64.wrap ((m : Int) + (lk : Int)) = (m1 : Int) := by rw [IntKind.wrap_i64]; have := HML.out; omega
      have f2 : IntKind.i64.wrap ((m1 : Int) + (lv : Int)) = (m2 : Int) := by rw [IntKind.wrap_i64]; have := HML.out; omega
      have HM2 := Lib.hid (show m2 = sizeE (l.take (j + 1)) from by
        rw [sizeE_take l j HJL.out.1, ← he, hm2, hm.out, hlk, hlv]
        unfold wE
        omega)
      have HC := Lib.hid (And.intro k0 k1)
      clear he hlk hlv hm2 hm1 hok k0 k1 k2 hrd hlt
      go_upto_region 5 with fail
      have qa : ∀ z : World, (z.cell? ⟨ga, o + j * 3, none⟩ = some (.string (strB e.k)) ∧ z.cell? ⟨ga, o + j * 3 + 1, none⟩ = some (.string (strB e.v))) → z.cell? ⟨ga, o + j * 3, none⟩ = some (.string (strB e.k)) := fun z hz => hz.1
      have qb : ∀ z : World, (z.cell? ⟨ga, o + j * 3, none⟩ = some (.string (strB e.k)) ∧ z.cell? ⟨ga, o + j * 3 + 1, none⟩ = some (.string (strB e.v))) → z.cell? ⟨ga, o + j * 3 + 1, none⟩ = some (.string (strB e.v)) := fun z hz => hz.2
      refine seq_start (by kernel_rfl) (fun z => z.cell? ⟨ga, o + j * 3, none⟩ = some (.string (strB e.k)) ∧ z.cell? ⟨ga, o + j * 3 + 1, none⟩ = some (.string (strB e.v))) 16 [0, 1, 2, 3, 4, 5, 6, 7, 8, 9, 10, 11, 12, 13, 14, 15] rfl (HC.out) (fun hS => ?_)
      refine seq_take (v := ?_) rfl (by kernel_rfl) (by kernel_rfl) (by kernel_rfl) (Or.inl ⟨by rfl, fun w' hSw => ?_⟩) (by assumption) ?_
      rotate_left
      · go_simp
        with_reducible rfl
      simp only [Act.put, List.setIfInBounds_toArray, List.set_cons_zero, List.set_cons_succ]
      refine seq_take (v := ?_) rfl (by kernel_rfl) (by kernel_rfl) (by kernel_rfl) (Or.inl ⟨by rfl, fun w' hSw => ?_⟩) (by assumption) ?_
      rotate_left
      · go_simp
        with_reducible rfl
      simp only [Act.put, List.setIfInBounds_toArray, List.set_cons_zero, List.set_cons_succ]
      refine seq_take (v := ?_) rfl (by kernel_rfl) (by kernel_rfl) (by kernel_rfl) (Or.inl ⟨by rfl, fun w' hSw => ?_⟩) (by assumption) ?_
      rotate_left
      · go_simp
        with_reducible rfl
      simp only [Act.put, List.setIfInBounds_toArray, List.set_cons_zero, List.set_cons_succ]
      refine seq_take (v := ?_) rfl (by kernel_rfl) (by kernel_rfl) (by kernel_rfl) (Or.inl ⟨by rfl, fun w' hSw => ?_⟩) (by assumption) ?_
      rotate_left
      · go_simp
        with_reducible rfl
      simp only [Act.put, List.setIfInBounds_toArray, List.set_cons_zero, List.set_cons_succ]
      refine seq_take (v := ?_) rfl (by kernel_rfl) (by kernel_rfl) (by kernel_rfl) (Or.inl ⟨by rfl, fun w' hSw => ?_⟩) (by assumption) ?_
      rotate_left
      · go_simp
        with_reducible rfl
      simp only [Act.put, List.setIfInBounds_toArray, List.set_cons_zero, List.set_cons_succ]
      refine seq_take (v := ?_) rfl (by kernel_rfl) (by kernel_rfl) (by kernel_rfl) (Or.inl ⟨by rfl, fun w' hSw => ?_⟩) (by assumption) ?_
      rotate_left
      · go_simp
        with_reducible rfl
      simp only [Act.put, List.setIfInBounds_toArray, List.set_cons_zero, List.set_cons_succ]
      refine seq_take (v := ?_) rfl (by kernel_rfl) (by kernel_rfl) (by kernel_rfl) (Or.inl ⟨by rfl, fun w' hSw => ?_⟩) (by assumption) ?_
      rotate_left
      · go_simp
        with_reducible rfl
      simp only [Act.put, List.setIfInBounds_toArray, List.set_cons_zero, List.set_cons_succ]
      refine seq_take (v := ?_) rfl (by kernel_rfl) (by kernel_rfl) (by kernel_rfl) (Or.inl ⟨by rfl, fun w' hSw => ?_⟩) (by assumption) ?_
      rotate_left
      · go_simp
        with_reducible rfl
      simp only [Act.put, List.setIfInBounds_toArray, List.set_cons_zero, List.set_cons_succ]
      refine seq_take (v := ?_) rfl (by kernel_rfl) (by kernel_rfl) (by kernel_rfl) (Or.inl ⟨by rfl, fun w' hSw => ?_⟩) (by assumption) ?_
      rotate_left
      · go_simp
        with_reducible rfl
      simp only [Act.put, List.setIfInBounds_toArray, List.set_cons_zero, List.set_cons_succ]
      refine seq_take (v := ?_) rfl (by kernel_rfl) (by kernel_rfl) (by kernel_rfl) (Or.inl ⟨by rfl, fun w' hSw => ?_⟩) (by assumption) ?_
      rotate_left
      · go_simp
        with_reducible rfl
      simp only [Act.put, List.setIfInBounds_toArray, List.set_cons_zero, List.set_cons_succ]
      refine seq_take (v := ?_) rfl (by kernel_rfl) (by kernel_rfl) (by kernel_rfl) (Or.inl ⟨by rfl, fun w' hSw => ?_⟩) (by assumption) ?_
      rotate_left
      · go_simp
        with_reducible rfl
      simp only [Act.put, List.setIfInBounds_toArray, List.set_cons_zero, List.set_cons_succ]
      refine seq_take (v := ?_) rfl (by kernel_rfl) (by kernel_rfl) (by kernel_rfl) (Or.inl ⟨by rfl, fun w' hSw => ?_⟩) (by assumption) ?_
      rotate_left
      · go_simp
        with_reducible rfl
      simp only [Act.put, List.setIfInBounds_toArray, List.set_cons_zero, List.set_cons_succ]
      refine seq_take (v := ?_) rfl (by kernel_rfl) (by kernel_rfl) (by kernel_rfl) (Or.inl ⟨by rfl, fun w' hSw => ?_⟩) (by assumption) ?_
      rotate_left
      · go_simp
        with_reducible rfl
      simp only [Act.put, List.setIfInBounds_toArray, List.set_cons_zero, List.set_cons_succ]
      refine seq_take (v := ?_) rfl (by kernel_rfl) (by kernel_rfl) (by kernel_rfl) (Or.inl ⟨by rfl, fun w' hSw => ?_⟩) (by assumption) ?_
      rotate_left
      · go_simp
        with_reducible rfl
      simp only [Act.put, List.setIfInBounds_toArray, List.set_cons_zero, List.set_cons_succ]
      refine seq_take (v := ?_) rfl (by kernel_rfl) (by kernel_rfl) (by kernel_rfl) (Or.inl ⟨by rfl, fun w' hSw => ?_⟩) (by assumption) ?_
      rotate_left
      · go_simp
        with_reducible rfl
      simp only [Act.put, List.setIfInBounds_toArray, List.set_cons_zero, List.set_cons_succ]
      refine seq_take (v := ?_) rfl (by kernel_rfl) (by kernel_rfl) (by kernel_rfl) (Or.inl ⟨by rfl, fun w' hSw => ?_⟩) (by assumption) ?_
      rotate_left
      · go_simp
        with_reducible rfl
      simp only [Act.put, List.setIfInBounds_toArray, List.set_cons_zero, List.set_cons_succ]
      refine seq_done (by kernel_rfl) ?_
      all_goals skip
      have HV := Lib.hid (show Keeps [] w wr.drew from hinv.out.drew)
      clear hS qa qb HC hinv
      generalize wr.drew = V at HV ⊢
      go_wp2_with fail
      go_roundw
      case rel => exact ⟨j + 1, m2, HJL.out.2, by go_num, by go_num, HM2.out, HV.out⟩
      case measure => have := HJL.out; simp [intOf]; omega
    · have hjn : ¬ (j : Int) < (n : Int) := by omega
      have HM := Lib.hid (show m = sizeE l from by rw [hm.out, List.take_of_length_le (by have := HN.out; omega)])
      clear hlt
      go_wp2_with fail
      go_ret
      exact ⟨by rw [HM.out]; rfl, hinv.out⟩
/-- Whether an entry is in a range. -/
def inR (a b : List UInt8) (e : En) : Bool := !(Op.bytesLess e.k a) && (b.isEmpty || Op.bytesLess e.k b)
theorem takeWhile_len {l : List En} (p : En → Bool) : (l.takeWhile p) = l.take (l.takeWhile p).length := by
  rw [← List.prefix_iff_eq_take]
  exact List.takeWhile_prefix _
theorem rangeE_filter {l : List En} (h : Srt l) (a b : List UInt8) : rangeE l a b = l.filter (inR a b) := by
  refine srt_ext (h.sublist ((List.take_sublist _ _).trans (List.drop_sublist _ _))) (h.sublist List.filter_sublist) fun x => ?_
  rw [List.mem_filter]
  have hla := lo_le l a
  have hlb := lo_le l b
  unfold rangeE inR
  constructor
  · intro hx
    obtain ⟨i, hi, rfl⟩ := List.mem_iff_getElem.1 hx
    rw [List.length_take, List.length_drop] at hi
    rw [List.getElem_take, List.getElem_drop]
    refine ⟨List.getElem_mem _, ?_⟩
    rw [h.after (by omega) (by omega)]
    by_cases hb : b = []
    · subst hb; rfl
    · rw [if_neg hb] at hi
      rw [lo_before (l := l) (key := b) (by omega) (by omega)]
      simp
  · rintro ⟨h1, h2⟩
    obtain ⟨i, hi, rfl⟩ := List.mem_iff_getElem.1 h1
    simp only [Bool.and_eq_true, Bool.not_eq_true', Bool.or_eq_true, List.isEmpty_iff] at h2
    have h3 : lo l a ≤ i := by
      rcases Nat.lt_or_ge i (lo l a) with h4 | h4
      · rw [lo_before hi h4] at h2; cases h2.1
      · exact h4
    have h5 : i < (if b = [] then l.length else lo l b) := by
      split
      · exact hi
      · rename_i hb
        rcases Nat.lt_or_ge i (lo l b) with h4 | h4
        · exact h4
        · rw [h.after hi h4] at h2
          rcases h2.2 with h6 | h6
          · exact absurd h6 hb
          · cases h6
    refine List.mem_iff_getElem.2 ⟨i - lo l a, ?_, ?_⟩
    · rw [List.length_take, List.length_drop]; omega
    · rw [List.getElem_take, List.getElem_drop]
      congr 1
      omega
set_option maxHeartbeats 8000000 in
theorem rrange_any (A : Option Addr) (c : Nat) (l : List En) (a b : List UInt8) (w : World) (hr : Rd w A l.length 3 (encEn l)) (hl : l.length ≤ 10000) :
    Calls Try.prog 13 #[.slice A l.length c, .string (strB a), .string (strB b)] w (NewEn (l.filter (inR a b)) w) := by
  have HR := Lib.hid hr
  obtain ⟨n, hn⟩ : ∃ n, n = l.length := ⟨_, rfl⟩
  have HN := Lib.hid hn
  obtain ⟨be, hbe⟩ : ∃ be, be = b.isEmpty := ⟨_, rfl⟩
  have fbe : (strB b).toList.isEmpty = be := by rw [strB_toList, hbe]
  have HBE := Lib.hid hbe
  have INV := Lib.hid (show w.ownsRow 0 27 3 (.slice none 0 0) 0 (encEn ((l.take 0).filter (inR a b))) ∧ Keeps [] w w ∧ (∀ x, (none : Option Addr) = some x → w.heap.size ≤ x.block) from ⟨World.ownsRow_nil _ _ _ _, Keeps.refl [] w, by simp⟩)
  rw [← hn] at hl ⊢
  clear hr hn hbe
  go_enter Try.func13, Try.ntmps13
  go_wp2_with fail
  go_loopw [7, 8] (fun so si wr => ∃ (j : Nat) (A1 : Option Addr) (c1 m : Nat), j ≤ n ∧ si = .int .i64 j ∧ so = .slice A1 m c1 ∧ Hid (m = ((l.take j).filter (inR a b)).length) ∧ Hid (wr.ownsRow 0 27 3 (.slice A1 m c1) m (encEn ((l.take j).filter (inR a b))) ∧ Keeps [] w wr ∧ (∀ x, A1 = some x → w.heap.size ≤ x.block))) (fun _ si _ => n - (intOf si).toNat)
  case atStart => exact ⟨0, none, 0, 0, Nat.zero_le _, rfl, rfl, rfl, INV.out⟩
  case round =>
    clear INV
    obtain ⟨j, A1, c1, m, hj, rfl, rfl, hm, hinv⟩ := hrel
    by_cases hlt : j < n
    · have hjn : (j : Int) < (n : Int) := by omega
      have HJL := Lib.hid (show j < l.length ∧ j < n from by have := HN.out; omega)
      obtain ⟨ga, o, hA, k0, k1, k2⟩ := en_cells (HR.out.keeps0 hinv.out.2.1) (i := j) HJL.out.1
      subst hA
      obtain ⟨e, he⟩ : ∃ e, e = l[j]'(HJL.out.1) := ⟨_, rfl⟩
      rw [← he] at k0 k1 k2
      have HE := Lib.hid he
      obtain ⟨qa, hqa⟩ : ∃ qa, qa = Op.bytesLess e.k a := ⟨_, rfl⟩
      have fqa : Op.bytesLess (strB e.k).toList (strB a).toList = qa := by rw [strB_toList, strB_toList, hqa]
      obtain ⟨qb, hqb⟩ : ∃ qb, qb = Op.bytesLess e.k b := ⟨_, rfl⟩
      have fqb : Op.bytesLess (strB e.k).toList (strB b).toList = qb := by rw [strB_toList, strB_toList, hqb]
      have HP := Lib.hid (show inR a b e = (!qa && (be || qb)) from by unfold inR; rw [hqa, hqb, HBE.out])
      clear he hqa hqb hlt
      cases qa with
      | true =>
        have HF := Lib.hid (show (l.take (j + 1)).filter (inR a b) = (l.take j).filter (inR a b) from by
          rw [List.take_succ_eq_append_getElem HJL.out.1, List.filter_append, ← HE.out]
          simp [HP.out])
        go_wp2_with fail
        go_roundw
        case rel => exact ⟨j + 1, A1, c1, m, HJL.out.2, by go_num, rfl, by rw [HF.out]; exact hm.out, by rw [HF.out]; exact hinv.out⟩
        case measure => have := HJL.out; simp [intOf]; omega
      | false =>
        cases be with
        | true =>
          have HF := Lib.hid (show (l.take (j + 1)).filter (inR a b) = (l.take j).filter (inR a b) ++ [e] from by
            rw [List.take_succ_eq_append_getElem HJL.out.1, List.filter_append, ← HE.out]
            simp [HP.out])
          have hka : Keeps [] wr (wr.alloc (.cells #[.string (strB e.k), .string (strB e.v), .bool e.g] 27)) := (Keeps.refl [] wr).alloc _
          have HRR := Lib.hid (show (wr.alloc (.cells #[.string (strB e.k), .string (strB e.v), .bool e.g] 27)).ownsRow 0 27 3 (.slice A1 m c1) m (encEn ((l.take j).filter (inR a b))) ∧ Rd (wr.alloc (.cells #[.string (strB e.k), .string (strB e.v), .bool e.g] 27)) (some ⟨wr.heap.size, 0, none⟩) 1 3 e.cells ∧ Keeps [] w (wr.alloc (.cells #[.string (strB e.k), .string (strB e.v), .bool e.g] 27)) from ⟨ownsRow_keeps hinv.out.1 hka (by simp), rd_rowN (xs := e.cells) (heap_alloc_new _ _) rfl, hinv.out.2.1.trans hka (by simp)⟩)
          have HML := Lib.hid (show m + 1 ≤ maxLen ∧ (m + 1) * 40 ≤ 140737488355328 from by
            have h1 : m ≤ 10000 := by rw [hm.out]; have := List.length_filter_le (inR a b) (l.take j); rw [List.length_take] at this; omega
            unfold maxLen; omega)
          clear hka
          go_wp2_with (at_builtin; refine wpList_appendV rfl (.tmp 35) (.tmp 40) 22 27 rfl Try.underlying22 _ 3 40 infoEn rfl (by decide) A1 c1 m (encEn ((l.take j).filter (inR a b))) rfl HRR.out.1 (some ⟨wr.heap.size, 0, none⟩) 1 1 e.cells rfl HRR.out.2.1 (cells_one e) HML.out.1 HML.out.2 ?_; intro A2 c2 w2 ho2 hk2 hb2; have H2 := Lib.hid (show w2.ownsRow 0 27 3 (.slice A2 (m + 1) c2) (m + 1) (encEn ((l.take (j + 1)).filter (inR a b))) ∧ Keeps [] w w2 ∧ (∀ x, A2 = some x → w.heap.size ≤ x.block) from ⟨by rw [HF.out, encEn_append]; exact ho2, HRR.out.2.2.fresh hk2 hinv.out.2.2, fun x hx => by
            rcases hb2 x hx with h | h
            · obtain ⟨y, e1, e2⟩ := mem_blk.1 h
              rw [← e2]
              exact hinv.out.2.2 y e1
            · have := HRR.out.2.2.size
              exact Nat.le_trans this h⟩); clear ho2 hk2 hb2)
          go_roundw
          case rel => exact ⟨j + 1, A2, c2, m + 1, HJL.out.2, by go_num, rfl, (by show _ = _; rw [HF.out, List.length_append, ← hm.out]; rfl), H2.out⟩
          case measure => have := HJL.out; simp [intOf]; omega
        | false =>
          cases qb with
          | true =>
            have HF := Lib.hid (show (l.take (j + 1)).filter (inR a b) = (l.take j).filter (inR a b) ++ [e] from by
              rw [List.take_succ_eq_append_getElem HJL.out.1, List.filter_append, ← HE.out]
              simp [HP.out])
            have hka : Keeps [] wr (wr.alloc (.cells #[.string (strB e.k), .string (strB e.v), .bool e.g] 27)) := (Keeps.refl [] wr).alloc _
            have HRR := Lib.hid (show (wr.alloc (.cells #[.string (strB e.k), .string (strB e.v), .bool e.g] 27)).ownsRow 0 27 3 (.slice A1 m c1) m (encEn ((l.take j).filter (inR a b))) ∧ Rd (wr.alloc (.cells #[.string (strB e.k), .string (strB e.v), .bool e.g] 27)) (some ⟨wr.heap.size, 0, none⟩) 1 3 e.cells ∧ Keeps [] w (wr.alloc (.cells #[.string (strB e.k), .string (strB e.v), .bool e.g] 27)) from ⟨ownsRow_keeps hinv.out.1 hka (by simp), rd_rowN (xs := e.cells) (heap_alloc_new _ _) rfl, hinv.out.2.1.trans hka (by simp)⟩)
            have HML := Lib.hid (show m + 1 ≤ maxLen ∧ (m + 1) * 40 ≤ 140737488355328 from by
              have h1 : m ≤ 10000 := by rw [hm.out]; have := List.length_filter_le (inR a b) (l.take j); rw [List.length_take] at this; omega
              unfold maxLen; omega)
            clear hka
            go_wp2_with (at_builtin; refine wpList_appendV rfl (.tmp 35) (.tmp 40) 22 27 rfl Try.underlying22 _ 3 40 infoEn rfl (by decide) A1 c1 m (encEn ((l.take j).filter (inR a b))) rfl HRR.out.1 (some ⟨wr.heap.size, 0, none⟩) 1 1 e.cells rfl HRR.out.2.1 (cells_one e) HML.out.1 HML.out.2 ?_; intro A2 c2 w2 ho2 hk2 hb2; have H2 := Lib.hid (show w2.ownsRow 0 27 3 (.slice A2 (m + 1) c2) (m + 1) (encEn ((l.take (j + 1)).filter (inR a b))) ∧ Keeps [] w w2 ∧ (∀ x, A2 = some x → w.heap.size ≤ x.block) from ⟨by rw [HF.out, encEn_append]; exact ho2, HRR.out.2.2.fresh hk2 hinv.out.2.2, fun x hx => by
              rcases hb2 x hx with h | h
              · obtain ⟨y, e1, e2⟩ := mem_blk.1 h
                rw [← e2]
                exact hinv.out.2.2 y e1
              · have := HRR.out.2.2.size
                exact Nat.le_trans this h⟩); clear ho2 hk2 hb2)
            go_roundw
            case rel => exact ⟨j + 1, A2, c2, m + 1, HJL.out.2, by go_num, rfl, (by show _ = _; rw [HF.out, List.length_append, ← hm.out]; rfl), H2.out⟩
            case measure => have := HJL.out; simp [intOf]; omega
          | false =>
            have HF := Lib.hid (show (l.take (j + 1)).filter (inR a b) = (l.take j).filter (inR a b) from by
              rw [List.take_succ_eq_append_getElem HJL.out.1, List.filter_append, ← HE.out]
              simp [HP.out])
            go_wp2_with fail
            go_roundw
            case rel => exact ⟨j + 1, A1, c1, m, HJL.out.2, by go_num, rfl, by rw [HF.out]; exact hm.out, by rw [HF.out]; exact hinv.out⟩
            case measure => have := HJL.out; simp [intOf]; omega
    · have hjn : ¬ (j : Int) < (n : Int) := by omega
      have HF := Lib.hid (show (l.take j).filter (inR a b) = l.filter (inR a b) from by rw [List.take_of_length_le (by have := HN.out; omega)])
      clear hlt
      go_wp2_with fail
      go_ret
      refine ⟨A1, c1, by rw [← HF.out, ← hm.out]; rfl, by rw [← HF.out, ← hm.out]; exact hinv.out.1, hinv.out.2.1, hinv.out.2.2⟩
end Go.Proofs.Ytaedmafmflohiaa
namespace Go.Proofs.Ytaedmafmflohiaa
open Go.RowKit
theorem seq_later2 {i k : Nat} {is : List Nat} {oi ok : Oper} {l : List Oper} {p : Prop} (h : Seq (i :: (is ++ [k])) (oi :: (l ++ [ok])) p) : Seq (i :: k :: is) (oi :: ok :: l) p := h
end Go.Proofs.Ytaedmafmflohiaa
