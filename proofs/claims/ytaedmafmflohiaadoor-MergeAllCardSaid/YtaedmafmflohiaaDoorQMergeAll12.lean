/- The document's rows of entries: an entry laid in: a contract. -/
import Derived.Test.YtaedmafmflohiaaDoorQMergeAll4
import Derived.Deep.DeepCutAuto
import Derived.Laws.Cover1
namespace Go.Proofs.YtaedmafmflohiaaDoor
open Go.RowKit

set_option maxRecDepth 100000 in
set_option maxHeartbeats 16000000 in
theorem rput_any (A : Option Addr) (c : Nat) (l : List En) (e : En) (w : World) (hr : Rd w A l.length 3 (encEn l)) (hc : l.length ≤ c) (hl : l.length ≤ 10000) :
    Calls Tryd.prog 15 #[.slice A l.length c, e.val] w (NewEn (putE l e) w) := by
  have HR0 := Lib.hid hr
  obtain ⟨gb, hgb⟩ : ∃ gb, gb = w.heap.size := ⟨_, rfl⟩
  have HGB := Lib.hid hgb
  have HA0 := Lib.hid (show (w.alloc (.cells e.cells.toArray 39)).heap[gb]? = some (.cells e.cells.toArray 39 (0, 0)) from by rw [hgb]; exact heap_alloc_new _ _)
  have hval : e.val = .agg #[.string (strB e.k), .string (strB e.v), .bool e.g] := rfl
  have hcl : e.cells.toArray = #[.string (strB e.k), .string (strB e.v), .bool e.g] := rfl
  rw [hval]
  rw [hcl] at HA0
  obtain ⟨W0, hW0⟩ : ∃ W0, W0 = w.alloc (.cells #[.string (strB e.k), .string (strB e.v), .bool e.g] 39) := ⟨_, rfl⟩
  rw [← hW0] at HA0
  have HW0 := Lib.hid hW0
  have HK0 := Lib.hid (show Keeps [] w W0 by rw [hW0]; exact (Keeps.refl [] w).alloc _)
  obtain ⟨eg, heg⟩ : ∃ eg, eg = e.g := ⟨_, rfl⟩
  have HEG := Lib.hid heg
  rw [← heg] at HA0 HW0 hval ⊢
  have q2 : W0.cell? ⟨gb, 2, none⟩ = some (.bool eg) := by rw [cell_of_row _ _ _ _ _ _ HA0.out]; rfl
  have q1 : W0.cell? ⟨gb, 1, none⟩ = some (.string (strB e.v)) := by rw [cell_of_row _ _ _ _ _ _ HA0.out]; rfl
  have fz : ∀ j, W0.frozen? ⟨gb, j, none⟩ = false := fun j => frozen_of_row W0 _ j _ _ HA0.out
  obtain ⟨ne, hne⟩ : ∃ ne, ne = e.norm := ⟨_, rfl⟩
  have HNE := Lib.hid (show ne = e.norm ∧ ne.k = e.k from ⟨hne, by rw [hne, En.norm_k]⟩)
  obtain ⟨n, hn⟩ : ∃ n, n = l.length := ⟨_, rfl⟩
  have HN := Lib.hid hn
  have hgw : gb ≤ w.heap.size := by omega
  have HGW := Lib.hid hgw
  rw [← hn] at hl hc ⊢
  clear hr hgb hcl hW0 heg hval hne hn hgw
  cases eg
  case' true =>
    go_enter Tryd.func15, Tryd.ntmps15
    go_upto_region 1 with fail
    rw [← HW0.out, ← HGB.out]
    go_upto_region 3 with fail
    have HV := Lib.hid (show (W0.setCell ⟨gb, 1, none⟩ (.string ⟨#[]⟩)).heap[gb]? = some (.cells #[.string (strB ne.k), .string (strB ne.v), .bool ne.g] 39 (0, 0)) ∧ Rd (W0.setCell ⟨gb, 1, none⟩ (.string ⟨#[]⟩)) A n 3 (encEn l) ∧ Keeps [] w (W0.setCell ⟨gb, 1, none⟩ (.string ⟨#[]⟩)) from by
      have hks : Keeps [gb] W0 (W0.setCell ⟨gb, 1, none⟩ (.string ⟨#[]⟩)) := (Keeps.refl _ W0).setCell (p := ⟨gb, 1, none⟩) (.inl (by simp)) _
      have hk := HK0.out.trans hks (fun t ht => .inr (by simp at ht; have := HGB.out; omega))
      refine ⟨?_, by rw [HN.out]; exact HR0.out.keeps0 hk, hk⟩
      rw [heap_setCell_same _ gb 1 _ _ _ HA0.out, HNE.out.1]
      unfold En.norm
      rw [← HEG.out]
      rfl)
    generalize W0.setCell ⟨gb, 1, none⟩ (.string ⟨#[]⟩) = V at HV ⊢
    clear q1 q2 fz HW0 HA0 HK0
  rotate_left
  case' false =>
    go_enter Tryd.func15, Tryd.ntmps15
    go_upto_region 1 with fail
    rw [← HW0.out, ← HGB.out]
    go_upto_region 3 with fail
    have HV := Lib.hid (show W0.heap[gb]? = some (.cells #[.string (strB ne.k), .string (strB ne.v), .bool ne.g] 39 (0, 0)) ∧ Rd W0 A n 3 (encEn l) ∧ Keeps [] w W0 from by
      refine ⟨?_, by rw [HN.out]; exact HR0.out.keeps0 HK0.out, HK0.out⟩
      rw [HA0.out, HNE.out.1]
      unfold En.norm
      rw [← HEG.out]
      simp [← HEG.out])
    clear q1 q2 fz HW0 HA0 HK0
    generalize W0 = V at HV ⊢
  all_goals
    have INV := Lib.hid (show V.heap[gb]? = some (.cells #[.string (strB ne.k), .string (strB ne.v), .bool ne.g] 39 (0, 0)) ∧ Rd V A n 3 (encEn l) ∧ Keeps [] w V from HV.out)
    have INB := Lib.hid (show ∀ t (h : t < l.length), t < 0 → Op.bytesLess l[t].k ne.k = true from fun t h h2 => by omega)
    clear HV
    go_wp2_with fail
    go_loopw [6] (fun si wr => ∃ (j : Nat), j ≤ n ∧ si = .int .i64 j ∧ Hid (∀ t (h : t < l.length), t < j → Op.bytesLess l[t].k ne.k = true) ∧ Hid (wr.heap[gb]? = some (.cells #[.string (strB ne.k), .string (strB ne.v), .bool ne.g] 39 (0, 0)) ∧ Rd wr A n 3 (encEn l) ∧ Keeps [] w wr)) (fun si _ => n - (intOf si).toNat)
    case atStart => exact ⟨0, Nat.zero_le _, rfl, INB.out, INV.out⟩
    case round =>
      clear INV INB
      obtain ⟨j, hj, rfl, hb, hinv⟩ := hrel
      by_cases hlt : j < n
      · have hjn : (j : Int) < (n : Int) := by omega
        have HJL := Lib.hid (show j < l.length ∧ j < n from by have := HN.out; omega)
        have hrd : Rd wr A l.length 3 (encEn l) := by rw [← HN.out]; exact hinv.out.2.1
        obtain ⟨ga, o, hA, k0, _, _⟩ := en_cells hrd (i := j) HJL.out.1
        subst hA
        obtain ⟨kj, hkj⟩ : ∃ kj, kj = (l[j]'(HJL.out.1)).k := ⟨_, rfl⟩
        rw [← hkj] at k0
        obtain ⟨q, hq⟩ : ∃ q, q = Op.bytesLess kj ne.k := ⟨_, rfl⟩
        have fq : Op.bytesLess (strB kj).toList (strB ne.k).toList = q := by rw [strB_toList, strB_toList, hq]
        have HQ := Lib.hid (show Op.bytesLess (l[j]'(HJL.out.1)).k ne.k = q from by rw [hq, hkj])
        have HC := Lib.hid (show wr.cell? ⟨ga, o + j * 3, none⟩ = some (.string (strB kj)) ∧ wr.cell? ⟨gb, 0, none⟩ = some (.string (strB ne.k)) from ⟨k0, by rw [cell_of_row _ _ _ _ _ _ hinv.out.1]; rfl⟩)
        clear hkj hq k0 hrd hlt
        go_upto_region 5 with fail
        have qa : ∀ z : World, (z.cell? ⟨ga, o + j * 3, none⟩ = some (.string (strB kj)) ∧ z.cell? ⟨gb, 0, none⟩ = some (.string (strB ne.k))) → z.cell? ⟨ga, o + j * 3, none⟩ = some (.string (strB kj)) := fun z hz => hz.1
        have qb : ∀ z : World, (z.cell? ⟨ga, o + j * 3, none⟩ = some (.string (strB kj)) ∧ z.cell? ⟨gb, 0, none⟩ = some (.string (strB ne.k))) → z.cell? ⟨gb, 0, none⟩ = some (.string (strB ne.k)) := fun z hz => hz.2
        refine seq_start (by kernel_rfl) (fun z => z.cell? ⟨ga, o + j * 3, none⟩ = some (.string (strB kj)) ∧ z.cell? ⟨gb, 0, none⟩ = some (.string (strB ne.k))) 14 [0, 1, 2, 3, 4, 5, 6, 7, 8, 9, 10, 11, 12, 13] rfl (HC.out) (fun hS => ?_)
        refine seq_take (v := ?_) rfl (by kernel_rfl) (by kernel_rfl) (by kernel_rfl) (Or.inl ⟨by rfl, fun w' hSw => ?_⟩) (by assumption) ?_
        rotate_left
        · go_simp
          with_reducible rfl
        simp only [Act.put, List.setIfInBounds_toArray, List.set_cons_zero, List.set_cons_succ]
        refine seq_take (v := ?_) rfl (by kernel_rfl) (by kernel_rfl) (by kernel_rfl) (Or.inl ⟨by rfl, fun w' hSw => ?_⟩) (by assumption) ?_
        rotate_left
        · go_simp
          with_reducible rfl
        simp only [Act.put, List.setIfInBounds_toArray, List.set_cons_zero, List.set_cons_succ]
        refine seq_take (v := ?_) rfl (by kernel_rfl) (by kernel_rfl) (by kernel_rfl) (Or.inl ⟨by rfl, fun w' hSw => ?_⟩) (by assumption) ?_
        rotate_left
        · go_simp
          with_reducible rfl
        simp only [Act.put, List.setIfInBounds_toArray, List.set_cons_zero, List.set_cons_succ]
        refine seq_take (v := ?_) rfl (by kernel_rfl) (by kernel_rfl) (by kernel_rfl) (Or.inl ⟨by rfl, fun w' hSw => ?_⟩) (by assumption) ?_
        rotate_left
        · go_simp
          with_reducible rfl
        simp only [Act.put, List.setIfInBounds_toArray, List.set_cons_zero, List.set_cons_succ]
        refine seq_take (v := ?_) rfl (by kernel_rfl) (by kernel_rfl) (by kernel_rfl) (Or.inl ⟨by rfl, fun w' hSw => ?_⟩) (by assumption) ?_
        rotate_left
        · go_simp
          with_reducible rfl
        simp only [Act.put, List.setIfInBounds_toArray, List.set_cons_zero, List.set_cons_succ]
        refine seq_take (v := ?_) rfl (by kernel_rfl) (by kernel_rfl) (by kernel_rfl) (Or.inl ⟨by rfl, fun w' hSw => ?_⟩) (by assumption) ?_
        rotate_left
        · go_simp
          with_reducible rfl
        simp only [Act.put, List.setIfInBounds_toArray, List.set_cons_zero, List.set_cons_succ]
        refine seq_take (v := ?_) rfl (by kernel_rfl) (by kernel_rfl) (by kernel_rfl) (Or.inl ⟨by rfl, fun w' hSw => ?_⟩) (by assumption) ?_
        rotate_left
        · go_simp
          with_reducible rfl
        simp only [Act.put, List.setIfInBounds_toArray, List.set_cons_zero, List.set_cons_succ]
        refine seq_take (v := ?_) rfl (by kernel_rfl) (by kernel_rfl) (by kernel_rfl) (Or.inl ⟨by rfl, fun w' hSw => ?_⟩) (by assumption) ?_
        rotate_left
        · go_simp
          with_reducible rfl
        simp only [Act.put, List.setIfInBounds_toArray, List.set_cons_zero, List.set_cons_succ]
        refine seq_take (v := ?_) rfl (by kernel_rfl) (by kernel_rfl) (by kernel_rfl) (Or.inl ⟨by rfl, fun w' hSw => ?_⟩) (by assumption) ?_
        rotate_left
        · go_simp
          with_reducible rfl
        simp only [Act.put, List.setIfInBounds_toArray, List.set_cons_zero, List.set_cons_succ]
        refine seq_take (v := ?_) rfl (by kernel_rfl) (by kernel_rfl) (by kernel_rfl) (Or.inl ⟨by rfl, fun w' hSw => ?_⟩) (by assumption) ?_
        rotate_left
        · go_simp
          with_reducible rfl
        simp only [Act.put, List.setIfInBounds_toArray, List.set_cons_zero, List.set_cons_succ]
        refine seq_take (v := ?_) rfl (by kernel_rfl) (by kernel_rfl) (by kernel_rfl) (Or.inl ⟨by rfl, fun w' hSw => ?_⟩) (by assumption) ?_
        rotate_left
        · go_simp
          with_reducible rfl
        simp only [Act.put, List.setIfInBounds_toArray, List.set_cons_zero, List.set_cons_succ]
        refine seq_take (v := ?_) rfl (by kernel_rfl) (by kernel_rfl) (by kernel_rfl) (Or.inl ⟨by rfl, fun w' hSw => ?_⟩) (by assumption) ?_
        rotate_left
        · go_simp
          with_reducible rfl
        simp only [Act.put, List.setIfInBounds_toArray, List.set_cons_zero, List.set_cons_succ]
        refine seq_take (v := ?_) rfl (by kernel_rfl) (by kernel_rfl) (by kernel_rfl) (Or.inl ⟨by rfl, fun w' hSw => ?_⟩) (by assumption) ?_
        rotate_left
        · go_simp
          with_reducible rfl
        simp only [Act.put, List.setIfInBounds_toArray, List.set_cons_zero, List.set_cons_succ]
        refine seq_take (v := ?_) rfl (by kernel_rfl) (by kernel_rfl) (by kernel_rfl) (Or.inl ⟨by rfl, fun w' hSw => ?_⟩) (by assumption) ?_
        rotate_left
        · go_simp
          with_reducible rfl
        simp only [Act.put, List.setIfInBounds_toArray, List.set_cons_zero, List.set_cons_succ]
        refine seq_done (by kernel_rfl) ?_
        all_goals skip
        have H1 := Lib.hid (show wr.drew.heap[gb]? = some (.cells #[.string (strB ne.k), .string (strB ne.v), .bool ne.g] 39 (0, 0)) ∧ Rd wr.drew (some ⟨ga, o, none⟩) n 3 (encEn l) ∧ Keeps [] w wr.drew from ⟨hinv.out.1, hinv.out.2.1, hinv.out.2.2.drew⟩)
        clear hS qa qb HC hinv fq
        generalize wr.drew = V1 at H1 ⊢
        cases q
        case' true =>
          have HB := Lib.hid (show ∀ t (h : t < l.length), t < j + 1 → Op.bytesLess l[t].k ne.k = true from fun t h h2 => by
            by_cases e : t = j
            · subst e; exact HQ.out
            · exact hb.out t h (by omega))
          go_wp2_with fail
          go_roundw
          case rel => exact ⟨j + 1, HJL.out.2, by go_num, HB.out, H1.out⟩
          case measure => have := HJL.out; simp [intOf]; omega
        case' false =>
          obtain ⟨A, hAA⟩ : ∃ A : Option Addr, A = some ⟨ga, o, none⟩ := ⟨_, rfl⟩
          have HAA := Lib.hid hAA
          rw [← hAA] at H1 HR0 ⊢
          clear hAA
          have hlo : lo l ne.k = j := lo_spec (by have := HN.out; omega) hb.out (fun _ => HQ.out)
          have HLO := Lib.hid hlo
          clear hlo
          go_upto_region 7 with fail
          have HT0 := Lib.hid (show ∀ z : World, Rd z A n 3 (encEn l) → Rd z A j 3 (encEn (l.take j)) from fun z hz => by
            have h1 := hz.sec 0 j j (by omega) (by omega)
            rw [secA_zero] at h1
            simp only [Nat.zero_mul, List.drop_zero] at h1
            rw [← encEn_take, Nat.mul_comm 3]
            exact h1)
          have qa : ∀ z : World, (z.cell? ⟨gb, 0, none⟩ = some (.string (strB ne.k)) ∧ z.cell? ⟨gb, 1, none⟩ = some (.string (strB ne.v)) ∧ z.cell? ⟨gb, 2, none⟩ = some (.bool ne.g)) → z.cell? ⟨gb, 0, none⟩ = some (.string (strB ne.k)) := fun z hz => hz.1
          have qb : ∀ z : World, (z.cell? ⟨gb, 0, none⟩ = some (.string (strB ne.k)) ∧ z.cell? ⟨gb, 1, none⟩ = some (.string (strB ne.v)) ∧ z.cell? ⟨gb, 2, none⟩ = some (.bool ne.g)) → z.cell? ⟨gb, 1, none⟩ = some (.string (strB ne.v)) := fun z hz => hz.2.1
          have qc : ∀ z : World, (z.cell? ⟨gb, 0, none⟩ = some (.string (strB ne.k)) ∧ z.cell? ⟨gb, 1, none⟩ = some (.string (strB ne.v)) ∧ z.cell? ⟨gb, 2, none⟩ = some (.bool ne.g)) → z.cell? ⟨gb, 2, none⟩ = some (.bool ne.g) := fun z hz => hz.2.2
          have HCB := Lib.hid (show (V1.cell? ⟨gb, 0, none⟩ = some (.string (strB ne.k)) ∧ V1.cell? ⟨gb, 1, none⟩ = some (.string (strB ne.v)) ∧ V1.cell? ⟨gb, 2, none⟩ = some (.bool ne.g)) from ⟨by rw [cell_of_row _ _ _ _ _ _ H1.out.1]; rfl, by rw [cell_of_row _ _ _ _ _ _ H1.out.1]; rfl, by rw [cell_of_row _ _ _ _ _ _ H1.out.1]; rfl⟩)
          refine seq_start (by kernel_rfl) (fun z => (z.cell? ⟨gb, 0, none⟩ = some (.string (strB ne.k)) ∧ z.cell? ⟨gb, 1, none⟩ = some (.string (strB ne.v)) ∧ z.cell? ⟨gb, 2, none⟩ = some (.bool ne.g))) 9 [0, 1, 2, 3, 4, 5, 6, 7, 8] rfl (HCB.out) (fun hS => ?_)
          have H1d := Lib.hid (show V1.drew.heap[gb]? = some (.cells #[.string (strB ne.k), .string (strB ne.v), .bool ne.g] 39 (0, 0)) ∧ Rd V1.drew A n 3 (encEn l) ∧ Keeps [] w V1.drew from ⟨H1.out.1, H1.out.2.1, H1.out.2.2.drew⟩)
          have HT := Lib.hid (HT0.out _ H1d.out.2.1)
          clear H1 HCB
          generalize V1.drew = V2 at H1d HT hS ⊢
          refine seq_take (v := ?_) rfl (by kernel_rfl) (by kernel_rfl) (by kernel_rfl) (Or.inl ⟨by rfl, fun w' hSw => ?_⟩) (by assumption) ?_
          rotate_left
          · go_simp
            with_reducible rfl
          simp only [Act.put, List.setIfInBounds_toArray, List.set_cons_zero, List.set_cons_succ]
          refine seq_take (v := ?_) rfl (by kernel_rfl) (by kernel_rfl) (by kernel_rfl) (Or.inl ⟨by rfl, fun w' hSw => ?_⟩) (by assumption) ?_
          rotate_left
          · go_simp
            with_reducible rfl
          simp only [Act.put, List.setIfInBounds_toArray, List.set_cons_zero, List.set_cons_succ]
          refine seq_take (v := ?_) rfl (by kernel_rfl) (by kernel_rfl) (by kernel_rfl) (Or.inl ⟨by rfl, fun w' hSw => ?_⟩) (by assumption) ?_
          rotate_left
          · go_simp
            with_reducible rfl
          simp only [Act.put, List.setIfInBounds_toArray, List.set_cons_zero, List.set_cons_succ]
          refine seq_take (v := .slice A j c) rfl (by kernel_rfl) (by kernel_rfl) (by kernel_rfl) ?_ (by assumption) ?_
          · exact yieldsIf_sec (by rfl) 26 (.tmp 27) none (some (.tmp 28)) none (by rfl) Tryd.underlying26 infoEn3 A n c 0 j c (by rfl) Bnd.no (Bnd.at_ (k := .i64) (by rfl)) Bnd.no (by omega) (by omega) (by omega) (by simp) _ (by rw [secA_zero, Nat.sub_zero, Nat.sub_zero])
          simp only [Act.put, List.setIfInBounds_toArray, List.set_cons_zero, List.set_cons_succ]
          iterate 1 (refine seq_later ?_; simp only [List.cons_append, List.nil_append])
          refine seq_take (v := ?_) rfl (by kernel_rfl) (by kernel_rfl) (by kernel_rfl) (Or.inl ⟨by rfl, fun w' hSw => ?_⟩) (by assumption) ?_
          rotate_left
          · go_simp
            with_reducible rfl
          simp only [Act.put, List.setIfInBounds_toArray, List.set_cons_zero, List.set_cons_succ]
          iterate 3 (refine seq_later ?_; simp only [List.cons_append, List.nil_append])
          refine seq_two rfl rfl (by kernel_rfl) (by rfl) (by rfl) (fun K hK => ?_) (fun K hK => ?_)
          case' _ =>
            refine op_appendV (.tmp 26) (.tmp 29) 26 39 rfl Tryd.underlying26 _ 3 40 infoEn rfl (by decide) none 0 0 [] rfl (World.ownsRow_nil _ 0 _ _) A j c (encEn (l.take j)) rfl HT.out (encEn_one _) (by unfold maxLen; omega) (by omega) ?_
            intro A2 c2 w2 ho2 hk2 hb2
            rw [Nat.zero_add, List.nil_append] at ho2
            rw [Nat.zero_add]
            have H2 := Lib.hid (show w2.heap[gb]? = some (.cells #[.string (strB ne.k), .string (strB ne.v), .bool ne.g] 39 (0, 0)) ∧ Rd w2 A n 3 (encEn l) ∧ Keeps [] w w2 ∧ w2.ownsRow 0 39 3 (.slice A2 j c2) j (encEn (l.take j)) ∧ (∀ a, A2 = some a → w.heap.size ≤ a.block ∧ a.block ≠ gb) from by
              have hk : Keeps [] V2 w2 := hk2.mono (by simp [blk])
              refine ⟨(hk.block gb (lt_of_block H1d.out.1) (by simp)).trans H1d.out.1, H1d.out.2.1.keeps0 hk, H1d.out.2.2.trans hk (by simp), ho2, fun a ha => ?_⟩
              rcases hb2 a ha with h | h
              · simp [blk] at h
              · have h1 := H1d.out.2.2.size
                have h2 := lt_of_block H1d.out.1
                exact ⟨by omega, by omega⟩)
            clear ho2 hk2 hb2 H1d HT
            refine hK.out (fun z => (z.cell? ⟨gb, 0, none⟩ = some (.string (strB ne.k)) ∧ z.cell? ⟨gb, 1, none⟩ = some (.string (strB ne.v)) ∧ z.cell? ⟨gb, 2, none⟩ = some (.bool ne.g))) _ _ (fun _ h => h) ⟨by rw [cell_of_row _ _ _ _ _ _ H2.out.1]; rfl, by rw [cell_of_row _ _ _ _ _ _ H2.out.1]; rfl, by rw [cell_of_row _ _ _ _ _ _ H2.out.1]; rfl⟩ (fun hS => ?_)
            refine seq_do rfl (by kernel_rfl) (by rfl) (fun K hK => ?_)
            go_simp
            obtain ⟨g2, hg2⟩ : ∃ g2, g2 = w2.heap.size := ⟨_, rfl⟩
            have hka : Keeps [] w2 (w2.alloc (.cells #[.string (strB ne.k), .string (strB ne.v), .bool ne.g] 39)) := (Keeps.refl [] w2).alloc _
            have H3 := Lib.hid (show (w2.alloc (.cells #[.string (strB ne.k), .string (strB ne.v), .bool ne.g] 39)).heap[gb]? = some (.cells #[.string (strB ne.k), .string (strB ne.v), .bool ne.g] 39 (0, 0)) ∧ Rd (w2.alloc (.cells #[.string (strB ne.k), .string (strB ne.v), .bool ne.g] 39)) A n 3 (encEn l) ∧ Keeps [] w (w2.alloc (.cells #[.string (strB ne.k), .string (strB ne.v), .bool ne.g] 39)) ∧ (w2.alloc (.cells #[.string (strB ne.k), .string (strB ne.v), .bool ne.g] 39)).ownsRow 0 39 3 (.slice A2 j c2) j (encEn (l.take j)) ∧ (∀ a, A2 = some a → w.heap.size ≤ a.block ∧ a.block ≠ gb) ∧ Rd (w2.alloc (.cells #[.string (strB ne.k), .string (strB ne.v), .bool ne.g] 39)) (some ⟨g2, 0, none⟩) 1 3 ne.cells from
              ⟨(hka.block gb (lt_of_block H2.out.1) (by simp)).trans H2.out.1, H2.out.2.1.keeps0 hka, H2.out.2.2.1.trans hka (by simp), ownsRow_keeps H2.out.2.2.2.1 hka (by simp), H2.out.2.2.2.2, rd_rowN (xs := ne.cells) (by rw [hg2]; exact heap_alloc_new _ _) rfl⟩)
            rw [← hg2]
            clear hka hg2 H2
            generalize w2.alloc (.cells #[.string (strB ne.k), .string (strB ne.v), .bool ne.g] 39) = w3 at H3 ⊢
            refine hK.out (fun z => (z.cell? ⟨gb, 0, none⟩ = some (.string (strB ne.k)) ∧ z.cell? ⟨gb, 1, none⟩ = some (.string (strB ne.v)) ∧ z.cell? ⟨gb, 2, none⟩ = some (.bool ne.g))) _ _ (fun _ h => h) ⟨by rw [cell_of_row _ _ _ _ _ _ H3.out.1]; rfl, by rw [cell_of_row _ _ _ _ _ _ H3.out.1]; rfl, by rw [cell_of_row _ _ _ _ _ _ H3.out.1]; rfl⟩ (fun hS => ?_)
          rotate_left
          case' _ =>
            go_simp
            obtain ⟨g2, hg2⟩ : ∃ g2, g2 = V2.heap.size := ⟨_, rfl⟩
            have hka : Keeps [] V2 (V2.alloc (.cells #[.string (strB ne.k), .string (strB ne.v), .bool ne.g] 39)) := (Keeps.refl [] V2).alloc _
            have H2 := Lib.hid (show (V2.alloc (.cells #[.string (strB ne.k), .string (strB ne.v), .bool ne.g] 39)).heap[gb]? = some (.cells #[.string (strB ne.k), .string (strB ne.v), .bool ne.g] 39 (0, 0)) ∧ Rd (V2.alloc (.cells #[.string (strB ne.k), .string (strB ne.v), .bool ne.g] 39)) A n 3 (encEn l) ∧ Keeps [] w (V2.alloc (.cells #[.string (strB ne.k), .string (strB ne.v), .bool ne.g] 39)) ∧ (V2.alloc (.cells #[.string (strB ne.k), .string (strB ne.v), .bool ne.g] 39)).heap[g2]? = some (.cells ne.cells.toArray 39 (0, 0)) from
              ⟨(hka.block gb (lt_of_block H1d.out.1) (by simp)).trans H1d.out.1, H1d.out.2.1.keeps0 hka, H1d.out.2.2.trans hka (by simp), by rw [hg2]; exact heap_alloc_new _ _⟩)
            rw [← hg2]
            have HT := Lib.hid (HT0.out _ H2.out.2.1)
            clear hka hg2 H1d
            generalize V2.alloc (.cells #[.string (strB ne.k), .string (strB ne.v), .bool ne.g] 39) = w2 at H2 HT ⊢
            refine hK.out (fun z => (z.cell? ⟨gb, 0, none⟩ = some (.string (strB ne.k)) ∧ z.cell? ⟨gb, 1, none⟩ = some (.string (strB ne.v)) ∧ z.cell? ⟨gb, 2, none⟩ = some (.bool ne.g))) _ _ (fun _ h => h) ⟨by rw [cell_of_row _ _ _ _ _ _ H2.out.1]; rfl, by rw [cell_of_row _ _ _ _ _ _ H2.out.1]; rfl, by rw [cell_of_row _ _ _ _ _ _ H2.out.1]; rfl⟩ (fun hS => ?_)
            refine seq_do rfl (by kernel_rfl) (by rfl) (fun K hK => ?_)
            refine op_appendV (.tmp 26) (.tmp 29) 26 39 rfl Tryd.underlying26 _ 3 40 infoEn rfl (by decide) none 0 0 [] rfl (World.ownsRow_nil _ 0 _ _) A j c (encEn (l.take j)) rfl HT.out (encEn_one _) (by unfold maxLen; omega) (by omega) ?_
            intro A2 c2 w3 ho2 hk2 hb2
            rw [Nat.zero_add, List.nil_append] at ho2
            rw [Nat.zero_add]
            have H3 := Lib.hid (show w3.heap[gb]? = some (.cells #[.string (strB ne.k), .string (strB ne.v), .bool ne.g] 39 (0, 0)) ∧ Rd w3 A n 3 (encEn l) ∧ Keeps [] w w3 ∧ w3.ownsRow 0 39 3 (.slice A2 j c2) j (encEn (l.take j)) ∧ (∀ a, A2 = some a → w.heap.size ≤ a.block ∧ a.block ≠ gb) ∧ Rd w3 (some ⟨g2, 0, none⟩) 1 3 ne.cells from by
              have hk : Keeps [] w2 w3 := hk2.mono (by simp [blk])
              refine ⟨(hk.block gb (lt_of_block H2.out.1) (by simp)).trans H2.out.1, H2.out.2.1.keeps0 hk, H2.out.2.2.1.trans hk (by simp), ho2, fun a ha => ?_, rd_rowN (xs := ne.cells) ((hk.block g2 (lt_of_block H2.out.2.2.2) (by simp)).trans H2.out.2.2.2) rfl⟩
              rcases hb2 a ha with h | h
              · simp [blk] at h
              · have h1 := H2.out.2.2.1.size
                have h2 := lt_of_block H2.out.1
                exact ⟨by omega, by omega⟩)
            clear ho2 hk2 hb2 H2 HT
            refine hK.out (fun z => (z.cell? ⟨gb, 0, none⟩ = some (.string (strB ne.k)) ∧ z.cell? ⟨gb, 1, none⟩ = some (.string (strB ne.v)) ∧ z.cell? ⟨gb, 2, none⟩ = some (.bool ne.g))) _ _ (fun _ h => h) ⟨by rw [cell_of_row _ _ _ _ _ _ H3.out.1]; rfl, by rw [cell_of_row _ _ _ _ _ _ H3.out.1]; rfl, by rw [cell_of_row _ _ _ _ _ _ H3.out.1]; rfl⟩ (fun hS => ?_)
          all_goals
            refine seq_do rfl (by kernel_rfl) (by rfl) (fun K hK => ?_)
            refine op_appendV (.tmp 30) (.tmp 32) 26 39 rfl Tryd.underlying26 _ 3 40 infoEn rfl (by decide) A2 c2 j (encEn (l.take j)) rfl H3.out.2.2.2.1 (some ⟨g2, 0, none⟩) 1 1 ne.cells rfl H3.out.2.2.2.2.2 (cells_one ne) (by unfold maxLen; omega) (by omega) ?_
            intro A4 c4 w4 ho4 hk4 hb4
            have H4 := Lib.hid (show w4.heap[gb]? = some (.cells #[.string (strB ne.k), .string (strB ne.v), .bool ne.g] 39 (0, 0)) ∧ Rd w4 A n 3 (encEn l) ∧ Keeps [] w w4 ∧ w4.ownsRow 0 39 3 (.slice A4 (j + 1) c4) (j + 1) (encEn (l.take j) ++ ne.cells) ∧ (∀ a, A4 = some a → w.heap.size ≤ a.block ∧ a.block ≠ gb) from by
              have hn2 : ∀ a, A = some a → 0 < (encEn l).length → a.block ∉ blk A2 := fun a ha hp hm => by
                obtain ⟨b, e1, e2⟩ := mem_blk.1 hm
                have h1 := (H3.out.2.2.2.2.1 b e1).1
                have h2 := Rd.lt HR0.out hp ha
                omega
              have hgA : gb ∉ blk A2 := fun hm => by
                obtain ⟨a, e1, e2⟩ := mem_blk.1 hm
                exact (H3.out.2.2.2.2.1 a e1).2 e2
              refine ⟨(hk4.block gb (lt_of_block H3.out.1) hgA).trans H3.out.1, H3.out.2.1.keeps hk4 hn2, H3.out.2.2.1.fresh hk4 (fun a ha => (H3.out.2.2.2.2.1 a ha).1), ho4, fun a ha => ?_⟩
              rcases hb4 a ha with h | h
              · obtain ⟨b, e1, e2⟩ := mem_blk.1 h
                have h1 := H3.out.2.2.2.2.1 b e1
                exact ⟨by omega, by omega⟩
              · have h1 := H3.out.2.2.1.size
                have h2 := lt_of_block H3.out.1
                exact ⟨by omega, by omega⟩)
            clear ho4 hk4 hb4 H3
            refine hK.out (fun z => (z.cell? ⟨gb, 0, none⟩ = some (.string (strB ne.k)) ∧ z.cell? ⟨gb, 1, none⟩ = some (.string (strB ne.v)) ∧ z.cell? ⟨gb, 2, none⟩ = some (.bool ne.g))) _ _ (fun _ h => h) ⟨by rw [cell_of_row _ _ _ _ _ _ H4.out.1]; rfl, by rw [cell_of_row _ _ _ _ _ _ H4.out.1]; rfl, by rw [cell_of_row _ _ _ _ _ _ H4.out.1]; rfl⟩ (fun hS => ?_)
            refine seq_take (v := ?_) rfl (by kernel_rfl) (by kernel_rfl) (by kernel_rfl) (Or.inl ⟨by rfl, fun w' hSw => ?_⟩) (by assumption) ?_
            rotate_left
            · go_simp
              with_reducible rfl
            simp only [Act.put, List.setIfInBounds_toArray, List.set_cons_zero, List.set_cons_succ]
            refine seq_done (by kernel_rfl) ?_
            all_goals skip
            clear hS qa qb qc HT0
            go_upto_region 8 with fail
            have hrd4 : Rd w4 A l.length 3 (encEn l) := by rw [← HN.out]; exact H4.out.2.1
            obtain ⟨ga1, o1, hA1, k0, _, _⟩ := en_cells hrd4 (i := j) HJL.out.1
            obtain ⟨kj, hkj⟩ : ∃ kj, kj = (l[j]'(HJL.out.1)).k := ⟨_, rfl⟩
            rw [← hkj] at k0
            obtain ⟨q2, hq2⟩ : ∃ q2, q2 = (kj == ne.k) := ⟨_, rfl⟩
            have fq : ((strB kj).toList == (strB ne.k).toList) = q2 := by rw [strB_beq, hq2]
            have HH := Lib.hid (show hit l ne.k = q2 from by
              unfold hit
              rw [HLO.out, List.getElem?_eq_getElem HJL.out.1, hq2, hkj]
              rfl)
            have HC := Lib.hid (show w4.cell? ⟨ga1, o1 + j * 3, none⟩ = some (.string (strB kj)) ∧ w4.cell? ⟨gb, 0, none⟩ = some (.string (strB ne.k)) from ⟨k0, by rw [cell_of_row _ _ _ _ _ _ H4.out.1]; rfl⟩)
            rw [hA1]
            clear hkj hq2 k0 hrd4
            have qa : ∀ z : World, (z.cell? ⟨ga1, o1 + j * 3, none⟩ = some (.string (strB kj)) ∧ z.cell? ⟨gb, 0, none⟩ = some (.string (strB ne.k))) → z.cell? ⟨ga1, o1 + j * 3, none⟩ = some (.string (strB kj)) := fun z hz => hz.1
            have qb : ∀ z : World, (z.cell? ⟨ga1, o1 + j * 3, none⟩ = some (.string (strB kj)) ∧ z.cell? ⟨gb, 0, none⟩ = some (.string (strB ne.k))) → z.cell? ⟨gb, 0, none⟩ = some (.string (strB ne.k)) := fun z hz => hz.2
            refine seq_start (by kernel_rfl) (fun z => z.cell? ⟨ga1, o1 + j * 3, none⟩ = some (.string (strB kj)) ∧ z.cell? ⟨gb, 0, none⟩ = some (.string (strB ne.k))) 14 [0, 1, 2, 3, 4, 5, 6, 7, 8, 9, 10, 11, 12, 13] rfl (HC.out) (fun hS => ?_)
            refine seq_take (v := ?_) rfl (by kernel_rfl) (by kernel_rfl) (by kernel_rfl) (Or.inl ⟨by rfl, fun w' hSw => ?_⟩) (by assumption) ?_
            rotate_left
            · go_simp
              with_reducible rfl
            simp only [Act.put, List.setIfInBounds_toArray, List.set_cons_zero, List.set_cons_succ]
            refine seq_take (v := ?_) rfl (by kernel_rfl) (by kernel_rfl) (by kernel_rfl) (Or.inl ⟨by rfl, fun w' hSw => ?_⟩) (by assumption) ?_
            rotate_left
            · go_simp
              with_reducible rfl
            simp only [Act.put, List.setIfInBounds_toArray, List.set_cons_zero, List.set_cons_succ]
            refine seq_take (v := ?_) rfl (by kernel_rfl) (by kernel_rfl) (by kernel_rfl) (Or.inl ⟨by rfl, fun w' hSw => ?_⟩) (by assumption) ?_
            rotate_left
            · go_simp
              with_reducible rfl
            simp only [Act.put, List.setIfInBounds_toArray, List.set_cons_zero, List.set_cons_succ]
            refine seq_take (v := ?_) rfl (by kernel_rfl) (by kernel_rfl) (by kernel_rfl) (Or.inl ⟨by rfl, fun w' hSw => ?_⟩) (by assumption) ?_
            rotate_left
            · go_simp
              with_reducible rfl
            simp only [Act.put, List.setIfInBounds_toArray, List.set_cons_zero, List.set_cons_succ]
            refine seq_take (v := ?_) rfl (by kernel_rfl) (by kernel_rfl) (by kernel_rfl) (Or.inl ⟨by rfl, fun w' hSw => ?_⟩) (by assumption) ?_
            rotate_left
            · go_simp
              with_reducible rfl
            simp only [Act.put, List.setIfInBounds_toArray, List.set_cons_zero, List.set_cons_succ]
            refine seq_take (v := ?_) rfl (by kernel_rfl) (by kernel_rfl) (by kernel_rfl) (Or.inl ⟨by rfl, fun w' hSw => ?_⟩) (by assumption) ?_
            rotate_left
            · go_simp
              with_reducible rfl
            simp only [Act.put, List.setIfInBounds_toArray, List.set_cons_zero, List.set_cons_succ]
            refine seq_take (v := ?_) rfl (by kernel_rfl) (by kernel_rfl) (by kernel_rfl) (Or.inl ⟨by rfl, fun w' hSw => ?_⟩) (by assumption) ?_
            rotate_left
            · go_simp
              with_reducible rfl
            simp only [Act.put, List.setIfInBounds_toArray, List.set_cons_zero, List.set_cons_succ]
            refine seq_take (v := ?_) rfl (by kernel_rfl) (by kernel_rfl) (by kernel_rfl) (Or.inl ⟨by rfl, fun w' hSw => ?_⟩) (by assumption) ?_
            rotate_left
            · go_simp
              with_reducible rfl
            simp only [Act.put, List.setIfInBounds_toArray, List.set_cons_zero, List.set_cons_succ]
            refine seq_take (v := ?_) rfl (by kernel_rfl) (by kernel_rfl) (by kernel_rfl) (Or.inl ⟨by rfl, fun w' hSw => ?_⟩) (by assumption) ?_
            rotate_left
            · go_simp
              with_reducible rfl
            simp only [Act.put, List.setIfInBounds_toArray, List.set_cons_zero, List.set_cons_succ]
            refine seq_take (v := ?_) rfl (by kernel_rfl) (by kernel_rfl) (by kernel_rfl) (Or.inl ⟨by rfl, fun w' hSw => ?_⟩) (by assumption) ?_
            rotate_left
            · go_simp
              with_reducible rfl
            simp only [Act.put, List.setIfInBounds_toArray, List.set_cons_zero, List.set_cons_succ]
            refine seq_take (v := ?_) rfl (by kernel_rfl) (by kernel_rfl) (by kernel_rfl) (Or.inl ⟨by rfl, fun w' hSw => ?_⟩) (by assumption) ?_
            rotate_left
            · go_simp
              with_reducible rfl
            simp only [Act.put, List.setIfInBounds_toArray, List.set_cons_zero, List.set_cons_succ]
            refine seq_take (v := ?_) rfl (by kernel_rfl) (by kernel_rfl) (by kernel_rfl) (Or.inl ⟨by rfl, fun w' hSw => ?_⟩) (by assumption) ?_
            rotate_left
            · go_simp
              with_reducible rfl
            simp only [Act.put, List.setIfInBounds_toArray, List.set_cons_zero, List.set_cons_succ]
            refine seq_take (v := ?_) rfl (by kernel_rfl) (by kernel_rfl) (by kernel_rfl) (Or.inl ⟨by rfl, fun w' hSw => ?_⟩) (by assumption) ?_
            rotate_left
            · go_simp
              with_reducible rfl
            simp only [Act.put, List.setIfInBounds_toArray, List.set_cons_zero, List.set_cons_succ]
            refine seq_take (v := ?_) rfl (by kernel_rfl) (by kernel_rfl) (by kernel_rfl) (Or.inl ⟨by rfl, fun w' hSw => ?_⟩) (by assumption) ?_
            rotate_left
            · go_simp
              with_reducible rfl
            simp only [Act.put, List.setIfInBounds_toArray, List.set_cons_zero, List.set_cons_succ]
            refine seq_done (by kernel_rfl) ?_
            all_goals skip
            have H5 := Lib.hid (show Rd w4.drew A n 3 (encEn l) ∧ Keeps [] w w4.drew ∧ w4.drew.ownsRow 0 39 3 (.slice A4 (j + 1) c4) (j + 1) (encEn (l.take j) ++ ne.cells) ∧ (∀ a, A4 = some a → w.heap.size ≤ a.block) from ⟨H4.out.2.1, H4.out.2.2.1.drew, H4.out.2.2.2.1, fun a ha => (H4.out.2.2.2.2 a ha).1⟩)
            rw [← hA1]
            clear hS qa qb HC fq H4
            generalize w4.drew = w5 at H5 ⊢
            have hjn1 : j + 1 ≤ n := HJL.out.2
            cases q2
            case true =>
              have hsec : Rd w5 (secA A (j + 1) c 3) (n - (j + 1)) 3 (encEn (l.drop (j + 1))) := by
                have h1 := H5.out.1.sec (j + 1) (n - (j + 1)) c (by omega) (by omega)
                have hl3 := encEn_len l
                rw [List.take_of_length_le (by rw [List.length_drop]; have := HN.out; omega), Nat.mul_comm (j + 1) 3, encEn_drop] at h1
                exact h1
              have HSEC := Lib.hid hsec
              have HPE := Lib.hid (show (encEn (l.take j) ++ ne.cells) ++ encEn (l.drop (j + 1)) = encEn (putE l e) ∧ (putE l e).length = j + 1 + (n - (j + 1)) from by
                have h1 : putE l e = l.take j ++ ne :: l.drop (j + 1) := by
                  unfold putE
                  rw [← HNE.out.2, HLO.out, HH.out, ← HNE.out.1]
                  rfl
                rw [h1, encEn_append, encEn_cons, List.append_assoc]
                refine ⟨rfl, ?_⟩
                rw [List.length_append, List.length_cons, List.length_take, List.length_drop]
                have := HN.out
                omega)
              clear hsec
              go_wp2_with (first
                | (refine wpList_sec rfl 26 (.tmp 51) (some (.tmp 52)) none none rfl Tryd.underlying26 infoEn3 A n c (j + 1) n c rfl (Bnd.at_ rfl) Bnd.no Bnd.no (by omega) (by omega) (by omega) (by simp) ?_)
                | (at_builtin; refine wpList_appendV rfl (.tmp 50) (.tmp 53) 26 39 rfl Tryd.underlying26 _ 3 40 infoEn rfl (by decide) A4 c4 (j + 1) (encEn (l.take j) ++ ne.cells) rfl H5.out.2.2.1 (secA A (j + 1) c 3) (n - (j + 1)) (c - (j + 1)) (encEn (l.drop (j + 1))) rfl HSEC.out (encEn_one _) (by unfold maxLen; omega) (by omega) ?_; intro A6 c6 w6 ho6 hk6 hb6; have H6 := Lib.hid (And.intro ho6 (And.intro hk6 hb6)); clear ho6 hk6 hb6))
              go_ret
              have e0 : j + 1 + (n - (j + 1)) = n := by omega
              refine ⟨A6, c6, by rw [HPE.out.2, e0]; rfl, by rw [HPE.out.2, ← HPE.out.1]; exact H6.out.1, H5.out.2.1.fresh H6.out.2.1 H5.out.2.2.2, fun a ha => ?_⟩
              rcases H6.out.2.2 a ha with h | h
              · obtain ⟨b, e1, e2⟩ := mem_blk.1 h
                rw [← e2]
                exact H5.out.2.2.2 b e1
              · exact Nat.le_trans H5.out.2.1.size h
            case false =>
              have hsec : Rd w5 (secA A (j) c 3) (n - (j)) 3 (encEn (l.drop (j))) := by
                have h1 := H5.out.1.sec (j) (n - (j)) c (by omega) (by omega)
                have hl3 := encEn_len l
                rw [List.take_of_length_le (by rw [List.length_drop]; have := HN.out; omega), Nat.mul_comm (j) 3, encEn_drop] at h1
                exact h1
              have HSEC := Lib.hid hsec
              have HPE := Lib.hid (show (encEn (l.take j) ++ ne.cells) ++ encEn (l.drop (j)) = encEn (putE l e) ∧ (putE l e).length = j + 1 + (n - (j)) from by
                have h1 : putE l e = l.take j ++ ne :: l.drop (j) := by
                  unfold putE
                  rw [← HNE.out.2, HLO.out, HH.out, ← HNE.out.1]
                  rfl
                rw [h1, encEn_append, encEn_cons, List.append_assoc]
                refine ⟨rfl, ?_⟩
                rw [List.length_append, List.length_cons, List.length_take, List.length_drop]
                have := HN.out
                omega)
              clear hsec
              go_wp2_with (first
                | (refine wpList_sec rfl 26 (.tmp 51) (some (.tmp 52)) none none rfl Tryd.underlying26 infoEn3 A n c (j) n c rfl (Bnd.at_ rfl) Bnd.no Bnd.no (by omega) (by omega) (by omega) (by simp) ?_)
                | (at_builtin; refine wpList_appendV rfl (.tmp 50) (.tmp 53) 26 39 rfl Tryd.underlying26 _ 3 40 infoEn rfl (by decide) A4 c4 (j + 1) (encEn (l.take j) ++ ne.cells) rfl H5.out.2.2.1 (secA A (j) c 3) (n - (j)) (c - (j)) (encEn (l.drop (j))) rfl HSEC.out (encEn_one _) (by unfold maxLen; omega) (by omega) ?_; intro A6 c6 w6 ho6 hk6 hb6; have H6 := Lib.hid (And.intro ho6 (And.intro hk6 hb6)); clear ho6 hk6 hb6))
              go_ret

              refine ⟨A6, c6, by rw [HPE.out.2]; rfl, by rw [HPE.out.2, ← HPE.out.1]; exact H6.out.1, H5.out.2.1.fresh H6.out.2.1 H5.out.2.2.2, fun a ha => ?_⟩
              rcases H6.out.2.2 a ha with h | h
              · obtain ⟨b, e1, e2⟩ := mem_blk.1 h
                rw [← e2]
                exact H5.out.2.2.2 b e1
              · exact Nat.le_trans H5.out.2.1.size h
      · have hjn : ¬ (j : Int) < (n : Int) := by omega
        go_upto_region 5 with fail
        refine seq_start (by kernel_rfl) (fun _ => True) 14 [0, 1, 2, 3, 4, 5, 6, 7, 8, 9, 10, 11, 12, 13] rfl (trivial) (fun hS => ?_)
        refine seq_take (v := ?_) rfl (by kernel_rfl) (by kernel_rfl) (by kernel_rfl) (Or.inl ⟨by rfl, fun w' hSw => ?_⟩) (by assumption) ?_
        rotate_left
        · go_simp
          with_reducible rfl
        simp only [Act.put, List.setIfInBounds_toArray, List.set_cons_zero, List.set_cons_succ]
        refine seq_take (v := ?_) rfl (by kernel_rfl) (by kernel_rfl) (by kernel_rfl) (Or.inl ⟨by rfl, fun w' hSw => ?_⟩) (by assumption) ?_
        rotate_left
        · go_simp
          with_reducible rfl
        simp only [Act.put, List.setIfInBounds_toArray, List.set_cons_zero, List.set_cons_succ]
        refine seq_take (v := ?_) rfl (by kernel_rfl) (by kernel_rfl) (by kernel_rfl) (Or.inl ⟨by rfl, fun w' hSw => ?_⟩) (by assumption) ?_
        rotate_left
        · go_simp
          with_reducible rfl
        simp only [Act.put, List.setIfInBounds_toArray, List.set_cons_zero, List.set_cons_succ]
        refine seq_take (v := ?_) rfl (by kernel_rfl) (by kernel_rfl) (by kernel_rfl) (Or.inl ⟨by rfl, fun w' hSw => ?_⟩) (by assumption) ?_
        rotate_left
        · go_simp
          with_reducible rfl
        simp only [Act.put, List.setIfInBounds_toArray, List.set_cons_zero, List.set_cons_succ]
        refine seq_take (v := ?_) rfl (by kernel_rfl) (by kernel_rfl) (by kernel_rfl) (Or.inl ⟨by rfl, fun w' hSw => ?_⟩) (by assumption) ?_
        rotate_left
        · go_simp
          with_reducible rfl
        simp only [Act.put, List.setIfInBounds_toArray, List.set_cons_zero, List.set_cons_succ]
        refine seq_take (v := undef) rfl (by kernel_rfl) (by kernel_rfl) (by kernel_rfl) (Or.inr ⟨by rfl, rfl⟩) (by assumption) ?_
        simp only [Act.put, List.setIfInBounds_toArray, List.set_cons_zero, List.set_cons_succ]
        refine seq_take (v := undef) rfl (by kernel_rfl) (by kernel_rfl) (by kernel_rfl) (Or.inr ⟨by rfl, rfl⟩) (by assumption) ?_
        simp only [Act.put, List.setIfInBounds_toArray, List.set_cons_zero, List.set_cons_succ]
        refine seq_take (v := undef) rfl (by kernel_rfl) (by kernel_rfl) (by kernel_rfl) (Or.inr ⟨by rfl, rfl⟩) (by assumption) ?_
        simp only [Act.put, List.setIfInBounds_toArray, List.set_cons_zero, List.set_cons_succ]
        refine seq_take (v := undef) rfl (by kernel_rfl) (by kernel_rfl) (by kernel_rfl) (Or.inr ⟨by rfl, rfl⟩) (by assumption) ?_
        simp only [Act.put, List.setIfInBounds_toArray, List.set_cons_zero, List.set_cons_succ]
        refine seq_take (v := undef) rfl (by kernel_rfl) (by kernel_rfl) (by kernel_rfl) (Or.inr ⟨by rfl, rfl⟩) (by assumption) ?_
        simp only [Act.put, List.setIfInBounds_toArray, List.set_cons_zero, List.set_cons_succ]
        refine seq_take (v := undef) rfl (by kernel_rfl) (by kernel_rfl) (by kernel_rfl) (Or.inr ⟨by rfl, rfl⟩) (by assumption) ?_
        simp only [Act.put, List.setIfInBounds_toArray, List.set_cons_zero, List.set_cons_succ]
        refine seq_take (v := undef) rfl (by kernel_rfl) (by kernel_rfl) (by kernel_rfl) (Or.inr ⟨by rfl, rfl⟩) (by assumption) ?_
        simp only [Act.put, List.setIfInBounds_toArray, List.set_cons_zero, List.set_cons_succ]
        refine seq_take (v := undef) rfl (by kernel_rfl) (by kernel_rfl) (by kernel_rfl) (Or.inr ⟨by rfl, rfl⟩) (by assumption) ?_
        simp only [Act.put, List.setIfInBounds_toArray, List.set_cons_zero, List.set_cons_succ]
        refine seq_take (v := ?_) rfl (by kernel_rfl) (by kernel_rfl) (by kernel_rfl) (Or.inl ⟨by rfl, fun w' hSw => ?_⟩) (by assumption) ?_
        rotate_left
        · go_simp
          with_reducible rfl
        simp only [Act.put, List.setIfInBounds_toArray, List.set_cons_zero, List.set_cons_succ]
        refine seq_done (by kernel_rfl) ?_
        all_goals skip
        have H1 := Lib.hid (show wr.drew.heap[gb]? = some (.cells #[.string (strB ne.k), .string (strB ne.v), .bool ne.g] 39 (0, 0)) ∧ Rd wr.drew A n 3 (encEn l) ∧ Keeps [] w wr.drew from ⟨hinv.out.1, hinv.out.2.1, hinv.out.2.2.drew⟩)
        have hlo : lo l ne.k = j := lo_spec (by have := HN.out; omega) hb.out (fun h => absurd h (by have := HN.out; omega))
        clear hS hinv
        generalize wr.drew = V1 at H1 ⊢
        have HLO := Lib.hid hlo
        clear hlo
        go_upto_region 7 with fail
        have HT0 := Lib.hid (show ∀ z : World, Rd z A n 3 (encEn l) → Rd z A j 3 (encEn (l.take j)) from fun z hz => by
          have h1 := hz.sec 0 j j (by omega) (by omega)
          rw [secA_zero] at h1
          simp only [Nat.zero_mul, List.drop_zero] at h1
          rw [← encEn_take, Nat.mul_comm 3]
          exact h1)
        have qa : ∀ z : World, (z.cell? ⟨gb, 0, none⟩ = some (.string (strB ne.k)) ∧ z.cell? ⟨gb, 1, none⟩ = some (.string (strB ne.v)) ∧ z.cell? ⟨gb, 2, none⟩ = some (.bool ne.g)) → z.cell? ⟨gb, 0, none⟩ = some (.string (strB ne.k)) := fun z hz => hz.1
        have qb : ∀ z : World, (z.cell? ⟨gb, 0, none⟩ = some (.string (strB ne.k)) ∧ z.cell? ⟨gb, 1, none⟩ = some (.string (strB ne.v)) ∧ z.cell? ⟨gb, 2, none⟩ = some (.bool ne.g)) → z.cell? ⟨gb, 1, none⟩ = some (.string (strB ne.v)) := fun z hz => hz.2.1
        have qc : ∀ z : World, (z.cell? ⟨gb, 0, none⟩ = some (.string (strB ne.k)) ∧ z.cell? ⟨gb, 1, none⟩ = some (.string (strB ne.v)) ∧ z.cell? ⟨gb, 2, none⟩ = some (.bool ne.g)) → z.cell? ⟨gb, 2, none⟩ = some (.bool ne.g) := fun z hz => hz.2.2
        have HCB := Lib.hid (show (V1.cell? ⟨gb, 0, none⟩ = some (.string (strB ne.k)) ∧ V1.cell? ⟨gb, 1, none⟩ = some (.string (strB ne.v)) ∧ V1.cell? ⟨gb, 2, none⟩ = some (.bool ne.g)) from ⟨by rw [cell_of_row _ _ _ _ _ _ H1.out.1]; rfl, by rw [cell_of_row _ _ _ _ _ _ H1.out.1]; rfl, by rw [cell_of_row _ _ _ _ _ _ H1.out.1]; rfl⟩)
        refine seq_start (by kernel_rfl) (fun z => (z.cell? ⟨gb, 0, none⟩ = some (.string (strB ne.k)) ∧ z.cell? ⟨gb, 1, none⟩ = some (.string (strB ne.v)) ∧ z.cell? ⟨gb, 2, none⟩ = some (.bool ne.g))) 9 [0, 1, 2, 3, 4, 5, 6, 7, 8] rfl (HCB.out) (fun hS => ?_)
        have H1d := Lib.hid (show V1.drew.heap[gb]? = some (.cells #[.string (strB ne.k), .string (strB ne.v), .bool ne.g] 39 (0, 0)) ∧ Rd V1.drew A n 3 (encEn l) ∧ Keeps [] w V1.drew from ⟨H1.out.1, H1.out.2.1, H1.out.2.2.drew⟩)
        have HT := Lib.hid (HT0.out _ H1d.out.2.1)
        clear H1 HCB
        generalize V1.drew = V2 at H1d HT hS ⊢
        refine seq_take (v := ?_) rfl (by kernel_rfl) (by kernel_rfl) (by kernel_rfl) (Or.inl ⟨by rfl, fun w' hSw => ?_⟩) (by assumption) ?_
        rotate_left
        · go_simp
          with_reducible rfl
        simp only [Act.put, List.setIfInBounds_toArray, List.set_cons_zero, List.set_cons_succ]
        refine seq_take (v := ?_) rfl (by kernel_rfl) (by kernel_rfl) (by kernel_rfl) (Or.inl ⟨by rfl, fun w' hSw => ?_⟩) (by assumption) ?_
        rotate_left
        · go_simp
          with_reducible rfl
        simp only [Act.put, List.setIfInBounds_toArray, List.set_cons_zero, List.set_cons_succ]
        refine seq_take (v := ?_) rfl (by kernel_rfl) (by kernel_rfl) (by kernel_rfl) (Or.inl ⟨by rfl, fun w' hSw => ?_⟩) (by assumption) ?_
        rotate_left
        · go_simp
          with_reducible rfl
        simp only [Act.put, List.setIfInBounds_toArray, List.set_cons_zero, List.set_cons_succ]
        refine seq_take (v := .slice A j c) rfl (by kernel_rfl) (by kernel_rfl) (by kernel_rfl) ?_ (by assumption) ?_
        · exact yieldsIf_sec (by rfl) 26 (.tmp 27) none (some (.tmp 28)) none (by rfl) Tryd.underlying26 infoEn3 A n c 0 j c (by rfl) Bnd.no (Bnd.at_ (k := .i64) (by rfl)) Bnd.no (by omega) (by omega) (by omega) (by simp) _ (by rw [secA_zero, Nat.sub_zero, Nat.sub_zero])
        simp only [Act.put, List.setIfInBounds_toArray, List.set_cons_zero, List.set_cons_succ]
        iterate 1 (refine seq_later ?_; simp only [List.cons_append, List.nil_append])
        refine seq_take (v := ?_) rfl (by kernel_rfl) (by kernel_rfl) (by kernel_rfl) (Or.inl ⟨by rfl, fun w' hSw => ?_⟩) (by assumption) ?_
        rotate_left
        · go_simp
          with_reducible rfl
        simp only [Act.put, List.setIfInBounds_toArray, List.set_cons_zero, List.set_cons_succ]
        iterate 3 (refine seq_later ?_; simp only [List.cons_append, List.nil_append])
        refine seq_two rfl rfl (by kernel_rfl) (by rfl) (by rfl) (fun K hK => ?_) (fun K hK => ?_)
        case' _ =>
          refine op_appendV (.tmp 26) (.tmp 29) 26 39 rfl Tryd.underlying26 _ 3 40 infoEn rfl (by decide) none 0 0 [] rfl (World.ownsRow_nil _ 0 _ _) A j c (encEn (l.take j)) rfl HT.out (encEn_one _) (by unfold maxLen; omega) (by omega) ?_
          intro A2 c2 w2 ho2 hk2 hb2
          rw [Nat.zero_add, List.nil_append] at ho2
          rw [Nat.zero_add]
          have H2 := Lib.hid (show w2.heap[gb]? = some (.cells #[.string (strB ne.k), .string (strB ne.v), .bool ne.g] 39 (0, 0)) ∧ Rd w2 A n 3 (encEn l) ∧ Keeps [] w w2 ∧ w2.ownsRow 0 39 3 (.slice A2 j c2) j (encEn (l.take j)) ∧ (∀ a, A2 = some a → w.heap.size ≤ a.block ∧ a.block ≠ gb) from by
            have hk : Keeps [] V2 w2 := hk2.mono (by simp [blk])
            refine ⟨(hk.block gb (lt_of_block H1d.out.1) (by simp)).trans H1d.out.1, H1d.out.2.1.keeps0 hk, H1d.out.2.2.trans hk (by simp), ho2, fun a ha => ?_⟩
            rcases hb2 a ha with h | h
            · simp [blk] at h
            · have h1 := H1d.out.2.2.size
              have h2 := lt_of_block H1d.out.1
              exact ⟨by omega, by omega⟩)
          clear ho2 hk2 hb2 H1d HT
          refine hK.out (fun z => (z.cell? ⟨gb, 0, none⟩ = some (.string (strB ne.k)) ∧ z.cell? ⟨gb, 1, none⟩ = some (.string (strB ne.v)) ∧ z.cell? ⟨gb, 2, none⟩ = some (.bool ne.g))) _ _ (fun _ h => h) ⟨by rw [cell_of_row _ _ _ _ _ _ H2.out.1]; rfl, by rw [cell_of_row _ _ _ _ _ _ H2.out.1]; rfl, by rw [cell_of_row _ _ _ _ _ _ H2.out.1]; rfl⟩ (fun hS => ?_)
          refine seq_do rfl (by kernel_rfl) (by rfl) (fun K hK => ?_)
          go_simp
          obtain ⟨g2, hg2⟩ : ∃ g2, g2 = w2.heap.size := ⟨_, rfl⟩
          have hka : Keeps [] w2 (w2.alloc (.cells #[.string (strB ne.k), .string (strB ne.v), .bool ne.g] 39)) := (Keeps.refl [] w2).alloc _
          have H3 := Lib.hid (show (w2.alloc (.cells #[.string (strB ne.k), .string (strB ne.v), .bool ne.g] 39)).heap[gb]? = some (.cells #[.string (strB ne.k), .string (strB ne.v), .bool ne.g] 39 (0, 0)) ∧ Rd (w2.alloc (.cells #[.string (strB ne.k), .string (strB ne.v), .bool ne.g] 39)) A n 3 (encEn l) ∧ Keeps [] w (w2.alloc (.cells #[.string (strB ne.k), .string (strB ne.v), .bool ne.g] 39)) ∧ (w2.alloc (.cells #[.string (strB ne.k), .string (strB ne.v), .bool ne.g] 39)).ownsRow 0 39 3 (.slice A2 j c2) j (encEn (l.take j)) ∧ (∀ a, A2 = some a → w.heap.size ≤ a.block ∧ a.block ≠ gb) ∧ Rd (w2.alloc (.cells #[.string (strB ne.k), .string (strB ne.v), .bool ne.g] 39)) (some ⟨g2, 0, none⟩) 1 3 ne.cells from
            ⟨(hka.block gb (lt_of_block H2.out.1) (by simp)).trans H2.out.1, H2.out.2.1.keeps0 hka, H2.out.2.2.1.trans hka (by simp), ownsRow_keeps H2.out.2.2.2.1 hka (by simp), H2.out.2.2.2.2, rd_rowN (xs := ne.cells) (by rw [hg2]; exact heap_alloc_new _ _) rfl⟩)
          rw [← hg2]
          clear hka hg2 H2
          generalize w2.alloc (.cells #[.string (strB ne.k), .string (strB ne.v), .bool ne.g] 39) = w3 at H3 ⊢
          refine hK.out (fun z => (z.cell? ⟨gb, 0, none⟩ = some (.string (strB ne.k)) ∧ z.cell? ⟨gb, 1, none⟩ = some (.string (strB ne.v)) ∧ z.cell? ⟨gb, 2, none⟩ = some (.bool ne.g))) _ _ (fun _ h => h) ⟨by rw [cell_of_row _ _ _ _ _ _ H3.out.1]; rfl, by rw [cell_of_row _ _ _ _ _ _ H3.out.1]; rfl, by rw [cell_of_row _ _ _ _ _ _ H3.out.1]; rfl⟩ (fun hS => ?_)
        rotate_left
        case' _ =>
          go_simp
          obtain ⟨g2, hg2⟩ : ∃ g2, g2 = V2.heap.size := ⟨_, rfl⟩
          have hka : Keeps [] V2 (V2.alloc (.cells #[.string (strB ne.k), .string (strB ne.v), .bool ne.g] 39)) := (Keeps.refl [] V2).alloc _
          have H2 := Lib.hid (show (V2.alloc (.cells #[.string (strB ne.k), .string (strB ne.v), .bool ne.g] 39)).heap[gb]? = some (.cells #[.string (strB ne.k), .string (strB ne.v), .bool ne.g] 39 (0, 0)) ∧ Rd (V2.alloc (.cells #[.string (strB ne.k), .string (strB ne.v), .bool ne.g] 39)) A n 3 (encEn l) ∧ Keeps [] w (V2.alloc (.cells #[.string (strB ne.k), .string (strB ne.v), .bool ne.g] 39)) ∧ (V2.alloc (.cells #[.string (strB ne.k), .string (strB ne.v), .bool ne.g] 39)).heap[g2]? = some (.cells ne.cells.toArray 39 (0, 0)) from
            ⟨(hka.block gb (lt_of_block H1d.out.1) (by simp)).trans H1d.out.1, H1d.out.2.1.keeps0 hka, H1d.out.2.2.trans hka (by simp), by rw [hg2]; exact heap_alloc_new _ _⟩)
          rw [← hg2]
          have HT := Lib.hid (HT0.out _ H2.out.2.1)
          clear hka hg2 H1d
          generalize V2.alloc (.cells #[.string (strB ne.k), .string (strB ne.v), .bool ne.g] 39) = w2 at H2 HT ⊢
          refine hK.out (fun z => (z.cell? ⟨gb, 0, none⟩ = some (.string (strB ne.k)) ∧ z.cell? ⟨gb, 1, none⟩ = some (.string (strB ne.v)) ∧ z.cell? ⟨gb, 2, none⟩ = some (.bool ne.g))) _ _ (fun _ h => h) ⟨by rw [cell_of_row _ _ _ _ _ _ H2.out.1]; rfl, by rw [cell_of_row _ _ _ _ _ _ H2.out.1]; rfl, by rw [cell_of_row _ _ _ _ _ _ H2.out.1]; rfl⟩ (fun hS => ?_)
          refine seq_do rfl (by kernel_rfl) (by rfl) (fun K hK => ?_)
          refine op_appendV (.tmp 26) (.tmp 29) 26 39 rfl Tryd.underlying26 _ 3 40 infoEn rfl (by decide) none 0 0 [] rfl (World.ownsRow_nil _ 0 _ _) A j c (encEn (l.take j)) rfl HT.out (encEn_one _) (by unfold maxLen; omega) (by omega) ?_
          intro A2 c2 w3 ho2 hk2 hb2
          rw [Nat.zero_add, List.nil_append] at ho2
          rw [Nat.zero_add]
          have H3 := Lib.hid (show w3.heap[gb]? = some (.cells #[.string (strB ne.k), .string (strB ne.v), .bool ne.g] 39 (0, 0)) ∧ Rd w3 A n 3 (encEn l) ∧ Keeps [] w w3 ∧ w3.ownsRow 0 39 3 (.slice A2 j c2) j (encEn (l.take j)) ∧ (∀ a, A2 = some a → w.heap.size ≤ a.block ∧ a.block ≠ gb) ∧ Rd w3 (some ⟨g2, 0, none⟩) 1 3 ne.cells from by
            have hk : Keeps [] w2 w3 := hk2.mono (by simp [blk])
            refine ⟨(hk.block gb (lt_of_block H2.out.1) (by simp)).trans H2.out.1, H2.out.2.1.keeps0 hk, H2.out.2.2.1.trans hk (by simp), ho2, fun a ha => ?_, rd_rowN (xs := ne.cells) ((hk.block g2 (lt_of_block H2.out.2.2.2) (by simp)).trans H2.out.2.2.2) rfl⟩
            rcases hb2 a ha with h | h
            · simp [blk] at h
            · have h1 := H2.out.2.2.1.size
              have h2 := lt_of_block H2.out.1
              exact ⟨by omega, by omega⟩)
          clear ho2 hk2 hb2 H2 HT
          refine hK.out (fun z => (z.cell? ⟨gb, 0, none⟩ = some (.string (strB ne.k)) ∧ z.cell? ⟨gb, 1, none⟩ = some (.string (strB ne.v)) ∧ z.cell? ⟨gb, 2, none⟩ = some (.bool ne.g))) _ _ (fun _ h => h) ⟨by rw [cell_of_row _ _ _ _ _ _ H3.out.1]; rfl, by rw [cell_of_row _ _ _ _ _ _ H3.out.1]; rfl, by rw [cell_of_row _ _ _ _ _ _ H3.out.1]; rfl⟩ (fun hS => ?_)
        all_goals
          refine seq_do rfl (by kernel_rfl) (by rfl) (fun K hK => ?_)
          refine op_appendV (.tmp 30) (.tmp 32) 26 39 rfl Tryd.underlying26 _ 3 40 infoEn rfl (by decide) A2 c2 j (encEn (l.take j)) rfl H3.out.2.2.2.1 (some ⟨g2, 0, none⟩) 1 1 ne.cells rfl H3.out.2.2.2.2.2 (cells_one ne) (by unfold maxLen; omega) (by omega) ?_
          intro A4 c4 w4 ho4 hk4 hb4
          have H4 := Lib.hid (show w4.heap[gb]? = some (.cells #[.string (strB ne.k), .string (strB ne.v), .bool ne.g] 39 (0, 0)) ∧ Rd w4 A n 3 (encEn l) ∧ Keeps [] w w4 ∧ w4.ownsRow 0 39 3 (.slice A4 (j + 1) c4) (j + 1) (encEn (l.take j) ++ ne.cells) ∧ (∀ a, A4 = some a → w.heap.size ≤ a.block ∧ a.block ≠ gb) from by
            have hn2 : ∀ a, A = some a → 0 < (encEn l).length → a.block ∉ blk A2 := fun a ha hp hm => by
              obtain ⟨b, e1, e2⟩ := mem_blk.1 hm
              have h1 := (H3.out.2.2.2.2.1 b e1).1
              have h2 := Rd.lt HR0.out hp ha
              omega
            have hgA : gb ∉ blk A2 := fun hm => by
              obtain ⟨a, e1, e2⟩ := mem_blk.1 hm
              exact (H3.out.2.2.2.2.1 a e1).2 e2
            refine ⟨(hk4.block gb (lt_of_block H3.out.1) hgA).trans H3.out.1, H3.out.2.1.keeps hk4 hn2, H3.out.2.2.1.fresh hk4 (fun a ha => (H3.out.2.2.2.2.1 a ha).1), ho4, fun a ha => ?_⟩
            rcases hb4 a ha with h | h
            · obtain ⟨b, e1, e2⟩ := mem_blk.1 h
              have h1 := H3.out.2.2.2.2.1 b e1
              exact ⟨by omega, by omega⟩
            · have h1 := H3.out.2.2.1.size
              have h2 := lt_of_block H3.out.1
              exact ⟨by omega, by omega⟩)
          clear ho4 hk4 hb4 H3
          refine hK.out (fun z => (z.cell? ⟨gb, 0, none⟩ = some (.string (strB ne.k)) ∧ z.cell? ⟨gb, 1, none⟩ = some (.string (strB ne.v)) ∧ z.cell? ⟨gb, 2, none⟩ = some (.bool ne.g))) _ _ (fun _ h => h) ⟨by rw [cell_of_row _ _ _ _ _ _ H4.out.1]; rfl, by rw [cell_of_row _ _ _ _ _ _ H4.out.1]; rfl, by rw [cell_of_row _ _ _ _ _ _ H4.out.1]; rfl⟩ (fun hS => ?_)
          refine seq_take (v := ?_) rfl (by kernel_rfl) (by kernel_rfl) (by kernel_rfl) (Or.inl ⟨by rfl, fun w' hSw => ?_⟩) (by assumption) ?_
          rotate_left
          · go_simp
            with_reducible rfl
          simp only [Act.put, List.setIfInBounds_toArray, List.set_cons_zero, List.set_cons_succ]
          refine seq_done (by kernel_rfl) ?_
          all_goals skip
          clear hS qa qb qc HT0
          go_upto_region 8 with fail
          refine seq_start (by kernel_rfl) (fun _ => True) 14 [0, 1, 2, 3, 4, 5, 6, 7, 8, 9, 10, 11, 12, 13] rfl (trivial) (fun hS => ?_)
          refine seq_take (v := ?_) rfl (by kernel_rfl) (by kernel_rfl) (by kernel_rfl) (Or.inl ⟨by rfl, fun w' hSw => ?_⟩) (by assumption) ?_
          rotate_left
          · go_simp
            with_reducible rfl
          simp only [Act.put, List.setIfInBounds_toArray, List.set_cons_zero, List.set_cons_succ]
          refine seq_take (v := ?_) rfl (by kernel_rfl) (by kernel_rfl) (by kernel_rfl) (Or.inl ⟨by rfl, fun w' hSw => ?_⟩) (by assumption) ?_
          rotate_left
          · go_simp
            with_reducible rfl
          simp only [Act.put, List.setIfInBounds_toArray, List.set_cons_zero, List.set_cons_succ]
          refine seq_take (v := ?_) rfl (by kernel_rfl) (by kernel_rfl) (by kernel_rfl) (Or.inl ⟨by rfl, fun w' hSw => ?_⟩) (by assumption) ?_
          rotate_left
          · go_simp
            with_reducible rfl
          simp only [Act.put, List.setIfInBounds_toArray, List.set_cons_zero, List.set_cons_succ]
          refine seq_take (v := ?_) rfl (by kernel_rfl) (by kernel_rfl) (by kernel_rfl) (Or.inl ⟨by rfl, fun w' hSw => ?_⟩) (by assumption) ?_
          rotate_left
          · go_simp
            with_reducible rfl
          simp only [Act.put, List.setIfInBounds_toArray, List.set_cons_zero, List.set_cons_succ]
          refine seq_take (v := ?_) rfl (by kernel_rfl) (by kernel_rfl) (by kernel_rfl) (Or.inl ⟨by rfl, fun w' hSw => ?_⟩) (by assumption) ?_
          rotate_left
          · go_simp
            with_reducible rfl
          simp only [Act.put, List.setIfInBounds_toArray, List.set_cons_zero, List.set_cons_succ]
          refine seq_take (v := undef) rfl (by kernel_rfl) (by kernel_rfl) (by kernel_rfl) (Or.inr ⟨by rfl, rfl⟩) (by assumption) ?_
          simp only [Act.put, List.setIfInBounds_toArray, List.set_cons_zero, List.set_cons_succ]
          refine seq_take (v := undef) rfl (by kernel_rfl) (by kernel_rfl) (by kernel_rfl) (Or.inr ⟨by rfl, rfl⟩) (by assumption) ?_
          simp only [Act.put, List.setIfInBounds_toArray, List.set_cons_zero, List.set_cons_succ]
          refine seq_take (v := undef) rfl (by kernel_rfl) (by kernel_rfl) (by kernel_rfl) (Or.inr ⟨by rfl, rfl⟩) (by assumption) ?_
          simp only [Act.put, List.setIfInBounds_toArray, List.set_cons_zero, List.set_cons_succ]
          refine seq_take (v := undef) rfl (by kernel_rfl) (by kernel_rfl) (by kernel_rfl) (Or.inr ⟨by rfl, rfl⟩) (by assumption) ?_
          simp only [Act.put, List.setIfInBounds_toArray, List.set_cons_zero, List.set_cons_succ]
          refine seq_take (v := undef) rfl (by kernel_rfl) (by kernel_rfl) (by kernel_rfl) (Or.inr ⟨by rfl, rfl⟩) (by assumption) ?_
          simp only [Act.put, List.setIfInBounds_toArray, List.set_cons_zero, List.set_cons_succ]
          refine seq_take (v := undef) rfl (by kernel_rfl) (by kernel_rfl) (by kernel_rfl) (Or.inr ⟨by rfl, rfl⟩) (by assumption) ?_
          simp only [Act.put, List.setIfInBounds_toArray, List.set_cons_zero, List.set_cons_succ]
          refine seq_take (v := undef) rfl (by kernel_rfl) (by kernel_rfl) (by kernel_rfl) (Or.inr ⟨by rfl, rfl⟩) (by assumption) ?_
          simp only [Act.put, List.setIfInBounds_toArray, List.set_cons_zero, List.set_cons_succ]
          refine seq_take (v := undef) rfl (by kernel_rfl) (by kernel_rfl) (by kernel_rfl) (Or.inr ⟨by rfl, rfl⟩) (by assumption) ?_
          simp only [Act.put, List.setIfInBounds_toArray, List.set_cons_zero, List.set_cons_succ]
          refine seq_take (v := ?_) rfl (by kernel_rfl) (by kernel_rfl) (by kernel_rfl) (Or.inl ⟨by rfl, fun w' hSw => ?_⟩) (by assumption) ?_
          rotate_left
          · go_simp
            with_reducible rfl
          simp only [Act.put, List.setIfInBounds_toArray, List.set_cons_zero, List.set_cons_succ]
          refine seq_done (by kernel_rfl) ?_
          all_goals skip
          have H5 := Lib.hid (show Rd w4.drew A n 3 (encEn l) ∧ Keeps [] w w4.drew ∧ w4.drew.ownsRow 0 39 3 (.slice A4 (j + 1) c4) (j + 1) (encEn (l.take j) ++ ne.cells) ∧ (∀ a, A4 = some a → w.heap.size ≤ a.block) from ⟨H4.out.2.1, H4.out.2.2.1.drew, H4.out.2.2.2.1, fun a ha => (H4.out.2.2.2.2 a ha).1⟩)
          have HH := Lib.hid (show hit l ne.k = false from by
            unfold hit
            rw [HLO.out, List.getElem?_eq_none (by have := HN.out; omega)]
            rfl)
          clear hS H4
          generalize w4.drew = w5 at H5 ⊢
          have hsec : Rd w5 (secA A (j) c 3) (n - (j)) 3 (encEn (l.drop (j))) := by
            have h1 := H5.out.1.sec (j) (n - (j)) c (by omega) (by omega)
            have hl3 := encEn_len l
            rw [List.take_of_length_le (by rw [List.length_drop]; have := HN.out; omega), Nat.mul_comm (j) 3, encEn_drop] at h1
            exact h1
          have HSEC := Lib.hid hsec
          have HPE := Lib.hid (show (encEn (l.take j) ++ ne.cells) ++ encEn (l.drop (j)) = encEn (putE l e) ∧ (putE l e).length = j + 1 + (n - (j)) from by
            have h1 : putE l e = l.take j ++ ne :: l.drop (j) := by
              unfold putE
              rw [← HNE.out.2, HLO.out, HH.out, ← HNE.out.1]
              rfl
            rw [h1, encEn_append, encEn_cons, List.append_assoc]
            refine ⟨rfl, ?_⟩
            rw [List.length_append, List.length_cons, List.length_take, List.length_drop]
            have := HN.out
            omega)
          clear hsec
          go_wp2_with (first
            | (refine wpList_sec rfl 26 (.tmp 51) (some (.tmp 52)) none none rfl Tryd.underlying26 infoEn3 A n c (j) n c rfl (Bnd.at_ rfl) Bnd.no Bnd.no (by omega) (by omega) (by omega) (by simp) ?_)
            | (at_builtin; refine wpList_appendV rfl (.tmp 50) (.tmp 53) 26 39 rfl Tryd.underlying26 _ 3 40 infoEn rfl (by decide) A4 c4 (j + 1) (encEn (l.take j) ++ ne.cells) rfl H5.out.2.2.1 (secA A (j) c 3) (n - (j)) (c - (j)) (encEn (l.drop (j))) rfl HSEC.out (encEn_one _) (by unfold maxLen; omega) (by omega) ?_; intro A6 c6 w6 ho6 hk6 hb6; have H6 := Lib.hid (And.intro ho6 (And.intro hk6 hb6)); clear ho6 hk6 hb6))
          go_ret

          refine ⟨A6, c6, by rw [HPE.out.2]; rfl, by rw [HPE.out.2, ← HPE.out.1]; exact H6.out.1, H5.out.2.1.fresh H6.out.2.1 H5.out.2.2.2, fun a ha => ?_⟩
          rcases H6.out.2.2 a ha with h | h
          · obtain ⟨b, e1, e2⟩ := mem_blk.1 h
            rw [← e2]
            exact H5.out.2.2.2 b e1
          · exact Nat.le_trans H5.out.2.1.size h
end Go.Proofs.YtaedmafmflohiaaDoor
