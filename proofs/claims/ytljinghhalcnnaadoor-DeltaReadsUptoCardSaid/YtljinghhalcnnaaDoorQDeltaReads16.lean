/- The law on the block that parts make: called with any base and parts it answers true. Parts of one's own, of the document's type (printed by gen_rop.py). Powers, and how many bytes a number has, by the document: contracts. -/
import Derived.Test.YtljinghhalcnnaaDoorQDeltaReads11
import Derived.Test.YtljinghhalcnnaaDoorQDeltaReads12
import Derived.Test.YtljinghhalcnnaaDoorQDeltaReads15
import Derived.Test.YtljinghhalcnnaaDoorQDeltaReads8
import Derived.Deep.DeepCutAuto
import Derived.Test.YtljinghhalcnnaaDoorQDeltaReads7
import Derived.Test.YtljinghhalcnnaaDoorQDeltaReads6
import Derived.Test.YtljinghhalcnnaaDoorProg
namespace Go.Proofs.YtljinghhalcnnaaDoor
open Go.RowKit

theorem op_store_rowK {P : Program} {w : World} {o : Oper} {a : Act} {K : Act → World → Prop} {Q : Exit → Act → World → Prop} (ty : TypeId) (x y : Operand) (ho : o.op = .store ty x y)
    (b : Nat) (cs cur : List Value) (t : TypeId) (hx : a.eval x = .pointer (some ⟨b, 0, none⟩)) (hy : a.eval y = .agg cs.toArray) (hg : w.heap[b]? = some (.cells cur.toArray t (0, 0))) (hl : cur.length = cs.length)
    (hi : (P.info? ty).map (·.size) = some cs.length) (h1 : ∀ v ∈ cs, v.oneCell' = true)
    (h : ∀ w', Hid (w'.heap[b]? = some (.cells cs.toArray t (0, 0))) → Keeps [b] w w' → K (a.put o.dst undef) w') : o.wp P a w K Q := by
  refine wp_store_mid ty x y ho b 0 cs.toArray hx hy (fun j hj => ?_) (by simpa using hi) (all_oneCell_toArray h1) ?_
  · have hj' : j < cur.length := by simp at hj; omega
    rw [Nat.zero_add]
    exact ⟨by rw [cell_of_row _ _ _ _ _ _ hg]; simp [hj'], frozen_of_row w b j _ _ hg⟩
  · refine h _ ?_ ((Keeps.refl [b] w).setCells b 0 _ (.inl (by simp)))
    show _ = _
    rw [heap_setCells_same _ b 0 w cur t hg (by simp; omega)]
    simp [hl]
def apB (base : List UInt8) (ps : List Pa) : List UInt8 := match applyE base ps with | .ok l => l | .error _ => z64
def apN (base : List UInt8) (ps : List Pa) : Int := match applyE base ps with | .ok _ => 0 | .error e => e
theorem apB_ok {base : List UInt8} {ps : List Pa} {l : List UInt8} (h : applyE base ps = .ok l) : apB base ps = l ∧ apN base ps = 0 := by unfold apB apN; rw [h]; exact ⟨rfl, rfl⟩
theorem apB_no {base : List UInt8} {ps : List Pa} {e : Int} (h : applyE base ps = .error e) : apB base ps = z64 ∧ apN base ps = e := by unfold apB apN; rw [h]; exact ⟨rfl, rfl⟩
theorem applyF_len (base : List UInt8) : ∀ (ps : List Pa) (all l : List UInt8), applyF base ps all = .ok l → l.length = 64
  | [], all, l, h => by
    unfold applyF at h
    split at h
    · injection h with h; rw [← h]; assumption
    · cases h
  | p :: ps, all, l, h => by
    unfold applyF at h
    split at h
    · cases h
    · split at h
      · cases h
      · exact applyF_len base ps _ l h
theorem apB_len (base : List UInt8) (ps : List Pa) : (apB base ps).length = 64 := by
  cases h : applyE base ps with
  | ok l => rw [(apB_ok h).1]; exact applyF_len base ps [] l h
  | error e => rw [(apB_no h).1]; rfl
theorem ApP.is {base : List UInt8} {ps : List Pa} {w : World} {r : Ending} {w' : World} (h : ApP base ps w r w') : r = .returned (.tuple #[.agg (encB (apB base ps)).toArray, errV (apN base ps)]) ∧ Keeps [] w w' := by
  obtain ⟨hk, ⟨e, he, _, hr⟩ | ⟨l, hl, _, hr⟩⟩ := h
  · obtain ⟨e1, e2⟩ := apB_no he
    rw [e1, e2]; exact ⟨hr, hk⟩
  · obtain ⟨e1, e2⟩ := apB_ok hl
    rw [e1, e2, errV_zero]; exact ⟨hr, hk⟩
theorem RApP.is {base : List UInt8} {ps : List Pa} {w : World} {r : Ending} {w' : World} (h : RApP base ps w r w') : r = .returned (.tuple #[.agg (encB (apB base ps)).toArray, .int .i64 (apN base ps)]) ∧ Keeps [] w w' := by
  obtain ⟨hk, ⟨e, he, _, hr⟩ | ⟨l, hl, _, hr⟩⟩ := h
  · obtain ⟨e1, e2⟩ := apB_no he
    rw [e1, e2]; exact ⟨hr, hk⟩
  · obtain ⟨e1, e2⟩ := apB_ok hl
    rw [e1, e2]; exact ⟨hr, hk⟩
/-- What the program's parts make. -/
theorem apply_is (base : List UInt8) (hb : base.length = 64) (A : Option Addr) (c n : Nat) (ps : List Pa) (us : List Pt) (w w0 : World) (ho : OpI w0 w A c us) (hn : us.length = n) (hu : us.map Pt.p = ps) (hf : ∀ p ∈ ps, (-9223372036854775808 ≤ p.fr ∧ p.fr ≤ 9223372036854775807) ∧ (-9223372036854775808 ≤ p.ln ∧ p.ln ≤ 9223372036854775807)) (hl : n ≤ 1000) :
    Calls Tryd.prog 9 #[.agg (encB base).toArray, .slice A n c] w fun r w' => r = .returned (.tuple #[.agg (encB (apB base ps)).toArray, errV (apN base ps)]) ∧ Keeps [] w w' := by
  subst hn hu
  exact (apply_any base hb A c us w (Rd.of_own ho.own) (fun t ht => by
    have h1 := hf t.p (List.mem_map.2 ⟨t, ht, rfl⟩)
    exact ⟨(ho.rd t ht).1.rd, h1.1, h1.2⟩) hl).mono fun _ _ h => h.is
theorem rapply_is (base : List UInt8) (hb : base.length = 64) (A : Option Addr) (c n : Nat) (ts : List Pt) (ps : List Pa) (w : World) (hn : ts.length = n) (hp : ts.map Pt.p = ps) (hr : Rd w A ts.length 4 (encPt ts)) (hf : ∀ t ∈ ts, t.fine w) (hl : n ≤ 1000) :
    Calls Tryd.prog 11 #[.agg (encB base).toArray, .slice A n c] w fun r w' => r = .returned (.tuple #[.agg (encB (apB base ps)).toArray, .int .i64 (apN base ps)]) ∧ Keeps [] w w' := by
  subst hn hp
  exact (rapply_any base hb A c ts w hr (fun t ht => ⟨(hf t ht).rd, (hf t ht).fr, (hf t ht).ln, (hf t ht).le⟩) hl).mono fun _ _ h => h.is
theorem give_is (A : Option Addr) (c n : Nat) (ts : List Pt) (ps : List Pa) (w : World) (hn : ts.length = n) (hp : ts.map Pt.p = ps) (hr : Rd w A ts.length 4 (encPt ts)) (hf : ∀ t ∈ ts, t.fine w) (hl : n ≤ 1000) :
    Calls Tryd.prog 10 #[.slice A n c] w fun r w' => ∃ A' c' us, r = .returned (.slice A' n c') ∧ OpI w w' A' c' us ∧ us.length = n ∧ us.map Pt.p = ps := by
  subst hn hp
  refine (give_any A c ts w hr hf hl).mono ?_
  rintro r w' ⟨A', c', us, hr', ho, hu⟩
  have h1 := congrArg List.length hu
  rw [List.length_map, List.length_map] at h1
  exact ⟨A', c', us, by rw [hr', h1], ho, h1, hu⟩
set_option maxRecDepth 100000 in
set_option maxHeartbeats 32000000 in
theorem applies_any (base : List UInt8) (hb : base.length = 64) (A : Option Addr) (c : Nat) (ts : List Pt) (w : World) (hr : Rd w A ts.length 4 (encPt ts)) (hf : ∀ t ∈ ts, t.fine w) (hh : HT w) :
    Calls Tryd.prog 4 #[.agg (encB base).toArray, .slice A ts.length c] w fun r w' => r = .returned (.bool true) ∧ Keeps [] w w' := by
  have HB := Lib.hid hb
  have HH := Lib.hid hh
  have HZ := Lib.hid zero64k
  obtain ⟨ps, hps⟩ : ∃ ps, ps = ts.map Pt.p := ⟨_, rfl⟩
  obtain ⟨n, hn⟩ : ∃ n, n = ts.length := ⟨_, rfl⟩
  have HN := Lib.hid (show n = ts.length ∧ ps = ts.map Pt.p from ⟨hn, hps⟩)
  have HF := Lib.hid (show ∀ p ∈ ps, (-9223372036854775808 ≤ p.fr ∧ p.fr ≤ 9223372036854775807) ∧ (-9223372036854775808 ≤ p.ln ∧ p.ln ≤ 9223372036854775807) from fun p hp => by
    rw [hps] at hp
    obtain ⟨t, ht, rfl⟩ := List.mem_map.1 hp
    exact ⟨(hf t ht).fr, (hf t ht).ln⟩)
  obtain ⟨g, hg⟩ : ∃ g, g = w.heap.size := ⟨_, rfl⟩
  obtain ⟨W, hW⟩ : ∃ W, W = w.alloc (.cells (encB base).toArray 23) := ⟨_, rfl⟩
  have HV := Lib.hid (show W.heap[g]? = some (.cells (encB base).toArray 23 (0, 0)) ∧ Keeps [] w W from ⟨by rw [hW, hg]; exact heap_alloc_new _ _, by rw [hW]; exact (Keeps.refl [] w).alloc _⟩)
  have HR := Lib.hid (And.intro hr hf)
  have HW := Lib.hid (show W = w.alloc (.cells (encB base).toArray 23) ∧ g = w.heap.size from ⟨hW, hg⟩)
  obtain ⟨B, hB⟩ : ∃ B, B = apB base ps := ⟨_, rfl⟩
  obtain ⟨E, hE⟩ : ∃ E, E = apN base ps := ⟨_, rfl⟩
  have HBE := Lib.hid (show B = apB base ps ∧ E = apN base ps from ⟨hB, hE⟩)
  have HB2 := Lib.hid (show B.length = 64 ∧ (Tryd.prog.info? 23).map (·.size) = some (encB B).toArray.size ∧ (Tryd.prog.info? 23).map (·.size) = some (encB base).toArray.size from by
    have h1 : B.length = 64 := by rw [hB]; exact apB_len _ _
    exact ⟨h1, hsz64' B h1, hsz64' base hb⟩)
  rw [← hn]
  clear hr hf hh hb hps hn hg hW hB hE
  go_enter Tryd.func4, Tryd.ntmps4
  by_cases hbig : 200 < n
  · have hbigi : (200 : Int) < (n : Int) := by omega
    clear hbig
    go_wp2_with fail
    rw [← HW.out.1]
    refine (sure10_any _).mono ?_
    rintro r w5 ⟨rfl, hk5⟩
    have H5 := Lib.hid (show Keeps [] w w5 from HV.out.2.trans hk5 (by simp))
    clear hk5
    go_wp2_with fail
    go_ret
    exact ⟨rfl, H5.out⟩
  · have hbigi : ¬ (200 : Int) < (n : Int) := by omega
    have hn1000 : n ≤ 1000 := by omega
    clear hbig
    go_upto_region 3 with fail
    rw [← HW.out.1, ← HW.out.2]
    refine seq_start (by kernel_rfl) (fun z => z.heap[g]? = some (.cells (encB base).toArray 23 (0, 0))) 10 [0, 1, 2, 3, 4, 5, 6, 7, 8, 9] rfl (HV.out.1) (fun hS => ?_)
    have HV2 := Lib.hid (show W.drew.heap[g]? = some (.cells (encB base).toArray 23 (0, 0)) ∧ Keeps [] w W.drew from ⟨HV.out.1, HV.out.2.drew⟩)
    generalize W.drew = V at HV2 hS ⊢
    refine seq_take (v := .agg (encB base).toArray) rfl (by kernel_rfl) (by kernel_rfl) (by kernel_rfl) ?_ (by assumption) ?_
    · exact yieldsIf_load_mid (by rfl) 23 (.tmp 2) (by rfl) g 0 (by rfl) (encB base) _ (fun z hz => rangeAt_row2 hz) Tryd.underlying23 rfl (hsz64 base HB.out)
    simp only [Act.put, List.setIfInBounds_toArray, List.set_cons_zero, List.set_cons_succ]
    refine seq_take (v := ?_) rfl (by kernel_rfl) (by kernel_rfl) (by kernel_rfl) (Or.inl ⟨by rfl, fun w' hSw => ?_⟩) (by assumption) ?_
    rotate_left
    · go_simp
      with_reducible rfl
    simp only [Act.put, List.setIfInBounds_toArray, List.set_cons_zero, List.set_cons_succ]
    iterate 4 (refine seq_later2 ?_; simp only [List.cons_append, List.nil_append])
    refine seq_two rfl rfl (by kernel_rfl) (by rfl) (by rfl) (fun K hK => ?_) (fun K hK => ?_)
    rotate_left
    case' _ =>
      go_simp
      obtain ⟨gx, hgx⟩ : ∃ gx, gx = V.heap.size := ⟨_, rfl⟩
      obtain ⟨w4, hw⟩ : ∃ z, z = V.alloc (.cells (encB z64).toArray 23) := ⟨_, rfl⟩
      have hka : Keeps [] V w4 := by rw [hw]; exact (Keeps.refl [] V).alloc _
      have H4 := Lib.hid (show w4.heap[gx]? = some (.cells (encB z64).toArray 23 (0, 0)) ∧ w4.heap[g]? = some (.cells (encB base).toArray 23 (0, 0)) ∧ Keeps [] w w4 ∧ w.heap.size ≤ gx ∧ g ≠ gx from ⟨by rw [hw, hgx]; exact heap_alloc_new _ _, (hka.block g (lt_of_block HV2.out.1) (by simp)).trans HV2.out.1, HV2.out.2.trans hka (by simp), by rw [hgx]; exact HV2.out.2.size, by have h1 := lt_of_block HV2.out.1; omega⟩)
      rw [HZ.out, ← hw, ← hgx]
      clear hw hgx hka
      refine hK.out (fun z => z.heap[g]? = some (.cells (encB base).toArray 23 (0, 0))) _ _ (fun _ h => h) H4.out.2.1 (fun hS => ?_)
      refine seq_do rfl (by kernel_rfl) (by rfl) (fun K hK => ?_)
      go_simp
      refine (give_is A c n ts ps w4 HN.out.1.symm HN.out.2.symm (HR.out.1.keeps0 H4.out.2.2.1) (fun t ht => (HR.out.2 t ht).keeps0 H4.out.2.2.1) (by omega)).mono ?_
      rintro r w5 ⟨A4, c4, us, rfl, hop, hul, hus⟩
      have hk := hop.kp
      have H5 := Lib.hid (show w5.heap[gx]? = some (.cells (encB z64).toArray 23 (0, 0)) ∧ w5.heap[g]? = some (.cells (encB base).toArray 23 (0, 0)) ∧ Keeps [] w w5 ∧ w.heap.size ≤ gx ∧ g ≠ gx from ⟨(hk.block gx (lt_of_block H4.out.1) (by simp)).trans H4.out.1, (hk.block g (lt_of_block H4.out.2.1) (by simp)).trans H4.out.2.1, H4.out.2.2.1.trans hk (by simp), H4.out.2.2.2.1, H4.out.2.2.2.2⟩)
      have HU := Lib.hid (show us.length = n ∧ us.map Pt.p = ps ∧ OpI w4 w5 A4 c4 us from ⟨hul, hus, hop⟩)
      clear hop hul hus hk
      refine hK.out (fun z => z.heap[g]? = some (.cells (encB base).toArray 23 (0, 0))) _ _ (fun _ h => h) H5.out.2.1 (fun hS => ?_)
      iterate 2 (refine seq_later ?_; simp only [List.cons_append, List.nil_append])
      refine seq_do rfl (by kernel_rfl) (by rfl) (fun K hK => ?_)
      go_simp
      have HC := apply_is base HB.out A4 c4 n ps us w5 _ HU.out.2.2 HU.out.1 HU.out.2.1 HF.out (by omega)
      rw [← HBE.out.1, ← HBE.out.2] at HC
      refine HC.mono ?_
      clear HC
      rintro r w6 ⟨rfl, hk⟩
      have H6 := Lib.hid (show w6.heap[gx]? = some (.cells (encB z64).toArray 23 (0, 0)) ∧ w6.heap[g]? = some (.cells (encB base).toArray 23 (0, 0)) ∧ Keeps [] w w6 ∧ w.heap.size ≤ gx ∧ g ≠ gx from ⟨(hk.block gx (lt_of_block H5.out.1) (by simp)).trans H5.out.1, (hk.block g (lt_of_block H5.out.2.1) (by simp)).trans H5.out.2.1, H5.out.2.2.1.trans hk (by simp), H5.out.2.2.2.1, H5.out.2.2.2.2⟩)
      clear hk
      refine hK.out (fun z => z.heap[g]? = some (.cells (encB base).toArray 23 (0, 0))) _ _ (fun _ h => h) H6.out.2.1 (fun hS => ?_)
      refine seq_take (v := ?_) rfl (by kernel_rfl) (by kernel_rfl) (by kernel_rfl) (Or.inl ⟨by rfl, fun w' hSw => ?_⟩) (by assumption) ?_
      rotate_left
      · go_simp
        with_reducible rfl
      simp only [Act.put, List.setIfInBounds_toArray, List.set_cons_zero, List.set_cons_succ]
      refine seq_take (v := ?_) rfl (by kernel_rfl) (by kernel_rfl) (by kernel_rfl) (Or.inl ⟨by rfl, fun w' hSw => ?_⟩) (by assumption) ?_
      rotate_left
      · go_simp
        with_reducible rfl
      simp only [Act.put, List.setIfInBounds_toArray, List.set_cons_zero, List.set_cons_succ]
      refine seq_take (v := ?_) rfl (by kernel_rfl) (by kernel_rfl) (by kernel_rfl) (Or.inl ⟨by rfl, fun w' hSw => ?_⟩) (by assumption) ?_
      rotate_left
      · go_simp
        with_reducible rfl
      simp only [Act.put, List.setIfInBounds_toArray, List.set_cons_zero, List.set_cons_succ]
      refine seq_do rfl (by kernel_rfl) (by rfl) (fun K hK => ?_)
      refine op_store_rowK 23 (.tmp 5) (.tmp 18) rfl gx (encB B) (encB z64) 23 rfl rfl H6.out.1 (by rw [length_encB, length_encB, HB2.out.1]; rfl) (hsz64 B HB2.out.1) (encB_one _) ?_
      intro w7 h7 hk7
      have H7 := Lib.hid (show w7.heap[gx]? = some (.cells (encB B).toArray 23 (0, 0)) ∧ w7.heap[g]? = some (.cells (encB base).toArray 23 (0, 0)) ∧ Keeps [] w w7 from ⟨h7.out, (hk7.block g (lt_of_block H6.out.2.1) (by simp only [List.mem_singleton]; exact H6.out.2.2.2.2)).trans H6.out.2.1, H6.out.2.2.1.trans hk7 (fun t ht => .inr (by simp at ht; rw [ht]; exact H6.out.2.2.2.1))⟩)
      clear h7 hk7
      refine hK.out (fun z => z.heap[g]? = some (.cells (encB base).toArray 23 (0, 0))) _ _ (fun _ h => h) H7.out.2.1 (fun hS => ?_)
      refine seq_take (v := ?_) rfl (by kernel_rfl) (by kernel_rfl) (by kernel_rfl) (Or.inl ⟨by rfl, fun w' hSw => ?_⟩) (by assumption) ?_
      rotate_left
      · go_simp
        with_reducible rfl
      simp only [Act.put, List.setIfInBounds_toArray, List.set_cons_zero, List.set_cons_succ]
      refine seq_done (by kernel_rfl) ?_
      all_goals skip
      clear hS
    rotate_left
    case' _ =>
      go_simp
      refine (give_is A c n ts ps V HN.out.1.symm HN.out.2.symm (HR.out.1.keeps0 HV2.out.2) (fun t ht => (HR.out.2 t ht).keeps0 HV2.out.2) (by omega)).mono ?_
      rintro r w4 ⟨A4, c4, us, rfl, hop, hul, hus⟩
      have hk := hop.kp
      have H4 := Lib.hid (show w4.heap[g]? = some (.cells (encB base).toArray 23 (0, 0)) ∧ Keeps [] w w4 from ⟨(hk.block g (lt_of_block HV2.out.1) (by simp)).trans HV2.out.1, HV2.out.2.trans hk (by simp)⟩)
      have HU := Lib.hid (show us.length = n ∧ us.map Pt.p = ps ∧ OpI V w4 A4 c4 us from ⟨hul, hus, hop⟩)
      clear hop hul hus hk
      refine hK.out (fun z => z.heap[g]? = some (.cells (encB base).toArray 23 (0, 0))) _ _ (fun _ h => h) H4.out.1 (fun hS => ?_)
      iterate 3 (refine seq_later ?_; simp only [List.cons_append, List.nil_append])
      iterate 3 (refine seq_later2 ?_; simp only [List.cons_append, List.nil_append])
      refine seq_two rfl rfl (by kernel_rfl) (by rfl) (by rfl) (fun K hK => ?_) (fun K hK => ?_)
      rotate_left
      case' _ =>
        go_simp
        obtain ⟨gx, hgx⟩ : ∃ gx, gx = w4.heap.size := ⟨_, rfl⟩
        obtain ⟨w5, hw⟩ : ∃ z, z = w4.alloc (.cells (encB z64).toArray 23) := ⟨_, rfl⟩
        have hka : Keeps [] w4 w5 := by rw [hw]; exact (Keeps.refl [] w4).alloc _
        have H5k := Lib.hid hka
        have H5 := Lib.hid (show w5.heap[gx]? = some (.cells (encB z64).toArray 23 (0, 0)) ∧ w5.heap[g]? = some (.cells (encB base).toArray 23 (0, 0)) ∧ Keeps [] w w5 ∧ w.heap.size ≤ gx ∧ g ≠ gx from ⟨by rw [hw, hgx]; exact heap_alloc_new _ _, (hka.block g (lt_of_block H4.out.1) (by simp)).trans H4.out.1, H4.out.2.trans hka (by simp), by rw [hgx]; exact H4.out.2.size, by have h1 := lt_of_block H4.out.1; omega⟩)
        rw [HZ.out, ← hw, ← hgx]
        clear hw hgx hka
        refine hK.out (fun z => z.heap[g]? = some (.cells (encB base).toArray 23 (0, 0))) _ _ (fun _ h => h) H5.out.2.1 (fun hS => ?_)
        have HU := Lib.hid (show us.length = n ∧ us.map Pt.p = ps ∧ OpI V w5 A4 c4 us from ⟨HU.out.1, HU.out.2.1, HU.out.2.2.keeps0 H5k.out⟩)
        refine seq_do rfl (by kernel_rfl) (by rfl) (fun K hK => ?_)
        go_simp
        have HC := apply_is base HB.out A4 c4 n ps us w5 _ HU.out.2.2 HU.out.1 HU.out.2.1 HF.out (by omega)
        rw [← HBE.out.1, ← HBE.out.2] at HC
        refine HC.mono ?_
        clear HC
        rintro r w6 ⟨rfl, hk⟩
        have H6 := Lib.hid (show w6.heap[gx]? = some (.cells (encB z64).toArray 23 (0, 0)) ∧ w6.heap[g]? = some (.cells (encB base).toArray 23 (0, 0)) ∧ Keeps [] w w6 ∧ w.heap.size ≤ gx ∧ g ≠ gx from ⟨(hk.block gx (lt_of_block H5.out.1) (by simp)).trans H5.out.1, (hk.block g (lt_of_block H5.out.2.1) (by simp)).trans H5.out.2.1, H5.out.2.2.1.trans hk (by simp), H5.out.2.2.2.1, H5.out.2.2.2.2⟩)
        clear hk
        refine hK.out (fun z => z.heap[g]? = some (.cells (encB base).toArray 23 (0, 0))) _ _ (fun _ h => h) H6.out.2.1 (fun hS => ?_)
        iterate 2 (refine seq_later ?_; simp only [List.cons_append, List.nil_append])
        refine seq_take (v := ?_) rfl (by kernel_rfl) (by kernel_rfl) (by kernel_rfl) (Or.inl ⟨by rfl, fun w' hSw => ?_⟩) (by assumption) ?_
        rotate_left
        · go_simp
          with_reducible rfl
        simp only [Act.put, List.setIfInBounds_toArray, List.set_cons_zero, List.set_cons_succ]
        refine seq_take (v := ?_) rfl (by kernel_rfl) (by kernel_rfl) (by kernel_rfl) (Or.inl ⟨by rfl, fun w' hSw => ?_⟩) (by assumption) ?_
        rotate_left
        · go_simp
          with_reducible rfl
        simp only [Act.put, List.setIfInBounds_toArray, List.set_cons_zero, List.set_cons_succ]
        refine seq_take (v := ?_) rfl (by kernel_rfl) (by kernel_rfl) (by kernel_rfl) (Or.inl ⟨by rfl, fun w' hSw => ?_⟩) (by assumption) ?_
        rotate_left
        · go_simp
          with_reducible rfl
        simp only [Act.put, List.setIfInBounds_toArray, List.set_cons_zero, List.set_cons_succ]
        refine seq_do rfl (by kernel_rfl) (by rfl) (fun K hK => ?_)
        refine op_store_rowK 23 (.tmp 5) (.tmp 18) rfl gx (encB B) (encB z64) 23 rfl rfl H6.out.1 (by rw [length_encB, length_encB, HB2.out.1]; rfl) (hsz64 B HB2.out.1) (encB_one _) ?_
        intro w7 h7 hk7
        have H7 := Lib.hid (show w7.heap[gx]? = some (.cells (encB B).toArray 23 (0, 0)) ∧ w7.heap[g]? = some (.cells (encB base).toArray 23 (0, 0)) ∧ Keeps [] w w7 from ⟨h7.out, (hk7.block g (lt_of_block H6.out.2.1) (by simp only [List.mem_singleton]; exact H6.out.2.2.2.2)).trans H6.out.2.1, H6.out.2.2.1.trans hk7 (fun t ht => .inr (by simp at ht; rw [ht]; exact H6.out.2.2.2.1))⟩)
        clear h7 hk7
        refine hK.out (fun z => z.heap[g]? = some (.cells (encB base).toArray 23 (0, 0))) _ _ (fun _ h => h) H7.out.2.1 (fun hS => ?_)
        refine seq_take (v := ?_) rfl (by kernel_rfl) (by kernel_rfl) (by kernel_rfl) (Or.inl ⟨by rfl, fun w' hSw => ?_⟩) (by assumption) ?_
        rotate_left
        · go_simp
          with_reducible rfl
        simp only [Act.put, List.setIfInBounds_toArray, List.set_cons_zero, List.set_cons_succ]
        refine seq_done (by kernel_rfl) ?_
        all_goals skip
        clear hS
      rotate_left
      case' _ =>
        go_simp
        have HC := apply_is base HB.out A4 c4 n ps us w4 _ HU.out.2.2 HU.out.1 HU.out.2.1 HF.out (by omega)
        rw [← HBE.out.1, ← HBE.out.2] at HC
        refine HC.mono ?_
        clear HC
        rintro r w5 ⟨rfl, hk⟩
        have H5 := Lib.hid (show w5.heap[g]? = some (.cells (encB base).toArray 23 (0, 0)) ∧ Keeps [] w w5 from ⟨(hk.block g (lt_of_block H4.out.1) (by simp)).trans H4.out.1, H4.out.2.trans hk (by simp)⟩)
        clear hk
        refine hK.out (fun z => z.heap[g]? = some (.cells (encB base).toArray 23 (0, 0))) _ _ (fun _ h => h) H5.out.1 (fun hS => ?_)
        iterate 3 (refine seq_later ?_; simp only [List.cons_append, List.nil_append])
        refine seq_take (v := ?_) rfl (by kernel_rfl) (by kernel_rfl) (by kernel_rfl) (Or.inl ⟨by rfl, fun w' hSw => ?_⟩) (by assumption) ?_
        rotate_left
        · go_simp
          with_reducible rfl
        simp only [Act.put, List.setIfInBounds_toArray, List.set_cons_zero, List.set_cons_succ]
        refine seq_take (v := ?_) rfl (by kernel_rfl) (by kernel_rfl) (by kernel_rfl) (Or.inl ⟨by rfl, fun w' hSw => ?_⟩) (by assumption) ?_
        rotate_left
        · go_simp
          with_reducible rfl
        simp only [Act.put, List.setIfInBounds_toArray, List.set_cons_zero, List.set_cons_succ]
        refine seq_take (v := ?_) rfl (by kernel_rfl) (by kernel_rfl) (by kernel_rfl) (Or.inl ⟨by rfl, fun w' hSw => ?_⟩) (by assumption) ?_
        rotate_left
        · go_simp
          with_reducible rfl
        simp only [Act.put, List.setIfInBounds_toArray, List.set_cons_zero, List.set_cons_succ]
        refine seq_do rfl (by kernel_rfl) (by rfl) (fun K hK => ?_)
        go_simp
        obtain ⟨gx, hgx⟩ : ∃ gx, gx = w5.heap.size := ⟨_, rfl⟩
        obtain ⟨w6, hw⟩ : ∃ z, z = w5.alloc (.cells (encB z64).toArray 23) := ⟨_, rfl⟩
        have hka : Keeps [] w5 w6 := by rw [hw]; exact (Keeps.refl [] w5).alloc _
        have H6 := Lib.hid (show w6.heap[gx]? = some (.cells (encB z64).toArray 23 (0, 0)) ∧ w6.heap[g]? = some (.cells (encB base).toArray 23 (0, 0)) ∧ Keeps [] w w6 ∧ w.heap.size ≤ gx ∧ g ≠ gx from ⟨by rw [hw, hgx]; exact heap_alloc_new _ _, (hka.block g (lt_of_block H5.out.1) (by simp)).trans H5.out.1, H5.out.2.trans hka (by simp), by rw [hgx]; exact H5.out.2.size, by have h1 := lt_of_block H5.out.1; omega⟩)
        rw [HZ.out, ← hw, ← hgx]
        clear hw hgx hka
        refine hK.out (fun z => z.heap[g]? = some (.cells (encB base).toArray 23 (0, 0))) _ _ (fun _ h => h) H6.out.2.1 (fun hS => ?_)
        refine seq_do rfl (by kernel_rfl) (by rfl) (fun K hK => ?_)
        refine op_store_rowK 23 (.tmp 5) (.tmp 18) rfl gx (encB B) (encB z64) 23 rfl rfl H6.out.1 (by rw [length_encB, length_encB, HB2.out.1]; rfl) (hsz64 B HB2.out.1) (encB_one _) ?_
        intro w7 h7 hk7
        have H7 := Lib.hid (show w7.heap[gx]? = some (.cells (encB B).toArray 23 (0, 0)) ∧ w7.heap[g]? = some (.cells (encB base).toArray 23 (0, 0)) ∧ Keeps [] w w7 from ⟨h7.out, (hk7.block g (lt_of_block H6.out.2.1) (by simp only [List.mem_singleton]; exact H6.out.2.2.2.2)).trans H6.out.2.1, H6.out.2.2.1.trans hk7 (fun t ht => .inr (by simp at ht; rw [ht]; exact H6.out.2.2.2.1))⟩)
        clear h7 hk7
        refine hK.out (fun z => z.heap[g]? = some (.cells (encB base).toArray 23 (0, 0))) _ _ (fun _ h => h) H7.out.2.1 (fun hS => ?_)
        refine seq_take (v := ?_) rfl (by kernel_rfl) (by kernel_rfl) (by kernel_rfl) (Or.inl ⟨by rfl, fun w' hSw => ?_⟩) (by assumption) ?_
        rotate_left
        · go_simp
          with_reducible rfl
        simp only [Act.put, List.setIfInBounds_toArray, List.set_cons_zero, List.set_cons_succ]
        refine seq_done (by kernel_rfl) ?_
        all_goals skip
        clear hS
    all_goals
      clear hK
      go_wp2_with (refine wpList_load_row rfl 23 (.tmp 2) rfl g rfl 23 (encB base).toArray (0, 0) _ H7.out.2.1 Tryd.underlying23 rfl HB2.out.2.2 ?_)
      have HC := rapply_is base HB.out A c n ts ps w7 HN.out.1.symm HN.out.2.symm (HR.out.1.keeps0 H7.out.2.2) (fun t ht => (HR.out.2 t ht).keeps0 H7.out.2.2) (by omega)
      rw [← HBE.out.1, ← HBE.out.2] at HC
      refine HC.mono ?_
      clear HC
      rintro r w8 ⟨rfl, hk8⟩
      have H8 := Lib.hid (show w8.heap[gx]? = some (.cells (encB B).toArray 23 (0, 0)) ∧ Keeps [] w w8 from ⟨(hk8.block gx (lt_of_block H7.out.1) (by simp)).trans H7.out.1, H7.out.2.2.trans hk8 (by simp)⟩)
      have HBN := Lib.hid (show (Tryd.prog.info? 23).map (·.size) = some (encB B).length from hsz64 B HB2.out.1)
      have fe : ∀ v, (binOp .eql 23 (.agg (encB B).toArray) (.agg (encB B).toArray)).run Tryd.prog v = .ok (.bool true) v := fun v => by
        rw [eq_blkd v _ _ HB2.out.1 HB2.out.1]
        simp
      have fg : ∀ y1 y2 v, (eqGuard .eql 23 y1 y2 (.agg (encB B).toArray) (.agg (encB B).toArray)).run Tryd.prog v = .ok () v := fun y1 y2 v => run_eqGuard_arr (P := Tryd.prog) v guard_blkd .eql y1 y2 _ _
      clear hk8
      go_wp2_with (first
        | (refine wpList_store_rowK rfl 23 (.tmp 7) (.tmp 24) rfl w8.heap.size (encB B) (encB z64) 23 rfl rfl (by rw [HZ.out]; exact heap_alloc_new _ _) (by rw [length_encB, length_encB, HB2.out.1]; rfl) HBN.out (encB_one _) ?_; intro w9 h9 hk9; have H90 := Lib.hid (And.intro h9.out ((Keeps.refl [] w8).fresh1 hk9)); have H9 := Lib.hid (show w9.heap[gx]? = some (.cells (encB B).toArray 23 (0, 0)) ∧ Keeps [] w w9 from ⟨(H90.out.2.block gx (lt_of_block H8.out.1) (by simp)).trans H8.out.1, H8.out.2.trans H90.out.2 (by simp)⟩); clear h9 hk9)
        | (refine wpList_load_row rfl 23 (.tmp 5) rfl gx rfl 23 (encB B).toArray (0, 0) _ H9.out.1 Tryd.underlying23 rfl HB2.out.2.1 ?_)
        | (refine wpList_load_row rfl 23 (.tmp 7) rfl w8.heap.size rfl 23 (encB B).toArray (0, 0) _ H90.out.1 Tryd.underlying23 rfl HB2.out.2.1 ?_))
      refine (num_any E _ (HH.out.keeps H9.out.2 (by simp))).mono ?_
      rintro r w10 ⟨rfl, hk10⟩
      have H10 := Lib.hid (show Keeps [] w w10 from H9.out.2.trans hk10 (by simp))
      clear hk10
      go_wp2_with fail
      refine (sure10_any _).mono ?_
      rintro r w11 ⟨rfl, hk11⟩
      have H11 := Lib.hid (show Keeps [] w w11 from H10.out.trans hk11 (by simp))
      clear hk11
      go_wp2_with fail
      go_ret
      exact ⟨rfl, H11.out⟩
theorem applies_row (bs : List Int) (A : Option Addr) (c : Nat) (xs : List OpV) (w : World) (ok0 : (K.arr 64 (K.int .u8)).ok w bs) (ok1 : (K.slice 48 (K.st KOp)).ok w ((A, c), xs)) (hh : HT w) :
    Calls Tryd.prog 4 #[.agg ((K.arr 64 (K.int .u8)).cells bs).toArray, .slice A xs.length c] w fun e w' => e = .returned (.bool true) ∧ Below w.heap.size w w' := by
  obtain ⟨e1, e2⟩ := arrB_of_k ok0
  obtain ⟨h1, h2⟩ := ops_of_k ok1
  have h3 := applies_any (toB bs) e2 A c (xs.map OpV.pt) w h1 h2 hh
  rw [List.length_map] at h3
  rw [e1]
  exact h3.mono fun _ _ h => ⟨h.1, h.2.below (Nat.le_refl _) (by simp)⟩
end Go.Proofs.YtljinghhalcnnaaDoor
namespace Go.Proofs.YtljinghhalcnnaaDoor
open Go.RowKit

theorem infoOpR : (Tryd.prog.info? 63).map (fun i => (i.zero, i.size, i.bytes)) = some (some (.agg #[.bool false, .int .i64 0, .int .i64 0, .slice none 0 0]), 4, 48) := by kernel_rfl
/-- Parts of one's own. -/
structure OpR (w wr : World) (A : Option Addr) (c : Nat) (ts : List Pt) : Prop where
  own : wr.ownsRow 0 63 4 (.slice A ts.length c) ts.length (encPt ts)
  fr : ∀ a, A = some a → w.heap.size ≤ a.block
  rd : ∀ t ∈ ts, OwnB 5 wr t.A t.c t.p.b ∧ ∀ a, t.A = some a → w.heap.size ≤ a.block ∧ a.block ∉ blk A
  dj : ts.Pairwise fun s t => ∀ a b, s.A = some a → t.A = some b → a.block ≠ b.block
  kp : Keeps [] w wr
theorem OpR.nil (w wr : World) (hk : Keeps [] w wr) : OpR w wr none 0 [] := ⟨World.ownsRow_nil _ _ _ _, by simp, by simp, List.Pairwise.nil, hk⟩
theorem OpR.keeps0 {w wr wr' : World} {A : Option Addr} {c : Nat} {ts : List Pt} (h : OpR w wr A c ts) (hk : Keeps [] wr wr') : OpR w wr' A c ts :=
  ⟨ownsRow_keeps h.own hk (by simp), h.fr, fun t ht => ⟨(h.rd t ht).1.keeps0 hk, (h.rd t ht).2⟩, h.dj, h.kp.trans hk (by simp)⟩
/-- A part with bytes of its own is added. -/
theorem OpR.addB {w wr wa w4 : World} {A A4 : Option Addr} {c c4 n : Nat} {ts : List Pt} {t : Pt} (h : OpR w wr A c ts) (hb : OwnB 5 wr t.A t.c t.p.b) (hA : ∀ a, t.A = some a → w.heap.size ≤ a.block ∧ a.block ∉ blk A ∧ ∀ s ∈ ts, ∀ b, s.A = some b → b.block ≠ a.block) (hka : Keeps [] wr wa) (hn : n = ts.length)
    (ho : w4.ownsRow 0 63 4 (.slice A4 (n + 1) c4) (n + 1) (encPt ts ++ t.cells)) (hk : Keeps (blk A) wa w4) (hf : ∀ a, A4 = some a → a.block ∈ blk A ∨ wa.heap.size ≤ a.block) : OpR w w4 A4 c4 (ts ++ [t]) := by
  subst hn
  have s1 := h.kp.size
  have s2 := hka.size
  have k14 : Keeps (blk A) wr w4 := (hka.mono (by simp)).trans hk (fun t ht => .inl ht)
  have hin : ∀ {a : Addr}, a.block < wr.heap.size → a.block ∉ blk A → a.block ∉ blk A4 := fun {a} h1 h2 hm => by
    obtain ⟨b, e1, e2⟩ := mem_blk.1 hm
    rcases hf b e1 with h4 | h4
    · rw [e2] at h4; exact h2 h4
    · omega
  refine ⟨?_, fun a ha => ?_, fun s hs => ?_, ?_, (h.kp.trans hka (by simp)).fresh hk h.fr⟩
  · rw [List.length_append, encPt_append]
    simpa [encPt] using ho
  · rcases hf a ha with h1 | h1
    · obtain ⟨b, e1, e2⟩ := mem_blk.1 h1
      rw [← e2]; exact h.fr b e1
    · omega
  · rcases List.mem_append.1 hs with h1 | h1
    · obtain ⟨h2, h3⟩ := h.rd s h1
      exact ⟨h2.keeps k14 (fun a ha => (h3 a ha).2), fun a ha => ⟨(h3 a ha).1, hin (h2.lt a ha) (h3 a ha).2⟩⟩
    · obtain rfl := List.mem_singleton.1 h1
      exact ⟨hb.keeps k14 (fun a ha => (hA a ha).2.1), fun a ha => ⟨(hA a ha).1, hin (hb.lt a ha) (hA a ha).2.1⟩⟩
  · rw [List.pairwise_append]
    refine ⟨h.dj, List.pairwise_singleton _ _, fun s hs t' ht' a b ha hb' => ?_⟩
    obtain rfl := List.mem_singleton.1 ht'
    exact (hA b hb').2.2 s hs a ha
end Go.Proofs.YtljinghhalcnnaaDoor
namespace Go.Proofs.YtljinghhalcnnaaDoor
open Go.RowKit

theorem pkpower_any (n : Nat) (w : World) (hn : n ≤ 63) : Calls Tryd.prog 61 #[.int .i64 n] w fun e w' => e = .returned (.int .u64 ((2 ^ n : Nat) : Int)) ∧ w = w' := by
  go_enter Tryd.func61, Tryd.ntmps61
  go_wp2_with fail
  go_loop [3, 4] (fun p i => ∃ j : Nat, j ≤ n ∧ i = .int .i64 j ∧ p = .int .u64 ((2 ^ j : Nat) : Int)) (fun _ i => n - (intOf i).toNat)
  case atStart => exact ⟨0, Nat.zero_le _, rfl, rfl⟩
  case round =>
    obtain ⟨j, hj, rfl, rfl⟩ := hrel
    by_cases hlt : j < n
    · have hp : (2 : Nat) ^ j ≤ 2 ^ 62 := Nat.pow_le_pow_right (by omega) (by omega)
      obtain ⟨P, hP⟩ : ∃ P, P = (2 : Nat) ^ j := ⟨_, rfl⟩
      rw [← hP] at hp ⊢
      have hp2 : (P : Int) ≤ 4611686018427387904 := by omega
      have HP := Lib.hid (show P * 2 = 2 ^ (j + 1) by rw [hP, Nat.pow_succ])
      clear hP hp
      go_wp2_with fail
      go_round
      case rel => exact ⟨j + 1, by omega, by go_num, by rw [← HP.out, Int.natCast_mul, Int.mul_comm]; rfl⟩
      case measure => simp [intOf]; omega
    · obtain rfl : j = n := by omega
      go_wp2_with fail
      go_ret
      exact ⟨rfl, rfl⟩

theorem pkmore_any (n : Nat) (w : World) : Calls Tryd.prog 51 #[.int .u64 n] w fun e w' => e = .returned (.int .i64 (bh n : Nat)) ∧ w = w' := by
  go_enter Tryd.func51, Tryd.ntmps51
  go_wp2_with fail
  go_loop [3] (fun i => ∃ k : Nat, k ≤ 8 ∧ i = .int .i64 k ∧ Hid (0 < k → 2 ^ (7 * k) ≤ n)) (fun i => 8 - (intOf i).toNat)
  case atStart => exact ⟨0, by omega, rfl, fun h => absurd h (by omega)⟩
  case round =>
    obtain ⟨k, hk, rfl, hH⟩ := hrel
    by_cases hlt : k < 8
    · have hk3 : (k : Int) ≤ 7 := by omega
      go_wp2_with fail
      have := pkpower_any (7 * k + 7) w (by omega)
      rw [show ((7 * k + 7 : Nat) : Int) = 7 * (k : Int) + 7 by omega] at this
      refine this.mono ?_
      rintro e w' ⟨rfl, rfl⟩
      obtain ⟨P, hP⟩ : ∃ P, P = (2 : Nat) ^ (7 * k + 7) := ⟨_, rfl⟩
      rw [← hP]
      have HP := Lib.hid hP
      clear hP this
      by_cases hnp : n < P
      · have hnp' : (n : Int) < (P : Int) := by omega
        have HN := Lib.hid hnp
        clear hnp
        go_wp2_with fail
        go_ret
        exact ⟨ret_int (by rw [bh_unique (n := n) (k := k) (by omega) (fun _ => by rw [← HP.out]; exact HN.out) hH.out]), rfl⟩
      · have hnp' : ¬ (n : Int) < (P : Int) := by omega
        have HN := Lib.hid hnp
        clear hnp
        go_wp2_with fail
        go_round
        case rel => exact ⟨k + 1, by omega, by go_num, fun _ => by have := HN.out; rw [HP.out] at this; rw [show 7 * (k + 1) = 7 * k + 7 by omega]; omega⟩
        case measure => simp [intOf]; omega
    · obtain rfl : k = 8 := by omega
      go_wp2_with fail
      go_ret
      exact ⟨ret_int (by rw [bh_unique (n := n) (k := 8) (by omega) (fun h => absurd h (by omega)) hH.out]; rfl), rfl⟩

theorem pkones_any (k : Nat) (w : World) (hk : k ≤ 8) : Calls Tryd.prog 53 #[.int .i64 k] w fun e w' => e = .returned (.int .u8 ((256 - 2 ^ (8 - k) : Nat) : Int)) ∧ w = w' := by
  go_enter Tryd.func53, Tryd.ntmps53
  go_wp2_with fail
  have := pkpower_any (8 - k) w (by omega)
  rw [show ((8 - k : Nat) : Int) = 8 - (k : Int) by omega] at this
  refine this.mono ?_
  rintro e w' ⟨rfl, rfl⟩
  have h1 : (1 : Nat) ≤ 2 ^ (8 - k) := Nat.one_le_two_pow
  have h2 : (2 : Nat) ^ (8 - k) ≤ 2 ^ 8 := Nat.pow_le_pow_right (by omega) (by omega)
  obtain ⟨P, hP⟩ : ∃ P, P = (2 : Nat) ^ (8 - k) := ⟨_, rfl⟩
  rw [← hP] at h1 h2 ⊢
  have hp1 : (1 : Int) ≤ (P : Int) := by omega
  have hp2 : (P : Int) ≤ 256 := by omega
  have HP := Lib.hid hP
  clear hP this h2
  go_wp2_with fail
  go_ret
  refine ⟨ret_int ?_, rfl⟩
  rw [← HP.out]
  omega

end Go.Proofs.YtljinghhalcnnaaDoor
