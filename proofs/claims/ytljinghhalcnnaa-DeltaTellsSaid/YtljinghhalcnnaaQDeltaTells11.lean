/- The block that parts make of a base: the walk. The block that bytes make of a base: a contract. Numbers as bytes: their order, and that they are taken off as they were: plain numbers. A print that a reader takes off: a contract. What was laid is taken off as it was: plain numbers and lists. -/
import Derived.Test.YtljinghhalcnnaaQDeltaTells10
import Derived.Test.YtljinghhalcnnaaQDeltaTells9
import Derived.Deep.DeepCutAuto
import Derived.Test.YtljinghhalcnnaaQDeltaTells7
import GoSem.Op.String
import Derived.Test.YtljinghhalcnnaaQDeltaTells8
namespace Go.Proofs.Ytljinghhalcnnaa
open Go.RowKit

theorem results_cell_tmp {P : Program} {fn : Func} {p q : Tmp} {ty : TypeId} (h : fn.results = #[.cell p ty, .tmp q]) (tmps : Array Value) (w : World) (g : Nat) (t : TypeId) (cs : Array Value) (fr : Nat × Nat) (d : TypeDesc) (v : Value)
    (hp : tmps.getD p undef = .pointer (some ⟨g, 0, none⟩)) (hq : tmps.getD q undef = v) (hg : w.heap[g]? = some (.cells cs t fr))
    (hu : P.underlying ty = some d) (hd : (match d with | .struct _ | .array _ _ => true | _ => false) = true) (hi : (P.info? ty).map (·.size) = some cs.size) :
    (results fn tmps).run P w = .ok (.tuple #[.agg cs, v]) w := by
  have hp' : tmps[p]?.getD undef = .pointer (some ⟨g, 0, none⟩) := by simpa using hp
  have hq' : tmps[q]?.getD undef = v := by simpa using hq
  simp [results, h, hp', hq', asAddr, run_loadVar_row w g t ty cs fr d hg hu hd hi]
theorem hsz64 (l : List UInt8) (h : l.length = 64) : (Try.prog.info? 23).map (·.size) = some (encB l).length := by rw [length_encB, h]; exact infoBlk
theorem hsz64' (l : List UInt8) (h : l.length = 64) : (Try.prog.info? 23).map (·.size) = some (encB l).toArray.size := by rw [List.size_toArray]; exact hsz64 l h
set_option maxRecDepth 100000 in
set_option maxHeartbeats 16000000 in
theorem apply_any (base : List UInt8) (hb : base.length = 64) (A : Option Addr) (c : Nat) (ts : List Pt) (w : World) (hr : Rd w A ts.length 4 (encPt ts)) (hbs : ∀ t ∈ ts, RdB w t.A t.p.b ∧ (-9223372036854775808 ≤ t.p.fr ∧ t.p.fr ≤ 9223372036854775807) ∧ (-9223372036854775808 ≤ t.p.ln ∧ t.p.ln ≤ 9223372036854775807)) (hl : ts.length ≤ 1000) :
    Calls Try.prog 23 #[.agg (encB base).toArray, .slice A ts.length c] w (ApP base (ts.map Pt.p) w) := by
  have HR := Lib.hid (And.intro hr hbs)
  have HB := Lib.hid hb
  obtain ⟨ps, hps⟩ : ∃ ps, ps = ts.map Pt.p := ⟨_, rfl⟩
  obtain ⟨n, hn⟩ : ∃ n, n = ts.length := ⟨_, rfl⟩
  have HN := Lib.hid (show n = ts.length ∧ ps = ts.map Pt.p ∧ ps.length = n from ⟨hn, hps, by rw [hps, List.length_map, hn]⟩)
  have HZ := Lib.hid zero64k
  obtain ⟨bs, hbs2⟩ : ∃ bs, bs = (encB base).toArray := ⟨_, rfl⟩
  obtain ⟨g, hg⟩ : ∃ g, g = w.heap.size := ⟨_, rfl⟩
  obtain ⟨gr, hgr⟩ : ∃ gr, gr = w.heap.size + 1 := ⟨_, rfl⟩
  obtain ⟨W, hW⟩ : ∃ W, W = (w.alloc (.cells bs 23)).alloc (.cells (encB z64).toArray 23) := ⟨_, rfl⟩
  have HI := Lib.hid (show ApI w W g gr base none 0 [] from
    ⟨by rw [hW, hg, hbs2]; exact heap_alloc2_old _ _ _, by rw [hW, hgr]; exact heap_alloc2_new _ _ _, OwnB.nil _ _, by rw [hW]; exact ((Keeps.refl [] w).alloc _).alloc _, by simp, by omega⟩)
  have HW := Lib.hid (show W = (w.alloc (.cells bs 23)).alloc (.cells (encB z64).toArray 23) ∧ gr = w.heap.size + 1 ∧ g = w.heap.size from ⟨hW, hgr, hg⟩)
  rw [← hps, ← hn, ← hbs2]
  rw [← hn] at hl
  clear hr hbs hb hps hn hbs2 hg hgr hW
  go_enter Try.func23, Try.ntmps23
  go_upto_region 1 with fail
  rw [HZ.out]
  rw [← HW.out.1, ← HW.out.2.1, ← HW.out.2.2]
  go_wp2_with fail
  go_loopw [6, 13] (fun s6 s13 wr => ∃ (i : Nat) (A' : Option Addr) (c' : Nat) (all : List UInt8), s13 = .int .i64 i ∧ s6 = .slice A' all.length c' ∧ Hid (i ≤ n ∧ applyF base (ps.drop i) all = applyE base ps ∧ all.length ≤ 64 ∧ ApI w wr g gr base A' c' all)) (fun _ s13 _ => n - (intOf s13).toNat)
  case atStart => exact ⟨0, none, 0, [], rfl, rfl, ⟨Nat.zero_le _, rfl, by simp, HI.out⟩⟩
  case round =>
    clear HI
    obtain ⟨i, A', c', all, rfl, rfl, D⟩ := hrel
    obtain ⟨al, hal⟩ : ∃ al, al = all.length := ⟨_, rfl⟩
    have HAL := Lib.hid hal
    have hal64 : al ≤ 64 := by have := D.out; omega
    rw [← hal]
    clear hal
    by_cases hin : i < n
    · have hini : (i : Int) < (n : Int) := by omega
      have HIL := Lib.hid (show i < ts.length ∧ i < ps.length ∧ i < n from by have := HN.out; omega)
      obtain ⟨ga, oa, rfl, k0, k1, k2, k3⟩ := pt_cells (HR.out.1.keeps0 D.out.2.2.2.kp) HIL.out.1
      obtain ⟨t, ht⟩ : ∃ t, t = ts[i]'(HIL.out.1) := ⟨_, rfl⟩
      rw [← ht] at k0 k1 k2 k3
      have HTT := Lib.hid (show t ∈ ts ∧ ps[i]'(HIL.out.2.1) = t.p from ⟨by rw [ht]; exact List.getElem_mem _, by rw [ht]; simp [HN.out.2.1]⟩)
      have HST := Lib.hid (show (∀ e, partB base t.p = .error e → applyE base ps = .error e) ∧ (∀ b, partB base t.p = .ok b → 64 < all.length + b.length → applyE base ps = .error 2) ∧ (∀ b, partB base t.p = .ok b → ¬ 64 < all.length + b.length → applyF base (ps.drop (i + 1)) (all ++ b) = applyE base ps) from by
        have h0 := applyF_step base ps all HIL.out.2.1
        rw [D.out.2.1, HTT.out.2] at h0
        exact ⟨fun e he => by rw [h0, he], fun b hb hlt => by rw [h0, hb]; exact if_pos hlt, fun b hb hlt => by rw [h0, hb]; exact (if_neg hlt).symm⟩)
      obtain ⟨gx, hgx⟩ : ∃ gx, gx = wr.heap.size := ⟨_, rfl⟩
      obtain ⟨w4, hw4⟩ : ∃ w4, w4 = wr.alloc (.cells #[.bool t.p.cp, .int .i64 t.p.fr, .int .i64 t.p.ln, .slice t.A t.p.b.length t.c] 42) := ⟨_, rfl⟩
      have HX := Lib.hid (show Keeps [] wr w4 ∧ w4.heap[gx]? = some (.cells #[.bool t.p.cp, .int .i64 t.p.fr, .int .i64 t.p.ln, .slice t.A t.p.b.length t.c] 42 (0, 0)) from ⟨by rw [hw4]; exact (Keeps.refl [] wr).alloc _, by rw [hw4, hgx]; exact heap_alloc_new _ _⟩)
      have HW2 := Lib.hid (And.intro hw4 hgx)
      have D4 := Lib.hid (D.out.2.2.2.keeps0 HX.out.1)
      clear hw4 hgx ht hin
      go_upto_region 5 with fail
      rw [← HW2.out.1, ← HW2.out.2]
      clear k0 k1 k2 k3
      have k0 : w4.cell? ⟨gx, 0, none⟩ = some (.bool t.p.cp) := by rw [cell_of_row _ _ _ _ _ _ HX.out.2]; rfl
      have k1 : w4.cell? ⟨gx, 1, none⟩ = some (.int .i64 t.p.fr) := by rw [cell_of_row _ _ _ _ _ _ HX.out.2]; rfl
      have k2 : w4.cell? ⟨gx, 2, none⟩ = some (.int .i64 t.p.ln) := by rw [cell_of_row _ _ _ _ _ _ HX.out.2]; rfl
      have k3 : w4.cell? ⟨gx, 3, none⟩ = some (.slice t.A t.p.b.length t.c) := by rw [cell_of_row _ _ _ _ _ _ HX.out.2]; rfl
      have HC := Lib.hid (And.intro (And.intro k0 k1) (And.intro k2 k3))
      have qa : ∀ z : World, Keeps [] w4 z → z.cell? ⟨gx, 0, none⟩ = some (.bool t.p.cp) := fun z hz => hz.cell HC.out.1.1 (by simp)
      have qb : ∀ z : World, Keeps [] w4 z → z.cell? ⟨gx, 1, none⟩ = some (.int .i64 t.p.fr) := fun z hz => hz.cell HC.out.1.2 (by simp)
      have qc : ∀ z : World, Keeps [] w4 z → z.cell? ⟨gx, 2, none⟩ = some (.int .i64 t.p.ln) := fun z hz => hz.cell HC.out.2.1 (by simp)
      have qd : ∀ z : World, Keeps [] w4 z → z.cell? ⟨gx, 3, none⟩ = some (.slice t.A t.p.b.length t.c) := fun z hz => hz.cell HC.out.2.2 (by simp)
      clear k0 k1 k2 k3
      refine seq_start (by kernel_rfl) (fun z => Keeps [] w4 z) 8 [0, 1, 2, 3, 4, 5, 6, 7] rfl ((Keeps.refl [] w4).drew) (fun hS => ?_)
      have DV := Lib.hid (show ApI w w4.drew g gr base A' c' all ∧ Keeps [] w4 w4.drew from ⟨D4.out.keeps0 (Keeps.refl [] w4).drew, (Keeps.refl [] w4).drew⟩)
      generalize w4.drew = V at DV hS ⊢
      refine seq_take (v := ?_) rfl (by kernel_rfl) (by kernel_rfl) (by kernel_rfl) (Or.inl ⟨by rfl, fun w' hSw => ?_⟩) (by assumption) ?_
      rotate_left
      · go_simp
        with_reducible rfl
      simp only [Act.put, List.setIfInBounds_toArray, List.set_cons_zero, List.set_cons_succ]
      refine seq_take (v := .slice (some ⟨g, 0, none⟩) 64 64) rfl (by kernel_rfl) (by kernel_rfl) (by kernel_rfl) ?_ (by assumption) ?_
      · exact yieldsIf_secArr (by rfl) 23 (.tmp 2) none (by rfl) Try.underlying23 infoB1d ⟨g, 0, none⟩ 0 (by rfl) Bnd.no (by omega) _ (by rw [secA_zero])
      simp only [Act.put, List.setIfInBounds_toArray, List.set_cons_zero, List.set_cons_succ]
      refine seq_do rfl (by kernel_rfl) (by rfl) (fun K hK => ?_)
      go_simp
      have HTB := HR.out.2 t HTT.out.1
      refine (obytes_any t (some ⟨g, 0, none⟩) base HB.out V (rdb_row DV.out.1.b) (HTB.1.keeps0 DV.out.1.kp) HTB.2.1 HTB.2.2).mono ?_
      rintro r w5 ⟨hk5, ⟨e, he, hne, rfl⟩ | ⟨l, A5, c5, hl5, rfl, hr5⟩⟩
      · have D5 := Lib.hid (show ApI w w5 g gr base A' c' all ∧ applyE base ps = .error e ∧ e ≠ 0 from ⟨DV.out.1.keeps0 hk5, HST.out.1 e he, hne⟩)
        have hk45 : Keeps [] w4 w5 := DV.out.2.trans hk5 (by simp)
        refine hK.out (fun z => Keeps [] w4 z) _ _ (fun _ h => h) hk45 (fun hS => ?_)
        have her : errV e = .iface 71 (.int .i64 e) := errV_other hne
        rw [her]
        refine seq_take (v := ?_) rfl (by kernel_rfl) (by kernel_rfl) (by kernel_rfl) (Or.inl ⟨by rfl, fun w' hSw => ?_⟩) (by assumption) ?_
        rotate_left
        · go_simp
          with_reducible rfl
        simp only [Act.put, List.setIfInBounds_toArray, List.set_cons_zero, List.set_cons_succ]
        refine seq_take (v := ?_) rfl (by kernel_rfl) (by kernel_rfl) (by kernel_rfl) (Or.inl ⟨by rfl, fun w' hSw => ?_⟩) (by assumption) ?_
        rotate_left
        · go_simp
          with_reducible rfl
        simp only [Act.put, List.setIfInBounds_toArray, List.set_cons_zero, List.set_cons_succ]
        refine seq_take (v := ?_) rfl (by kernel_rfl) (by kernel_rfl) (by kernel_rfl) (Or.inl ⟨by rfl, fun w' hSw => ?_⟩) (by assumption) ?_
        rotate_left
        · go_simp
          with_reducible rfl
        simp only [Act.put, List.setIfInBounds_toArray, List.set_cons_zero, List.set_cons_succ]
        refine seq_take (v := ?_) rfl (by kernel_rfl) (by kernel_rfl) (by kernel_rfl) (Or.inl ⟨by rfl, fun w' hSw => ?_⟩) (by assumption) ?_
        rotate_left
        · go_simp
          with_reducible rfl
        simp only [Act.put, List.setIfInBounds_toArray, List.set_cons_zero, List.set_cons_succ]
        refine seq_take (v := ?_) rfl (by kernel_rfl) (by kernel_rfl) (by kernel_rfl) (Or.inl ⟨by rfl, fun w' hSw => ?_⟩) (by assumption) ?_
        rotate_left
        · go_simp
          with_reducible rfl
        simp only [Act.put, List.setIfInBounds_toArray, List.set_cons_zero, List.set_cons_succ]
        refine seq_done (by kernel_rfl) ?_
        all_goals skip
        clear hS qa qb qc qd hK hk5 hk45 her he hne DV HC
        go_wp2_with (refine wpList_store_rowK rfl 23 (.tmp 4) (.tmp 25) rfl gr (encB z64) (encB z64) 23 rfl (by first | rfl | exact congrArg Value.agg HZ.out) D5.out.1.r (by rfl) (hsz64 z64 z64_len) (encB_one _) ?_; intro w8 h8 hk8)
        have h8' : w8.heap[gr]? = _ := h8.out
        try simp only [Exit.inBlock, Exit.then]
        refine bodyPost_ret (v := .tuple #[.agg (encB z64).toArray, .iface 71 (.int .i64 e)]) (results_cell_tmp Try.results23 _ _ gr 23 _ (0, 0) _ _ rfl rfl h8' Try.underlying23 rfl (hsz64' z64 z64_len)) rfl ?_
        exact ⟨D5.out.1.kp.trans hk8 (fun t ht => .inr (by simp at ht; rw [ht]; exact D5.out.1.g0.2.1)), .inl ⟨e, D5.out.2.1, D5.out.2.2, by rw [errV_other D5.out.2.2]⟩⟩
      · have hk45 : Keeps [] w4 w5 := DV.out.2.trans hk5 (by simp)
        have D5 := Lib.hid (show ApI w w5 g gr base A' c' all ∧ RdB w5 A5 l ∧ (64 < all.length + l.length → applyE base ps = .error 2) ∧ (¬ 64 < all.length + l.length → applyF base (ps.drop (i + 1)) (all ++ l) = applyE base ps) from ⟨DV.out.1.keeps0 hk5, hr5, HST.out.2.1 l hl5, HST.out.2.2 l hl5⟩)
        refine hK.out (fun z => Keeps [] w4 z) _ _ (fun _ h => h) hk45 (fun hS => ?_)
        refine seq_take (v := ?_) rfl (by kernel_rfl) (by kernel_rfl) (by kernel_rfl) (Or.inl ⟨by rfl, fun w' hSw => ?_⟩) (by assumption) ?_
        rotate_left
        · go_simp
          with_reducible rfl
        simp only [Act.put, List.setIfInBounds_toArray, List.set_cons_zero, List.set_cons_succ]
        refine seq_take (v := ?_) rfl (by kernel_rfl) (by kernel_rfl) (by kernel_rfl) (Or.inl ⟨by rfl, fun w' hSw => ?_⟩) (by assumption) ?_
        rotate_left
        · go_simp
          with_reducible rfl
        simp only [Act.put, List.setIfInBounds_toArray, List.set_cons_zero, List.set_cons_succ]
        refine seq_take (v := ?_) rfl (by kernel_rfl) (by kernel_rfl) (by kernel_rfl) (Or.inl ⟨by rfl, fun w' hSw => ?_⟩) (by assumption) ?_
        rotate_left
        · go_simp
          with_reducible rfl
        simp only [Act.put, List.setIfInBounds_toArray, List.set_cons_zero, List.set_cons_succ]
        refine seq_take (v := ?_) rfl (by kernel_rfl) (by kernel_rfl) (by kernel_rfl) (Or.inl ⟨by rfl, fun w' hSw => ?_⟩) (by assumption) ?_
        rotate_left
        · go_simp
          with_reducible rfl
        simp only [Act.put, List.setIfInBounds_toArray, List.set_cons_zero, List.set_cons_succ]
        refine seq_take (v := ?_) rfl (by kernel_rfl) (by kernel_rfl) (by kernel_rfl) (Or.inl ⟨by rfl, fun w' hSw => ?_⟩) (by assumption) ?_
        rotate_left
        · go_simp
          with_reducible rfl
        simp only [Act.put, List.setIfInBounds_toArray, List.set_cons_zero, List.set_cons_succ]
        refine seq_done (by kernel_rfl) ?_
        all_goals skip
        clear hS qa qb qc qd hK hk5 hk45 hl5 hr5 DV HC
        obtain ⟨m, hm⟩ : ∃ m, m = l.length := ⟨_, rfl⟩
        have HM := Lib.hid hm
        rw [← hm]
        clear hm
        have h64w : wrap64 (64 - (al : Int)) = 64 - (al : Int) := by unfold wrap64; omega
        by_cases hlt : 64 < al + m
        · have hlti : 64 - (al : Int) < (m : Int) := by omega
          have HE := Lib.hid (D5.out.2.2.1 (by rw [← HAL.out, ← HM.out]; exact hlt))
          clear hlt
          go_wp2_with (refine wpList_store_rowK rfl 23 (.tmp 4) (.tmp 33) rfl gr (encB z64) (encB z64) 23 rfl (by first | rfl | exact congrArg Value.agg HZ.out) D5.out.1.r (by rfl) (hsz64 z64 z64_len) (encB_one _) ?_; intro w8 h8 hk8)
          have h8' : w8.heap[gr]? = _ := h8.out
          try simp only [Exit.inBlock, Exit.then]
          refine bodyPost_ret (v := .tuple #[.agg (encB z64).toArray, .iface 71 (.int .i64 2)]) (results_cell_tmp Try.results23 _ _ gr 23 _ (0, 0) _ _ rfl rfl h8' Try.underlying23 rfl (hsz64' z64 z64_len)) rfl ?_
          exact ⟨D5.out.1.kp.trans hk8 (fun t ht => .inr (by simp at ht; rw [ht]; exact D5.out.1.g0.2.1)), .inl ⟨2, HE.out, by omega, rfl⟩⟩
        · have hlti : ¬ 64 - (al : Int) < (m : Int) := by omega
          have HE := Lib.hid (D5.out.2.2.2 (by rw [← HAL.out, ← HM.out]; exact hlt))
          have HAM := Lib.hid (show al + m ≤ 64 from by omega)
          clear hlt
          go_wp2_with (at_builtin; refine wpList_appendB rfl (.tmp 35) (.tmp 36) 31 5 rfl Try.underlying31 infoB A' c' all (by rw [← HAL.out]; rfl) D5.out.1.own A5 c5 l (by rw [← HM.out]; rfl) D5.out.2.1 (by have := HAM.out; have := HAL.out; have := HM.out; omega) ?_; intro A6 c6 w6 l6 hl6 ho6 hk6 hf6; have D6 := Lib.hid (show i + 1 ≤ n ∧ applyF base (ps.drop (i + 1)) l6 = applyE base ps ∧ l6.length ≤ 64 ∧ ApI w w6 g gr base A6 c6 l6 from ⟨HIL.out.2.2, by rw [hl6.out]; exact HE.out, (by rw [hl6.out, List.length_append, ← HAL.out, ← HM.out]; exact HAM.out), D5.out.1.add ho6 hk6 hf6⟩); clear hl6 ho6 hk6 hf6)
          go_roundw
          case rel => exact ⟨i + 1, A6, c6, l6, by go_num, rfl, D6⟩
          case measure => have := HIL.out; simp [intOf]; omega
    · have hini : ¬ (i : Int) < (n : Int) := by omega
      have HE := Lib.hid (show applyE base ps = (if all.length = 64 then .ok all else .error 2) from by
        rw [← D.out.2.1, List.drop_of_length_le (by have := HN.out; omega)]
        rfl)
      clear hin
      by_cases h64 : al = 64
      · subst h64
        have HA := Lib.hid (show all.length = 64 from HAL.out.symm)
        obtain ⟨g2, hg2⟩ : ∃ g2, A' = some ⟨g2, 0, none⟩ := by
          rcases D.out.2.2.2.own.2 with ⟨_, h0⟩ | ⟨g2, cap, cur, hv, _⟩
          · have := HA.out; omega
          · injection hv with e1 _ _
            exact ⟨g2, e1⟩
        subst hg2
        have hat := fun w' => run_arrayAt (P := Try.prog) w' Try.underlying23 ⟨g2, 0, none⟩ 64 c' (by omega)
        have HRG := Lib.hid (show wr.rangeAt g2 0 (encB all) from fun j v hv => by
          have hj : j < (encB all).length := (List.getElem?_eq_some_iff.1 hv).1
          rw [length_encB] at hj
          rw [Nat.zero_add, World.ownsRow.cellAt D.out.2.2.2.own j (by omega)]
          exact hv)
        have HOK := Lib.hid (show applyE base ps = .ok all from by rw [HE.out, if_pos HA.out])
        have HII := Lib.hid (show (Try.prog.info? 23).map (·.size) = some (encB all).length from hsz64 all HA.out)
        go_wp2_with (first
          | (refine wpList_load_mid rfl 23 (.tmp 45) rfl g2 0 rfl (encB all) _ HRG.out Try.underlying23 rfl HII.out ?_)
          | (refine wpList_store_rowK rfl 23 (.tmp 4) (.tmp 46) rfl gr (encB all) (encB z64) 23 rfl rfl D.out.2.2.2.r (by rw [length_encB, length_encB, HA.out]; rfl) HII.out (encB_one _) ?_; intro w8 h8 hk8))
        have h8' : w8.heap[gr]? = _ := h8.out
        try simp only [Exit.inBlock, Exit.then]
        refine bodyPost_ret (v := .tuple #[.agg (encB all).toArray, .nilIface]) (results_cell_tmp Try.results23 _ _ gr 23 _ (0, 0) _ _ rfl rfl h8' Try.underlying23 rfl (hsz64' all HA.out)) rfl ?_
        exact ⟨D.out.2.2.2.kp.trans hk8 (fun t ht => .inr (by simp at ht; rw [ht]; exact D.out.2.2.2.g0.2.1)), .inr ⟨all, HOK.out, HA.out, rfl⟩⟩
      · have h64i : ¬ (al : Int) = 64 := by omega
        have h64b : ((al : Int) == 64) = false := beq_eq_false_iff_ne.2 h64i
        have HE2 := Lib.hid (show applyE base ps = .error 2 from by rw [HE.out, if_neg (by rw [← HAL.out]; exact h64)])
        go_wp2_with (refine wpList_store_rowK rfl 23 (.tmp 4) (.tmp 42) rfl gr (encB z64) (encB z64) 23 rfl (by first | rfl | exact congrArg Value.agg HZ.out) D.out.2.2.2.r (by rfl) (hsz64 z64 z64_len) (encB_one _) ?_; intro w8 h8 hk8)
        have h8' : w8.heap[gr]? = _ := h8.out
        try simp only [Exit.inBlock, Exit.then]
        refine bodyPost_ret (v := .tuple #[.agg (encB z64).toArray, .iface 71 (.int .i64 2)]) (results_cell_tmp Try.results23 _ _ gr 23 _ (0, 0) _ _ rfl rfl h8' Try.underlying23 rfl (hsz64' z64 z64_len)) rfl ?_
        exact ⟨D.out.2.2.2.kp.trans hk8 (fun t ht => .inr (by simp at ht; rw [ht]; exact D.out.2.2.2.g0.2.1)), .inl ⟨2, HE2.out, by omega, rfl⟩⟩
end Go.Proofs.Ytljinghhalcnnaa
namespace Go.Proofs.Ytljinghhalcnnaa
open Go.RowKit

def patchE (base b : List UInt8) : Except Int (List UInt8) := match decE10 b with
  | .error e => .error e
  | .ok ps => applyE base ps
/-- The block, or the error. -/
def PatP (base b : List UInt8) (w : World) (r : Ending) (w' : World) : Prop :=
  Keeps [] w w' ∧ ((∃ e, patchE base b = .error e ∧ e ≠ 0 ∧ r = .returned (.tuple #[.agg (encB z64).toArray, errV e])) ∨ (∃ l, patchE base b = .ok l ∧ l.length = 64 ∧ r = .returned (.tuple #[.agg (encB l).toArray, .nilIface])))
theorem decE10_bnd {b : List UInt8} {ps : List Pa} (h : decE10 b = .ok ps) : ∀ p ∈ ps, (0 ≤ p.fr ∧ p.fr ≤ 64) ∧ (0 ≤ p.ln ∧ p.ln ≤ 64) := by
  have hp : ∀ (l : List UInt8) (e : Int), (0 ≤ (partR l e).2.2.fr ∧ (partR l e).2.2.fr ≤ 64) ∧ (0 ≤ (partR l e).2.2.ln ∧ (partR l e).2.2.ln ≤ 64) := fun l e => by
    cases hc : (boolR l e).2.2 with
    | true =>
      rw [partR_copy l e hc]
      have h1 := uintR64_le (boolR l e).1 (boolR l e).2.1
      have h2 := uintR64_le (uintR 64 (boolR l e).1 (boolR l e).2.1).1 (uintR 64 (boolR l e).1 (boolR l e).2.1).2.1
      simp only
      omega
    | false =>
      rw [partR_told l e hc]
      simp
  have hps : ∀ (l : List UInt8) (e : Int) (k : Nat), ∀ p ∈ (partsR k l e).2.2, (0 ≤ p.fr ∧ p.fr ≤ 64) ∧ (0 ≤ p.ln ∧ p.ln ≤ 64) := fun l e k => by
    induction k with
    | zero => intro p h; cases h
    | succ k ih =>
      intro p h
      have h1 : p ∈ (partsR k l e).2.2 ++ [(partR (partsR k l e).1 (partsR k l e).2.1).2.2] := h
      rcases List.mem_append.1 h1 with h2 | h2
      · exact ih p h2
      · obtain rfl := List.mem_singleton.1 h2
        exact hp _ _
  unfold decE10 at h
  simp only at h
  split at h
  · injection h with h
    subst h
    exact hps _ _ _
  · cases h
set_option maxRecDepth 100000 in
set_option maxHeartbeats 8000000 in
theorem patch_any (base : List UInt8) (hb : base.length = 64) (A0 : Option Addr) (b : List UInt8) (c0 : Nat) (w : World) (hl : b.length ≤ 140737488351232) (hc : b.length ≤ c0) (hr : RdB w A0 b) (hA : ∀ a, A0 = some a → 0 < b.length → a.block < w.heap.size) :
    Calls Try.prog 16 #[.agg (encB base).toArray, .slice A0 b.length c0] w (PatP base b w) := by
  have HB := Lib.hid hb
  have HZ := Lib.hid zero64k
  obtain ⟨bs, hbs⟩ : ∃ bs, bs = (encB base).toArray := ⟨_, rfl⟩
  obtain ⟨g, hg⟩ : ∃ g, g = w.heap.size := ⟨_, rfl⟩
  obtain ⟨gr, hgr⟩ : ∃ gr, gr = w.heap.size + 1 := ⟨_, rfl⟩
  obtain ⟨W, hW⟩ : ∃ W, W = (w.alloc (.cells bs 23)).alloc (.cells (encB z64).toArray 23) := ⟨_, rfl⟩
  have HI := Lib.hid (show W.heap[g]? = some (.cells bs 23 (0, 0)) ∧ W.heap[gr]? = some (.cells (encB z64).toArray 23 (0, 0)) ∧ Keeps [] w W ∧ w.heap.size ≤ gr ∧ g ≠ gr from
    ⟨by rw [hW, hg]; exact heap_alloc2_old _ _ _, by rw [hW, hgr]; exact heap_alloc2_new _ _ _, by rw [hW]; exact ((Keeps.refl [] w).alloc _).alloc _, by omega, by omega⟩)
  have H0 := Lib.hid (show RdB W A0 b ∧ (∀ a, A0 = some a → 0 < b.length → a.block < W.heap.size) ∧ b.length ≤ 140737488351232 ∧ b.length ≤ c0 from ⟨hr.keeps0 HI.out.2.2.1, fun a ha hp => Nat.lt_of_lt_of_le (hA a ha hp) HI.out.2.2.1.size, hl, hc⟩)
  have HW := Lib.hid (show W = (w.alloc (.cells bs 23)).alloc (.cells (encB z64).toArray 23) ∧ gr = w.heap.size + 1 ∧ g = w.heap.size from ⟨hW, hgr, hg⟩)
  have HBS := Lib.hid hbs
  have HII := Lib.hid (show (Try.prog.info? 23).map (·.size) = some bs.size from by rw [hbs, List.size_toArray, length_encB, hb]; exact infoBlk)
  rw [← hbs]
  clear hr hb hbs hg hgr hW hl hc hA
  go_enter Try.func16, Try.ntmps16
  go_upto_region 1 with fail
  rw [HZ.out]
  rw [← HW.out.1, ← HW.out.2.1, ← HW.out.2.2]
  go_wp2_with fail
  refine (dec10_any A0 b c0 W H0.out.2.2.1 H0.out.2.2.2 H0.out.1 H0.out.2.1).mono ?_
  rintro r w2 ⟨hk2, ⟨ts, A, c, hd, hts, hop, rfl⟩ | ⟨hd, rfl⟩⟩
  · have D2 := Lib.hid (show w2.heap[g]? = some (.cells bs 23 (0, 0)) ∧ w2.heap[gr]? = some (.cells (encB z64).toArray 23 (0, 0)) ∧ Keeps [] w w2 ∧ OpI W w2 A c ts ∧ patchE base b = applyE base (ts.map Pt.p) ∧ ts.length ≤ 64 from
      ⟨(hk2.block g (lt_of_block HI.out.1) (by simp)).trans HI.out.1, (hk2.block gr (lt_of_block HI.out.2.1) (by simp)).trans HI.out.2.1, HI.out.2.2.1.trans hk2 (by simp), hop, by unfold patchE; rw [hd], hts⟩)
    have HBD := Lib.hid (decE10_bnd hd)
    clear hk2 hd hts hop
    go_wp2_with (first
      | (refine wpList_load_row rfl 23 (.tmp 2) rfl g rfl 23 bs (0, 0) _ D2.out.1 Try.underlying23 rfl HII.out ?_))
    have HC := apply_any base HB.out A c ts w2 (Rd.of_own D2.out.2.2.2.1.own) (fun t ht => by
      have h1 := HBD.out t.p (List.mem_map.2 ⟨t, ht, rfl⟩)
      exact ⟨(D2.out.2.2.2.1.rd t ht).1.rd, by omega, by omega⟩) (by have := D2.out.2.2.2.2.2; omega)
    rw [← HBS.out] at HC
    refine HC.mono ?_
    clear HC
    rintro r w3 ⟨hk3, ⟨e, he, hne, rfl⟩ | ⟨l, hl, hl64, rfl⟩⟩
    · have D3 := Lib.hid (show w3.heap[gr]? = some (.cells (encB z64).toArray 23 (0, 0)) ∧ Keeps [] w w3 ∧ patchE base b = .error e ∧ e ≠ 0 from ⟨(hk3.block gr (lt_of_block D2.out.2.1) (by simp)).trans D2.out.2.1, D2.out.2.2.1.trans hk3 (by simp), D2.out.2.2.2.2.1.trans he, hne⟩)
      rw [errV_other hne]
      clear hk3 he hne
      go_wp2_with (refine wpList_store_rowK rfl 23 (.tmp 4) (.tmp 20) rfl gr (encB z64) (encB z64) 23 rfl rfl D3.out.1 (by rfl) (hsz64 z64 z64_len) (encB_one _) ?_; intro w8 h8 hk8)
      have h8' : w8.heap[gr]? = _ := h8.out
      try simp only [Exit.inBlock, Exit.then]
      refine bodyPost_ret (v := .tuple #[.agg (encB z64).toArray, .iface 71 (.int .i64 e)]) (results_cell_tmp Try.results16 _ _ gr 23 _ (0, 0) _ _ rfl rfl h8' Try.underlying23 rfl (hsz64' z64 z64_len)) rfl ?_
      exact ⟨D3.out.2.1.trans hk8 (fun t ht => .inr (by simp at ht; rw [ht]; exact HI.out.2.2.2.1)), .inl ⟨e, D3.out.2.2.1, D3.out.2.2.2, by rw [errV_other D3.out.2.2.2]⟩⟩
    · have D3 := Lib.hid (show w3.heap[gr]? = some (.cells (encB z64).toArray 23 (0, 0)) ∧ Keeps [] w w3 ∧ patchE base b = .ok l ∧ l.length = 64 from ⟨(hk3.block gr (lt_of_block D2.out.2.1) (by simp)).trans D2.out.2.1, D2.out.2.2.1.trans hk3 (by simp), D2.out.2.2.2.2.1.trans hl, hl64⟩)
      clear hk3 hl hl64
      go_wp2_with (refine wpList_store_rowK rfl 23 (.tmp 4) (.tmp 20) rfl gr (encB l) (encB z64) 23 rfl rfl D3.out.1 (by rw [length_encB, length_encB, D3.out.2.2.2]; rfl) (hsz64 l D3.out.2.2.2) (encB_one _) ?_; intro w8 h8 hk8)
      have h8' : w8.heap[gr]? = _ := h8.out
      try simp only [Exit.inBlock, Exit.then]
      refine bodyPost_ret (v := .tuple #[.agg (encB l).toArray, .nilIface]) (results_cell_tmp Try.results16 _ _ gr 23 _ (0, 0) _ _ rfl rfl h8' Try.underlying23 rfl (hsz64' l D3.out.2.2.2)) rfl ?_
      exact ⟨D3.out.2.1.trans hk8 (fun t ht => .inr (by simp at ht; rw [ht]; exact HI.out.2.2.2.1)), .inr ⟨l, D3.out.2.2.1, D3.out.2.2.2, rfl⟩⟩
  · have D2 := Lib.hid (show w2.heap[gr]? = some (.cells (encB z64).toArray 23 (0, 0)) ∧ Keeps [] w w2 ∧ patchE base b = .error 3 from ⟨(hk2.block gr (lt_of_block HI.out.2.1) (by simp)).trans HI.out.2.1, HI.out.2.2.1.trans hk2 (by simp), by unfold patchE; rw [hd]⟩)
    rw [errV_other (by decide)]
    clear hk2 hd
    go_wp2_with (refine wpList_store_rowK rfl 23 (.tmp 4) (.tmp 15) rfl gr (encB z64) (encB z64) 23 rfl (by first | rfl | exact congrArg Value.agg HZ.out) D2.out.1 (by rfl) (hsz64 z64 z64_len) (encB_one _) ?_; intro w8 h8 hk8)
    have h8' : w8.heap[gr]? = _ := h8.out
    try simp only [Exit.inBlock, Exit.then]
    refine bodyPost_ret (v := .tuple #[.agg (encB z64).toArray, .iface 71 (.int .i64 3)]) (results_cell_tmp Try.results16 _ _ gr 23 _ (0, 0) _ _ rfl rfl h8' Try.underlying23 rfl (hsz64' z64 z64_len)) rfl ?_
    exact ⟨D2.out.2.1.trans hk8 (fun t ht => .inr (by simp at ht; rw [ht]; exact HI.out.2.2.2.1)), .inl ⟨3, D2.out.2.2, by decide, by rw [errV_other (by decide)]⟩⟩
end Go.Proofs.Ytljinghhalcnnaa
namespace Go.Proofs.Ytljinghhalcnnaa
open Go.RowKit

theorem bh_mono {n m : Nat} (h : n ≤ m) : bh n ≤ bh m := by
  rcases Nat.lt_or_ge (bh m) (bh n) with hlt | hge
  · exfalso
    have h8 := bh_le n
    have h1 := (bh_spec m).1 (by omega)
    have h2 := (bh_spec n).2 (by omega)
    have h3 : (2 : Nat) ^ (7 * bh m + 7) ≤ 2 ^ (7 * bh n) := Nat.pow_le_pow_right (by omega) (by omega)
    omega
  · exact hge
theorem bh_lt {n m : Nat} (h : bh n < bh m) : n < m := by
  rcases Nat.lt_or_ge n m with h1 | h1
  · exact h1
  · have := bh_mono h1
    omega

theorem first_nat (n : Nat) (hn : n < 18446744073709551616) : (UInt8.ofNat (256 - 2 ^ (8 - bh n) + n / 2 ^ (8 * bh n))).toNat = 256 - 2 ^ (8 - bh n) + n / 2 ^ (8 * bh n) ∧
    (bh n < 8 → 256 - 2 ^ (8 - bh n) + n / 2 ^ (8 * bh n) < 256 - 2 ^ (7 - bh n)) ∧ 256 - 2 ^ (8 - bh n) + n / 2 ^ (8 * bh n) < 256 := by
  have h8 := bh_le n
  have key : (bh n < 8 → 256 - 2 ^ (8 - bh n) + n / 2 ^ (8 * bh n) < 256 - 2 ^ (7 - bh n)) ∧ 256 - 2 ^ (8 - bh n) + n / 2 ^ (8 * bh n) < 256 := by
    by_cases hk : bh n < 8
    · have hx := bh_top n hk
      have h1 : (1 : Nat) ≤ 2 ^ (7 - bh n) := Nat.one_le_two_pow
      have h2 : (2 : Nat) ^ (7 - bh n) ≤ 128 := Nat.pow_le_pow_right (by omega) (show 7 - bh n ≤ 7 by omega)
      have h3 : (2 : Nat) ^ (8 - bh n) = 2 * 2 ^ (7 - bh n) := by rw [show 8 - bh n = (7 - bh n) + 1 by omega, Nat.pow_succ, Nat.mul_comm]
      omega
    · have hk' : bh n = 8 := by omega
      rw [bh_top8 n hn hk', hk']
      simp
  refine ⟨?_, key⟩
  rw [UInt8.toNat_ofNat']
  exact Nat.mod_eq_of_lt key.2

theorem lead_pin : ∀ b : Fin 256, ∀ k : Fin 9, 256 - 2 ^ (8 - k.val) ≤ b.val → (k.val < 8 → b.val < 256 - 2 ^ (7 - k.val)) → 8 - Lib.bitLen (255 - b.val) = k.val := by decide +kernel
theorem lead_uint (n : Nat) (hn : n < 18446744073709551616) : lead (UInt8.ofNat (256 - 2 ^ (8 - bh n) + n / 2 ^ (8 * bh n))) = bh n := by
  obtain ⟨h1, h2, h3⟩ := first_nat n hn
  have h8 := bh_le n
  unfold lead
  rw [h1]
  exact lead_pin ⟨_, h3⟩ ⟨bh n, by omega⟩ (Nat.le_add_right _ _) h2
theorem tail_uint (n : Nat) (hn : n < 18446744073709551616) : tail (UInt8.ofNat (256 - 2 ^ (8 - bh n) + n / 2 ^ (8 * bh n))) = n / 2 ^ (8 * bh n) := by
  obtain ⟨h1, _, _⟩ := first_nat n hn
  unfold tail
  rw [lead_uint n hn, h1]
  exact Nat.add_sub_cancel_left _ _

/-- The bytes are the number again. -/
theorem acc_be_take (k n j : Nat) (hj : j ≤ k) : acc (n / 2 ^ (8 * k)) ((be k n).take j) = n / 2 ^ (8 * (k - j)) := by
  induction j with
  | zero => simp [acc]
  | succ j ih =>
    rw [be_take k n j (by omega), acc_snoc, ih (by omega), UInt8.toNat_ofNat', Nat.mod_mod]
    have e : 8 * (k - j) = 8 * (k - (j + 1)) + 8 := by omega
    have e2 : k - 1 - j = k - (j + 1) := by omega
    rw [e, e2, Nat.pow_add, ← Nat.div_div_eq_div_mul]
    show n / 2 ^ (8 * (k - (j + 1))) / 256 * 256 + n / 2 ^ (8 * (k - (j + 1))) % 256 = _
    omega
theorem acc_be (k n : Nat) : acc (n / 2 ^ (8 * k)) (be k n) = n := by
  have := acc_be_take k n k (Nat.le_refl k)
  rw [List.take_of_length_le (by simp)] at this
  simpa using this
/-- What was laid is taken off. -/
theorem numB_uint (n : Nat) (hn : n < 18446744073709551616) (rest : List UInt8) : numB (uintB n ++ rest) = (n, bh n + 1, 0) := by
  unfold uintB
  rw [List.cons_append, numB_cons, lead_uint n hn, tail_uint n hn, if_neg (by simp), List.take_append_of_le_length (by simp), List.take_of_length_le (by simp), acc_be, if_pos rfl]

/-! ## The order -/
theorem less_acc (l1 : List UInt8) : ∀ (l2 : List UInt8), l1.length = l2.length → ∀ a b, (acc a l1 < acc b l2) ↔ (a < b ∨ (a = b ∧ Op.bytesLess l1 l2 = true)) := by
  induction l1 with
  | nil =>
    intro l2 h a b
    obtain rfl : l2 = [] := List.eq_nil_of_length_eq_zero h.symm
    simp [acc, Op.bytesLess]
  | cons c l1 ih =>
    intro l2 h a b
    rcases l2 with _ | ⟨d, l2⟩
    · simp at h
    · have h' : l1.length = l2.length := by simpa using h
      have hc := c.toNat_lt
      have hd := d.toNat_lt
      have hi := ih l2 h' (a * 256 + c.toNat) (b * 256 + d.toNat)
      have e : (acc a (c :: l1) < acc b (d :: l2)) ↔ (acc (a * 256 + c.toNat) l1 < acc (b * 256 + d.toNat) l2) := Iff.rfl
      rw [e, hi]
      have e2 : Op.bytesLess (c :: l1) (d :: l2) = true ↔ (c.toNat < d.toNat ∨ (c.toNat = d.toNat ∧ Op.bytesLess l1 l2 = true)) := by
        simp only [Op.bytesLess, Bool.or_eq_true, decide_eq_true_eq, Bool.and_eq_true, beq_iff_eq, UInt8.lt_iff_toNat_lt, ← UInt8.toNat_inj]
      rw [e2]
      generalize Op.bytesLess l1 l2 = z
      constructor
      · rintro (h | ⟨h, hz⟩)
        · rcases Nat.lt_trichotomy a b with h2 | h2 | h2
          · exact .inl h2
          · exact .inr ⟨h2, .inl (by omega)⟩
          · omega
        · exact .inr ⟨by omega, .inr ⟨by omega, hz⟩⟩
      · rintro (h | ⟨h, h2 | ⟨h2, hz⟩⟩)
        · exact .inl (by omega)
        · exact .inl (by omega)
        · exact .inr ⟨by omega, hz⟩
theorem uint_less (n m : Nat) (hn : n < 18446744073709551616) (hm : m < 18446744073709551616) : Op.bytesLess (uintB n) (uintB m) = decide (n < m) := by
  obtain ⟨n1, n2, n3⟩ := first_nat n hn
  obtain ⟨m1, m2, m3⟩ := first_nat m hm
  have hn8 := bh_le n
  have hm8 := bh_le m
  have e2 : ∀ (c d : UInt8) (l1 l2 : List UInt8), Op.bytesLess (c :: l1) (d :: l2) = true ↔ (c.toNat < d.toNat ∨ (c.toNat = d.toNat ∧ Op.bytesLess l1 l2 = true)) := fun c d l1 l2 => by
    simp only [Op.bytesLess, Bool.or_eq_true, decide_eq_true_eq, Bool.and_eq_true, beq_iff_eq, UInt8.lt_iff_toNat_lt, ← UInt8.toNat_inj]
  have pw : ∀ i j : Nat, i < j → j ≤ 8 → (2 : Nat) ^ (8 - j) ≤ 2 ^ (7 - i) := fun i j h h8 => Nat.pow_le_pow_right (by omega) (by omega)
  rw [Bool.eq_iff_iff, decide_eq_true_iff]
  unfold uintB
  rw [e2, n1, m1]
  obtain ⟨qn, hqn⟩ : ∃ q, q = n / 2 ^ (8 * bh n) := ⟨_, rfl⟩
  obtain ⟨qm, hqm⟩ : ∃ q, q = m / 2 ^ (8 * bh m) := ⟨_, rfl⟩
  rw [← hqn] at n2 n3 ⊢
  rw [← hqm] at m2 m3 ⊢
  rcases Nat.lt_trichotomy (bh n) (bh m) with h | h | h
  · have := pw _ _ h hm8
    have h1 := n2 (by omega)
    have h2 := bh_lt h
    have h3 : (2 : Nat) ^ (7 - bh n) ≤ 128 := Nat.pow_le_pow_right (by omega) (show 7 - bh n ≤ 7 by omega)
    constructor
    · intro _; exact h2
    · intro _; left; omega
  · have := less_acc (be (bh n) n) (be (bh n) m) (by simp) (n / 2 ^ (8 * bh n)) (m / 2 ^ (8 * bh n))
    rw [acc_be, acc_be] at this
    rw [← h] at hqm ⊢
    rw [← hqn, ← hqm] at this
    rw [this]
    generalize Op.bytesLess (be (bh n) n) (be (bh n) m) = z
    constructor
    · rintro (h | ⟨h, hz⟩)
      · exact .inl (by omega)
      · exact .inr ⟨by omega, hz⟩
    · rintro (h | ⟨h, hz⟩)
      · exact .inl (by omega)
      · exact .inr ⟨by omega, hz⟩
  · have := pw _ _ h hn8
    have h1 := m2 (by omega)
    have h2 := bh_lt h
    have h3 : (2 : Nat) ^ (7 - bh m) ≤ 128 := Nat.pow_le_pow_right (by omega) (show 7 - bh m ≤ 7 by omega)
    constructor
    · rintro (h | ⟨h, _⟩) <;> omega
    · intro _; omega
end Go.Proofs.Ytljinghhalcnnaa
namespace Go.Proofs.Ytljinghhalcnnaa
open Go.RowKit

/-- A print. -/
def printR (l : List UInt8) (e : Int) : List UInt8 × Int × List UInt8 := ((offR 32 l e).1, (offR 32 l e).2.1, (offR 32 l e).2.2 ++ List.replicate (32 - (offR 32 l e).2.2.length) 0)
theorem offR_len (n : Nat) (l : List UInt8) (e : Int) : (offR n l e).2.2.length ≤ n := by
  unfold offR
  split
  · exact Nat.zero_le _
  · split
    · exact Nat.zero_le _
    · simp; omega
theorem length_printR (l : List UInt8) (e : Int) : (printR l e).2.2.length = 32 := by
  have := offR_len 32 l e
  simp [printR]; omega

theorem zero32 : (#[.int .u8 0, .int .u8 0, .int .u8 0, .int .u8 0, .int .u8 0, .int .u8 0, .int .u8 0, .int .u8 0, .int .u8 0, .int .u8 0, .int .u8 0, .int .u8 0, .int .u8 0, .int .u8 0, .int .u8 0, .int .u8 0, .int .u8 0, .int .u8 0, .int .u8 0, .int .u8 0, .int .u8 0, .int .u8 0, .int .u8 0, .int .u8 0, .int .u8 0, .int .u8 0, .int .u8 0, .int .u8 0, .int .u8 0, .int .u8 0, .int .u8 0, .int .u8 0] : Array Value) = (encB (List.replicate 32 0)).toArray := by rfl

end Go.Proofs.Ytljinghhalcnnaa
namespace Go.Proofs.Ytljinghhalcnnaa
open Go.RowKit

theorem bnd_uint (n : Nat) (hn : n < 18446744073709551616) (most : Nat) (above left : Int) (rest : List UInt8) (h : n ≤ most) (hl : left ≠ 0 → n ≤ rest.length) : bnd most above left (uintB n ++ rest) = (rest, 0, n) := by
  unfold bnd
  rw [numB_uint n hn rest]
  simp only [ne_eq, not_true_eq_false, if_false]
  have hlen : (uintB n).length = bh n + 1 := by simp
  rw [if_neg (by omega), if_neg (by rintro ⟨h1, h2⟩; have := hl h2; rw [List.length_append, hlen] at h1; omega)]
  rw [← hlen, List.drop_left]
theorem uintR_uint (n : Nat) (hn : n < 18446744073709551616) (rest : List UInt8) : uintR 18446744073709551615 (uintB n ++ rest) 0 = (rest, 0, n) := by
  unfold uintR
  rw [if_neg (by simp), bnd_uint n hn _ _ _ _ (by omega) (by simp)]
theorem intR_int (n : Int) (h1 : -9223372036854775808 ≤ n) (h2 : n ≤ 9223372036854775807) (rest : List UInt8) : intR (intB n ++ rest) 0 = (rest, 0, n) := by
  by_cases hn : n < 0
  · rw [show intB n = 1 :: uintB (-(n + 1)).toNat by unfold intB; rw [if_pos hn], List.cons_append]
    unfold intR
    rw [if_neg (by simp)]
    simp only
    rw [bnd_uint _ (by omega) _ _ _ _ (by omega) (by simp)]
    simp
    omega
  · rw [show intB n = 0 :: uintB n.toNat by unfold intB; rw [if_neg hn], List.cons_append]
    unfold intR
    rw [if_neg (by simp)]
    simp only
    rw [bnd_uint _ (by omega) _ _ _ _ (by omega) (by simp)]
    simp
    omega
theorem boolR_bool (b : Bool) (rest : List UInt8) : boolR ([if b then 1 else 0] ++ rest) 0 = (rest, 0, b) := by
  cases b <;> simp [boolR]
theorem bytesR_bytes (l rest : List UInt8) (hl : l.length < 9223372036854775808) : bytesR (l.length : Int) (lenB l ++ rest) 0 = (rest, 0, l) := by
  unfold bytesR lenB
  rw [if_neg (by simp), if_neg (by omega), List.append_assoc, bnd_uint _ (by omega) _ _ _ _ (by simp) (by simp)]
  simp
theorem printR_print (p rest : List UInt8) (h32 : p.length = 32) : printR (p ++ rest) 0 = (rest, 0, p) := by
  have e : offR 32 (p ++ rest) 0 = (rest, 0, p) := by
    unfold offR
    rw [if_neg (by simp), if_neg (by rw [List.length_append]; omega), ← h32, List.drop_left, List.take_left]
  unfold printR
  rw [e]
  simp [h32]
theorem doneR_nil : doneR [] 0 = 0 := by decide
end Go.Proofs.Ytljinghhalcnnaa
