/- The operation copy onto a block that is known whole, elements of any size. No program is named here. The document's block that parts make of a base: the walk. The parts of bytes: what holds at work. -/
import Derived.Test.YtljinghhalcnnaaDoorQDeltaReads4
import Derived.Laws.CopyRow
import Derived.Test.YtljinghhalcnnaaDoorQDeltaReads11
import Derived.Test.YtljinghhalcnnaaDoorQDeltaReads10
import Derived.Deep.DeepCutAuto
namespace Go.Proofs.YtljinghhalcnnaaDoor
open Go.RowKit

theorem run_copy_rowN {P : Program} (w : World) (dT sT ty elem : TypeId) (size : Nat) (g o dLen dCap : Nat) (a : Addr) (sLen sCap : Nat) (cur : List Value) (t : TypeId) (cs : List Value)
    (hu : P.underlying dT = some (.slice elem)) (hs : (P.info? elem).map (·.size) = some size)
    (hg : w.heap[g]? = some (.cells cur.toArray t (0, 0))) (hn : cs.length = Nat.min sLen dLen * size)
    (hsrc : ∀ j v, cs[j]? = some v → w.cell? (a.add j) = some v) (hfit : o + cs.length ≤ cur.length) (h1 : ∀ v ∈ cs, v.oneCell' = true) :
    (Builtin.copy_ #[dT, sT] ty #[.slice (some ⟨g, o, none⟩) dLen dCap, .slice (some a) sLen sCap]).run P w =
      .ok (goInt (Nat.min sLen dLen)) (w.setRow g (cur.take o ++ cs ++ cur.drop (o + cs.length)).toArray) := by
  have hl := run_loadCells_list (P := P) w a cs hsrc
  have hst := run_storeCells_at P g o t cs 0 cur.toArray w hg (by simpa using hfit) h1
  cases hq : P.info? elem with
  | none => simp [hq] at hs
  | some i =>
    have hi : i.size = size := by simpa [hq] using hs
    rw [hn] at hl
    simp [Builtin.copy_, run_underlying hu, Builtin.lenOf, Builtin.firstCells, sizeOf, typeInfo, hq, hi, hl, hst]
section
variable {P : Program} {w : World} {ops : Array Oper} {rest : List Oper} {o : Oper} {a : Act} {Q : Exit → Act → World → Prop} {K : Act → World → Prop}
theorem op_copyN (d s : Operand) (dT sT elem : TypeId) (size : Nat) (ho : o.op = .call { callee := .builtin .copy, args := #[d, s], argTypes := #[dT, sT] }) (hu : P.underlying dT = some (.slice elem)) (hsz : (P.info? elem).map (·.size) = some size)
    (g off dLen dCap : Nat) (hd : a.eval d = .slice (some ⟨g, off, none⟩) dLen dCap) (ad : Addr) (sLen sCap : Nat) (hs : a.eval s = .slice (some ad) sLen sCap)
    (cur : List Value) (t : TypeId) (hg : w.heap[g]? = some (.cells cur.toArray t (0, 0))) (cs : List Value) (hn : cs.length = Nat.min sLen dLen * size)
    (hsrc : ∀ j v, cs[j]? = some v → w.cell? (ad.add j) = some v) (hfit : off + cs.length ≤ cur.length) (h1 : ∀ v ∈ cs, v.oneCell' = true)
    (h : ∀ w', Hid (w'.heap[g]? = some (.cells (cur.take off ++ cs ++ cur.drop (off + cs.length)).toArray t (0, 0))) → Keeps [g] w w' → K (a.put o.dst (goInt (Nat.min sLen dLen))) w') : o.wp P a w K Q := by
  have hrun := run_copy_rowN (P := P) w dT sT o.type elem size g off dLen dCap ad sLen sCap cur t cs hu hsz hg hn hsrc hfit h1
  obtain ⟨W, hW⟩ : ∃ W, W = w.setRow g (cur.take off ++ cs ++ cur.drop (off + cs.length)).toArray := ⟨_, rfl⟩
  have h2 : W.heap[g]? = some (.cells (cur.take off ++ cs ++ cur.drop (off + cs.length)).toArray t (0, 0)) := by rw [hW, setRow_heap w g _ _ t _ hg]
  have h3 : Keeps [g] w W := by rw [hW]; exact ⟨rfl, rfl, rfl, by simp [World.setRow], fun k _ hk => setRow_other w g k _ (by simpa using hk)⟩
  rw [← hW] at hrun
  unfold Oper.wp execOp
  simp only [ho, resolve, invoke, builtin, Sem.run_bind, Sem.run_pure, Result.andThen_ok, List.map_toArray, List.map_cons, List.map_nil, hd, hs, hrun]
  exact h W h2 h3
theorem wpList_copyN (hgd : o.guard = none) (d s : Operand) (dT sT elem : TypeId) (size : Nat) (ho : o.op = .call { callee := .builtin .copy, args := #[d, s], argTypes := #[dT, sT] }) (hu : P.underlying dT = some (.slice elem)) (hsz : (P.info? elem).map (·.size) = some size)
    (g off dLen dCap : Nat) (hd : a.eval d = .slice (some ⟨g, off, none⟩) dLen dCap) (ad : Addr) (sLen sCap : Nat) (hs : a.eval s = .slice (some ad) sLen sCap)
    (cur : List Value) (t : TypeId) (hg : w.heap[g]? = some (.cells cur.toArray t (0, 0))) (cs : List Value) (hn : cs.length = Nat.min sLen dLen * size)
    (hsrc : ∀ j v, cs[j]? = some v → w.cell? (ad.add j) = some v) (hfit : off + cs.length ≤ cur.length) (h1 : ∀ v ∈ cs, v.oneCell' = true)
    (h : ∀ w', Hid (w'.heap[g]? = some (.cells (cur.take off ++ cs ++ cur.drop (off + cs.length)).toArray t (0, 0))) → Keeps [g] w w' → wpList P ops Q rest (a.put o.dst (goInt (Nat.min sLen dLen))) w') : wpList P ops Q (o :: rest) a w :=
  wpList_plain hgd fun _ hK => op_copyN d s dT sT elem size ho hu hsz g off dLen dCap hd ad sLen sCap hs cur t hg cs hn hsrc hfit h1 fun w' h2 h3 => hK _ _ (h w' h2 h3)
end
end Go.Proofs.YtljinghhalcnnaaDoor
namespace Go.Proofs.YtljinghhalcnnaaDoor
open Go.RowKit

/-- The block, or the error's number. -/
def RApP (base : List UInt8) (ps : List Pa) (w : World) (r : Ending) (w' : World) : Prop :=
  Keeps [] w w' ∧ ((∃ e, applyE base ps = .error e ∧ e ≠ 0 ∧ r = .returned (.tuple #[.agg (encB z64).toArray, .int .i64 e])) ∨ (∃ l, applyE base ps = .ok l ∧ l.length = 64 ∧ r = .returned (.tuple #[.agg (encB l).toArray, .int .i64 0])))
theorem infoB1r : (Tryd.prog.info? 5).map (·.size) = some 1 := by kernel_rfl
set_option maxRecDepth 100000 in
set_option maxHeartbeats 16000000 in
theorem rapply_any (base : List UInt8) (hb : base.length = 64) (A : Option Addr) (c : Nat) (ts : List Pt) (w : World) (hr : Rd w A ts.length 4 (encPt ts)) (hbs : ∀ t ∈ ts, RdB w t.A t.p.b ∧ (-9223372036854775808 ≤ t.p.fr ∧ t.p.fr ≤ 9223372036854775807) ∧ (-9223372036854775808 ≤ t.p.ln ∧ t.p.ln ≤ 9223372036854775807) ∧ t.p.b.length ≤ 140737488351232) (hl : ts.length ≤ 1000) :
    Calls Tryd.prog 11 #[.agg (encB base).toArray, .slice A ts.length c] w (RApP base (ts.map Pt.p) w) := by
  have HR := Lib.hid (And.intro hr hbs)
  have HB := Lib.hid hb
  obtain ⟨ps, hps⟩ : ∃ ps, ps = ts.map Pt.p := ⟨_, rfl⟩
  obtain ⟨n, hn⟩ : ∃ n, n = ts.length := ⟨_, rfl⟩
  have HN := Lib.hid (show n = ts.length ∧ ps = ts.map Pt.p ∧ ps.length = n from ⟨hn, hps, by rw [hps, List.length_map, hn]⟩)
  have HZ := Lib.hid zero64k
  obtain ⟨bs, hbs2⟩ : ∃ bs, bs = (encB base).toArray := ⟨_, rfl⟩
  obtain ⟨g, hg⟩ : ∃ g, g = w.heap.size := ⟨_, rfl⟩
  obtain ⟨gr, hgr⟩ : ∃ gr, gr = w.heap.size + 1 := ⟨_, rfl⟩
  obtain ⟨W, hW⟩ : ∃ W, W = (w.alloc (.cells bs 23)).alloc (.cells (encB z64).toArray 23) := ⟨_, rfl⟩
  have HI := Lib.hid (show ApI w W g gr base none 0 [] from
    ⟨by rw [hW, hg, hbs2]; exact heap_alloc2_old _ _ _, by rw [hW, hgr]; exact heap_alloc2_new _ _ _, OwnB.nil _ _, by rw [hW]; exact ((Keeps.refl [] w).alloc _).alloc _, by simp, by omega⟩)
  have HW := Lib.hid (show W = (w.alloc (.cells bs 23)).alloc (.cells (encB z64).toArray 23) ∧ gr = w.heap.size + 1 ∧ g = w.heap.size from ⟨hW, hgr, hg⟩)
  rw [← hps, ← hn, ← hbs2]
  rw [← hn] at hl
  clear hr hbs hb hps hn hbs2 hg hgr hW
  go_enter Tryd.func11, Tryd.ntmps11
  go_upto_region 1 with fail
  rw [HZ.out]
  rw [← HW.out.1, ← HW.out.2.1, ← HW.out.2.2]
  go_wp2_with fail
  go_loopw [6, 7] (fun s6 s7 wr => ∃ (i : Nat) (A' : Option Addr) (c' : Nat) (all : List UInt8), s7 = .int .i64 i ∧ s6 = .slice A' all.length c' ∧ Hid (i ≤ n ∧ applyF base (ps.drop i) all = applyE base ps ∧ all.length ≤ 64 ∧ ApI w wr g gr base A' c' all)) (fun _ s7 _ => n - (intOf s7).toNat)
  case atStart => exact ⟨0, none, 0, [], rfl, rfl, ⟨Nat.zero_le _, rfl, by simp, HI.out⟩⟩
  case round =>
    clear HI
    obtain ⟨i, A', c', all, rfl, rfl, D⟩ := hrel
    obtain ⟨al, hal⟩ : ∃ al, al = all.length := ⟨_, rfl⟩
    have HAL := Lib.hid hal
    have hal64 : al ≤ 64 := by have := D.out; omega
    rw [← hal]
    clear hal
    by_cases hin : i < n
    · have hini : (i : Int) < (n : Int) := by omega
      have HIL := Lib.hid (show i < ts.length ∧ i < ps.length ∧ i < n from by have := HN.out; omega)
      obtain ⟨ga, oa, rfl, k0, k1, k2, k3⟩ := pt_cells (HR.out.1.keeps0 D.out.2.2.2.kp) HIL.out.1
      obtain ⟨t, ht⟩ : ∃ t, t = ts[i]'(HIL.out.1) := ⟨_, rfl⟩
      rw [← ht] at k0 k1 k2 k3
      have HTT := Lib.hid (show t ∈ ts ∧ ps[i]'(HIL.out.2.1) = t.p from ⟨by rw [ht]; exact List.getElem_mem _, by rw [ht]; simp [HN.out.2.1]⟩)
      have HST := Lib.hid (show (∀ e, partB base t.p = .error e → applyE base ps = .error e) ∧ (∀ b, partB base t.p = .ok b → 64 < all.length + b.length → applyE base ps = .error 2) ∧ (∀ b, partB base t.p = .ok b → ¬ 64 < all.length + b.length → applyF base (ps.drop (i + 1)) (all ++ b) = applyE base ps) from by
        have h0 := applyF_step base ps all HIL.out.2.1
        rw [D.out.2.1, HTT.out.2] at h0
        exact ⟨fun e he => by rw [h0, he], fun b hb hlt => by rw [h0, hb]; exact if_pos hlt, fun b hb hlt => by rw [h0, hb]; exact (if_neg hlt).symm⟩)
      obtain ⟨gx, hgx⟩ : ∃ gx, gx = wr.heap.size := ⟨_, rfl⟩
      obtain ⟨w4, hw4⟩ : ∃ w4, w4 = wr.alloc (.cells #[.bool t.p.cp, .int .i64 t.p.fr, .int .i64 t.p.ln, .slice t.A t.p.b.length t.c] 63) := ⟨_, rfl⟩
      have HX := Lib.hid (show Keeps [] wr w4 ∧ w4.heap[gx]? = some (.cells #[.bool t.p.cp, .int .i64 t.p.fr, .int .i64 t.p.ln, .slice t.A t.p.b.length t.c] 63 (0, 0)) from ⟨by rw [hw4]; exact (Keeps.refl [] wr).alloc _, by rw [hw4, hgx]; exact heap_alloc_new _ _⟩)
      have HW2 := Lib.hid (And.intro hw4 hgx)
      have D4 := Lib.hid (D.out.2.2.2.keeps0 HX.out.1)
      have HTB := Lib.hid (show RdB w4 t.A t.p.b ∧ (-9223372036854775808 ≤ t.p.fr ∧ t.p.fr ≤ 9223372036854775807) ∧ (-9223372036854775808 ≤ t.p.ln ∧ t.p.ln ≤ 9223372036854775807) ∧ t.p.b.length ≤ 140737488351232 from ⟨(HR.out.2 t HTT.out.1).1.keeps0 D4.out.kp, (HR.out.2 t HTT.out.1).2⟩)
      clear hw4 hgx ht hin
      go_upto_region 6 with fail
      rw [← HW2.out.1, ← HW2.out.2]
      clear k0 k1 k2 k3
      have k0 : w4.cell? ⟨gx, 0, none⟩ = some (.bool t.p.cp) := by rw [cell_of_row _ _ _ _ _ _ HX.out.2]; rfl
      have k1 : w4.cell? ⟨gx, 1, none⟩ = some (.int .i64 t.p.fr) := by rw [cell_of_row _ _ _ _ _ _ HX.out.2]; rfl
      have k2 : w4.cell? ⟨gx, 2, none⟩ = some (.int .i64 t.p.ln) := by rw [cell_of_row _ _ _ _ _ _ HX.out.2]; rfl
      have k3 : w4.cell? ⟨gx, 3, none⟩ = some (.slice t.A t.p.b.length t.c) := by rw [cell_of_row _ _ _ _ _ _ HX.out.2]; rfl
      cases hcp : t.p.cp
      case' true =>
        rw [hcp] at k0
        obtain ⟨fr, hfr⟩ : ∃ fr, fr = t.p.fr := ⟨_, rfl⟩
        obtain ⟨ln, hln⟩ : ∃ ln, ln = t.p.ln := ⟨_, rfl⟩
        rw [← hfr] at k1
        rw [← hln] at k2
        have hr1 : -9223372036854775808 ≤ fr ∧ fr ≤ 9223372036854775807 := by rw [hfr]; exact HTB.out.2.1
        have hr2 : -9223372036854775808 ≤ ln ∧ ln ≤ 9223372036854775807 := by rw [hln]; exact HTB.out.2.2.1
        have HBAD := Lib.hid (show (fr < 0 ∨ ln < 1 ∨ 64 < fr ∨ 64 - fr < ln) → applyE base ps = .error 4 from fun h => HST.out.1 4 (by unfold partB; rw [hcp, if_pos rfl, ← hfr, ← hln, if_pos h]))
        have HOK := Lib.hid (show ¬ (fr < 0 ∨ ln < 1 ∨ 64 < fr ∨ 64 - fr < ln) → partB base t.p = .ok ((base.drop fr.toNat).take ln.toNat) from fun h => by unfold partB; rw [hcp, if_pos rfl, ← hfr, ← hln, if_neg h])
        clear hcp hfr hln
        rcases (show fr < 0 ∨ (¬ fr < 0 ∧ 63 < fr) ∨ (¬ fr < 0 ∧ ¬ 63 < fr ∧ ln < 1) ∨ (¬ fr < 0 ∧ ¬ 63 < fr ∧ ¬ ln < 1 ∧ 64 - fr < ln) ∨ (¬ fr < 0 ∧ ¬ 63 < fr ∧ ¬ ln < 1 ∧ ¬ 64 - fr < ln) by omega) with h1 | ⟨h1, h2⟩ | ⟨h1, h2, h3⟩ | ⟨h1, h2, h3, h4⟩ | ⟨h1, h2, h3, h4⟩
        case' inl =>
          have HE := Lib.hid (HBAD.out (by omega))
          go_wp2_with (refine wpList_store_rowK rfl 23 (.tmp 4) (.tmp 46) rfl gr (encB z64) (encB z64) 23 rfl (by first | rfl | exact congrArg Value.agg HZ.out) D4.out.r (by rfl) (hsz64 z64 z64_len) (encB_one _) ?_; intro w8 h8 hk8)
          have h8' : w8.heap[gr]? = _ := h8.out
          try simp only [Exit.inBlock, Exit.then]
          refine bodyPost_ret (v := .tuple #[.agg (encB z64).toArray, .int .i64 4]) (results_cell_tmp Tryd.results11 _ _ gr 23 _ (0, 0) _ _ rfl rfl h8' Tryd.underlying23 rfl (hsz64' z64 z64_len)) rfl ?_
          exact ⟨D4.out.kp.trans hk8 (fun t ht => .inr (by simp at ht; rw [ht]; exact D4.out.g0.2.1)), .inl ⟨4, HE.out, by omega, rfl⟩⟩
        case' inr.inl =>
          have HE := Lib.hid (HBAD.out (by omega))
          go_wp2_with (refine wpList_store_rowK rfl 23 (.tmp 4) (.tmp 46) rfl gr (encB z64) (encB z64) 23 rfl (by first | rfl | exact congrArg Value.agg HZ.out) D4.out.r (by rfl) (hsz64 z64 z64_len) (encB_one _) ?_; intro w8 h8 hk8)
          have h8' : w8.heap[gr]? = _ := h8.out
          try simp only [Exit.inBlock, Exit.then]
          refine bodyPost_ret (v := .tuple #[.agg (encB z64).toArray, .int .i64 4]) (results_cell_tmp Tryd.results11 _ _ gr 23 _ (0, 0) _ _ rfl rfl h8' Tryd.underlying23 rfl (hsz64' z64 z64_len)) rfl ?_
          exact ⟨D4.out.kp.trans hk8 (fun t ht => .inr (by simp at ht; rw [ht]; exact D4.out.g0.2.1)), .inl ⟨4, HE.out, by omega, rfl⟩⟩
        case' inr.inr.inl =>
          have HE := Lib.hid (HBAD.out (by omega))
          go_wp2_with (refine wpList_store_rowK rfl 23 (.tmp 4) (.tmp 46) rfl gr (encB z64) (encB z64) 23 rfl (by first | rfl | exact congrArg Value.agg HZ.out) D4.out.r (by rfl) (hsz64 z64 z64_len) (encB_one _) ?_; intro w8 h8 hk8)
          have h8' : w8.heap[gr]? = _ := h8.out
          try simp only [Exit.inBlock, Exit.then]
          refine bodyPost_ret (v := .tuple #[.agg (encB z64).toArray, .int .i64 4]) (results_cell_tmp Tryd.results11 _ _ gr 23 _ (0, 0) _ _ rfl rfl h8' Tryd.underlying23 rfl (hsz64' z64 z64_len)) rfl ?_
          exact ⟨D4.out.kp.trans hk8 (fun t ht => .inr (by simp at ht; rw [ht]; exact D4.out.g0.2.1)), .inl ⟨4, HE.out, by omega, rfl⟩⟩
        case' inr.inr.inr.inl =>
          have HE := Lib.hid (HBAD.out (by omega))
          have h5 : wrap64 (64 - fr) = 64 - fr := by unfold wrap64; omega
          go_wp2_with (refine wpList_store_rowK rfl 23 (.tmp 4) (.tmp 46) rfl gr (encB z64) (encB z64) 23 rfl (by first | rfl | exact congrArg Value.agg HZ.out) D4.out.r (by rfl) (hsz64 z64 z64_len) (encB_one _) ?_; intro w8 h8 hk8)
          have h8' : w8.heap[gr]? = _ := h8.out
          try simp only [Exit.inBlock, Exit.then]
          refine bodyPost_ret (v := .tuple #[.agg (encB z64).toArray, .int .i64 4]) (results_cell_tmp Tryd.results11 _ _ gr 23 _ (0, 0) _ _ rfl rfl h8' Tryd.underlying23 rfl (hsz64' z64 z64_len)) rfl ?_
          exact ⟨D4.out.kp.trans hk8 (fun t ht => .inr (by simp at ht; rw [ht]; exact D4.out.g0.2.1)), .inl ⟨4, HE.out, by omega, rfl⟩⟩
        have HP := HOK.out (by omega)
        have h5 : wrap64 (64 - fr) = 64 - fr := by unfold wrap64; omega
        obtain ⟨f, rfl⟩ : ∃ f : Nat, fr = (f : Int) := ⟨fr.toNat, by omega⟩
        obtain ⟨m, rfl⟩ : ∃ m : Nat, ln = (m : Int) := ⟨ln.toNat, by omega⟩
        obtain ⟨q, hq⟩ : ∃ q, q = f + m := ⟨_, rfl⟩
        have dq : (f : Int) + (m : Int) = (q : Int) := by omega
        have u6 : f ≤ q := by omega
        have u7 : q ≤ 64 := by omega
        have HXX : ∃ x : List UInt8, partB base t.p = .ok x ∧ x.length = m ∧ (∀ z, Keeps [] w4 z → RdB z (secA (some ⟨g, 0, none⟩) f 64 1) x) := ⟨(base.drop f).take m, HP, by rw [List.length_take, List.length_drop, HB.out]; omega, fun z hz => (rdb_row (D4.out.keeps0 hz).b).sec f m 64 (by rw [HB.out]; omega) (by omega)⟩
        have HQ := Lib.hid (show q - f = m from by omega)
        clear hq HP HOK HBAD hr1 hr2
        go_upto_region 13 with (refine wpList_secArr rfl 23 (.tmp 2) (some (.tmp 48)) (some (.tmp 53)) none rfl Tryd.underlying23 infoB1d ⟨g, 0, none⟩ f q 64 rfl (Bnd.at_ rfl) (Bnd.at_ rfl) Bnd.no u6 u7 (Nat.le_refl _) (by simp) ?_)
        rw [HQ.out]
        obtain ⟨x, hx1, hx2, hx3⟩ := HXX
        obtain ⟨SA, hSA⟩ : ∃ SA, SA = secA (some ⟨g, 0, none⟩) f 64 1 := ⟨_, rfl⟩
        obtain ⟨cc, hcc⟩ : ∃ cc, cc = 64 - f := ⟨_, rfl⟩
        rw [← hSA] at hx3
        rw [← hSA, ← hcc]
        have HS := Lib.hid (show partB base t.p = .ok x ∧ x.length = m ∧ (∀ z, Keeps [] w4 z → RdB z SA x) from ⟨hx1, hx2, hx3⟩)
        have hm47 : m ≤ 140737488351232 := by omega
        clear hx1 hx2 hx3 hSA hcc k0 k1 k2 k3 u6 u7 dq h1 h2 h3 h4 h5
      rotate_left
      case' false =>
        rw [hcp] at k0
        obtain ⟨m, hm⟩ : ∃ m, m = t.p.b.length := ⟨_, rfl⟩
        rw [← hm] at k3
        rcases Nat.eq_zero_or_pos m with h0 | h0
        case' inl =>
          have HE := Lib.hid (HST.out.1 3 (by unfold partB; rw [hcp, if_neg (by simp), if_pos (List.eq_nil_of_length_eq_zero (by omega))]))
          subst h0
          clear hm hcp
          go_wp2_with (refine wpList_store_rowK rfl 23 (.tmp 4) (.tmp 58) rfl gr (encB z64) (encB z64) 23 rfl (by first | rfl | exact congrArg Value.agg HZ.out) D4.out.r (by rfl) (hsz64 z64 z64_len) (encB_one _) ?_; intro w8 h8 hk8)
          have h8' : w8.heap[gr]? = _ := h8.out
          try simp only [Exit.inBlock, Exit.then]
          refine bodyPost_ret (v := .tuple #[.agg (encB z64).toArray, .int .i64 3]) (results_cell_tmp Tryd.results11 _ _ gr 23 _ (0, 0) _ _ rfl rfl h8' Tryd.underlying23 rfl (hsz64' z64 z64_len)) rfl ?_
          exact ⟨D4.out.kp.trans hk8 (fun t ht => .inr (by simp at ht; rw [ht]; exact D4.out.g0.2.1)), .inl ⟨3, HE.out, by omega, rfl⟩⟩
        have hm0 : ¬ (m : Int) = 0 := by omega
        have hm1 : ((m : Int) == 0) = false := beq_eq_false_iff_ne.2 hm0
        have hm47 : m ≤ 140737488351232 := by rw [hm]; exact HTB.out.2.2.2
        obtain ⟨x, hx⟩ : ∃ x, x = t.p.b := ⟨_, rfl⟩
        obtain ⟨SA, hSA⟩ : ∃ SA, SA = t.A := ⟨_, rfl⟩
        obtain ⟨cc, hcc⟩ : ∃ cc, cc = t.c := ⟨_, rfl⟩
        have HS := Lib.hid (show partB base t.p = .ok x ∧ x.length = m ∧ (∀ z, Keeps [] w4 z → RdB z SA x) from ⟨by unfold partB; rw [hcp, if_neg (by simp), if_neg (fun e => by rw [e] at hm; simp at hm; omega), hx], by rw [hx, hm], fun z hz => by rw [hx, hSA]; exact HTB.out.1.keeps0 hz⟩)
        rw [← hSA, ← hcc] at k3
        clear hx hSA hcc hm hcp
        go_upto_region 13 with fail
        clear hm0 hm1 h0 k0 k1 k2 k3
      all_goals
        have h64w : wrap64 ((al : Int) + (m : Int)) = (al : Int) + (m : Int) := by unfold wrap64; omega
        rcases (show 64 < al + m ∨ ¬ 64 < al + m by omega) with hlt | hlt
        case' inl =>
          have hlti : (64 : Int) < (al : Int) + (m : Int) := by omega
          have HE := Lib.hid (HST.out.2.1 x HS.out.1 (by rw [← HAL.out, HS.out.2.1]; exact hlt))
          clear hlt
          go_wp2_with (refine wpList_store_rowK rfl 23 (.tmp 4) (.tmp 65) rfl gr (encB z64) (encB z64) 23 rfl (by first | rfl | exact congrArg Value.agg HZ.out) D4.out.r (by rfl) (hsz64 z64 z64_len) (encB_one _) ?_; intro w8 h8 hk8)
          have h8' : w8.heap[gr]? = _ := h8.out
          try simp only [Exit.inBlock, Exit.then]
          refine bodyPost_ret (v := .tuple #[.agg (encB z64).toArray, .int .i64 2]) (results_cell_tmp Tryd.results11 _ _ gr 23 _ (0, 0) _ _ rfl rfl h8' Tryd.underlying23 rfl (hsz64' z64 z64_len)) rfl ?_
          exact ⟨D4.out.kp.trans hk8 (fun t ht => .inr (by simp at ht; rw [ht]; exact D4.out.g0.2.1)), .inl ⟨2, HE.out, by omega, rfl⟩⟩
        have hlti : ¬ (64 : Int) < (al : Int) + (m : Int) := by omega
        have HE := Lib.hid (HST.out.2.2 x HS.out.1 (by rw [← HAL.out, HS.out.2.1]; exact hlt))
        have HAM := Lib.hid (show al + m ≤ 64 from by omega)
        clear hlt
        go_wp2_with (at_builtin; refine wpList_appendB rfl (.tmp 66) (.tmp 67) 25 5 rfl Tryd.underlying25 infoB A' c' all (by rw [← HAL.out]; rfl) D4.out.own SA cc x (by rw [HS.out.2.1]; rfl) (HS.out.2.2 w4 (Keeps.refl [] w4)) (by have := HAM.out; have := HAL.out; have := HS.out.2.1; omega) ?_; intro A6 c6 w6 l6 hl6 ho6 hk6 hf6; have D6 := Lib.hid (show i + 1 ≤ n ∧ applyF base (ps.drop (i + 1)) l6 = applyE base ps ∧ l6.length ≤ 64 ∧ ApI w w6 g gr base A6 c6 l6 from ⟨HIL.out.2.2, by rw [hl6.out]; exact HE.out, (by rw [hl6.out, List.length_append, ← HAL.out, HS.out.2.1]; exact HAM.out), D4.out.add ho6 hk6 hf6⟩); clear hl6 ho6 hk6 hf6)
        go_roundw
        case rel => exact ⟨i + 1, A6, c6, l6, by go_num, rfl, D6⟩
        case measure => have := HIL.out; simp [intOf]; omega
    · have hini : ¬ (i : Int) < (n : Int) := by omega
      have HE := Lib.hid (show applyE base ps = (if all.length = 64 then .ok all else .error 2) from by
        rw [← D.out.2.1, List.drop_of_length_le (by have := HN.out; omega)]
        rfl)
      clear hin
      by_cases h64 : al = 64
      · subst h64
        have HA := Lib.hid (show all.length = 64 from HAL.out.symm)
        obtain ⟨g2, hg2⟩ : ∃ g2, A' = some ⟨g2, 0, none⟩ := by
          rcases D.out.2.2.2.own.2 with ⟨_, h0⟩ | ⟨g2, cap, cur, hv, _⟩
          · have := HA.out; omega
          · injection hv with e1 _ _
            exact ⟨g2, e1⟩
        subst hg2
        have HOK := Lib.hid (show applyE base ps = .ok all from by rw [HE.out, if_pos HA.out])
        obtain ⟨gx, hgx⟩ : ∃ gx, gx = wr.heap.size := ⟨_, rfl⟩
        have HG := Lib.hid (show gr ≠ gx ∧ g2 ≠ gx ∧ w.heap.size ≤ gx from ⟨by have := lt_of_block D.out.2.2.2.r; omega, by have h1 : g2 < wr.heap.size := D.out.2.2.2.own.lt _ rfl; omega, by rw [hgx]; exact D.out.2.2.2.kp.size⟩)
        have HGX := Lib.hid hgx
        have HAI := Lib.hid (show (Tryd.prog.info? 23).map (·.size) = some (encB all).length from hsz64 all HA.out)
        have HAS := Lib.hid (show (Tryd.prog.info? 23).map (·.size) = some (encB all).toArray.size from hsz64' all HA.out)
        have hnl : ¬ (64 : Int) < 64 := by omega
        clear hgx
        go_upto_region 19 with (first
          | (refine wpList_store_rowK rfl 23 (.tmp 10) (.tmp 73) rfl wr.heap.size (encB z64) (encB z64) 23 rfl (by first | rfl | exact congrArg Value.agg HZ.out) (by rw [HZ.out]; exact heap_alloc_new _ _) rfl (hsz64 z64 z64_len) (encB_one _) ?_; intro w3 h3 hk3; have D30 := Lib.hid (And.intro h3.out hk3); clear h3 hk3))
        have D3 := Lib.hid (show w3.heap[gx]? = some (.cells (encB z64).toArray 23 (0, 0)) ∧ w3.heap[gr]? = some (.cells (encB z64).toArray 23 (0, 0)) ∧ OwnB 5 w3 (some ⟨g2, 0, none⟩) c' all ∧ Keeps [] w w3 from by
          have hk3 := D30.out.2
          have hka : Keeps [] wr (wr.alloc (.cells #[.int .u8 0, .int .u8 0, .int .u8 0, .int .u8 0, .int .u8 0, .int .u8 0, .int .u8 0, .int .u8 0, .int .u8 0, .int .u8 0, .int .u8 0, .int .u8 0, .int .u8 0, .int .u8 0, .int .u8 0, .int .u8 0, .int .u8 0, .int .u8 0, .int .u8 0, .int .u8 0, .int .u8 0, .int .u8 0, .int .u8 0, .int .u8 0, .int .u8 0, .int .u8 0, .int .u8 0, .int .u8 0, .int .u8 0, .int .u8 0, .int .u8 0, .int .u8 0, .int .u8 0, .int .u8 0, .int .u8 0, .int .u8 0, .int .u8 0, .int .u8 0, .int .u8 0, .int .u8 0, .int .u8 0, .int .u8 0, .int .u8 0, .int .u8 0, .int .u8 0, .int .u8 0, .int .u8 0, .int .u8 0, .int .u8 0, .int .u8 0, .int .u8 0, .int .u8 0, .int .u8 0, .int .u8 0, .int .u8 0, .int .u8 0, .int .u8 0, .int .u8 0, .int .u8 0, .int .u8 0, .int .u8 0, .int .u8 0, .int .u8 0, .int .u8 0] 23)) := (Keeps.refl [] wr).alloc _
          rw [← HGX.out] at hk3
          refine ⟨by rw [HGX.out]; exact D30.out.1, (hk3.block gr (by rw [World.size_alloc]; have := lt_of_block D.out.2.2.2.r; omega) (by simp only [List.mem_singleton]; exact HG.out.1)).trans ((hka.block gr (lt_of_block D.out.2.2.2.r) (by simp)).trans D.out.2.2.2.r), (D.out.2.2.2.own.keeps0 hka).keeps hk3 (fun a ha => by cases ha; simp only [List.mem_singleton]; exact HG.out.2.1), (D.out.2.2.2.kp.trans hka (by simp)).trans hk3 (fun t ht => .inr (by simp at ht; rw [ht]; exact HG.out.2.2))⟩)
        go_upto_region 20 with (first
          | (refine wpList_secArr rfl 23 (.tmp 10) none none none rfl Tryd.underlying23 infoB1d ⟨wr.heap.size, 0, none⟩ 0 64 64 rfl .no .no .no (by decide) (by decide) (by decide) (by simp) ?_; rw [secA_zero])
          | (refine wpList_copyN rfl (.tmp 74) (.tmp 75) 25 25 5 1 rfl Tryd.underlying25 infoB1r wr.heap.size 0 64 64 rfl ⟨g2, 0, none⟩ 64 c' rfl (encB z64) 23 (by rw [← HGX.out]; exact D3.out.1) (encB all) (by rw [length_encB, HA.out]; rfl) (fun j v hv => by
              have hj : j < (encB all).length := (List.getElem?_eq_some_iff.1 hv).1
              rw [length_encB] at hj
              rw [add_new, Nat.zero_add, World.ownsRow.cellAt D3.out.2.2.1 j (by omega)]
              exact hv) (by rw [length_encB, length_encB, HA.out]; decide) (encB_one _) ?_; intro w5 h5 hk5; have D50 := Lib.hid (And.intro h5.out hk5); clear h5 hk5))
        have D5 := Lib.hid (show w5.heap[gx]? = some (.cells (encB all).toArray 23 (0, 0)) ∧ w5.heap[gr]? = some (.cells (encB z64).toArray 23 (0, 0)) ∧ Keeps [] w w5 from by
          have hk5 := D50.out.2
          rw [← HGX.out] at hk5
          have h6 := D50.out.1
          rw [List.take_zero, List.nil_append, List.drop_of_length_le (by rw [length_encB, length_encB, HA.out]; decide), List.append_nil, ← HGX.out] at h6
          exact ⟨h6, (hk5.block gr (lt_of_block D3.out.2.1) (by simp only [List.mem_singleton]; exact HG.out.1)).trans D3.out.2.1, D3.out.2.2.2.trans hk5 (fun t ht => .inr (by simp at ht; rw [ht]; exact HG.out.2.2))⟩)
        go_wp2_with (first
          | (refine wpList_load_row rfl 23 (.tmp 10) rfl wr.heap.size rfl 23 (encB all).toArray (0, 0) _ (by rw [← HGX.out]; exact D5.out.1) Tryd.underlying23 rfl HAS.out ?_)
          | (refine wpList_store_rowK rfl 23 (.tmp 4) (.tmp 77) rfl gr (encB all) (encB z64) 23 rfl rfl D5.out.2.1 (by rw [length_encB, length_encB, HA.out]; rfl) HAI.out (encB_one _) ?_; intro w8 h8 hk8))
        have h8' : w8.heap[gr]? = _ := h8.out
        try simp only [Exit.inBlock, Exit.then]
        refine bodyPost_ret (v := .tuple #[.agg (encB all).toArray, .int .i64 0]) (results_cell_tmp Tryd.results11 _ _ gr 23 _ (0, 0) _ _ rfl rfl h8' Tryd.underlying23 rfl (hsz64' all HA.out)) rfl ?_
        exact ⟨D5.out.2.2.trans hk8 (fun t ht => .inr (by simp at ht; rw [ht]; exact D.out.2.2.2.g0.2.1)), .inr ⟨all, HOK.out, HA.out, rfl⟩⟩
      · have h64i : (al : Int) < 64 := by omega
        have HE2 := Lib.hid (show applyE base ps = .error 2 from by rw [HE.out, if_neg (by rw [← HAL.out]; exact h64)])
        go_wp2_with (refine wpList_store_rowK rfl 23 (.tmp 4) (.tmp 72) rfl gr (encB z64) (encB z64) 23 rfl (by first | rfl | exact congrArg Value.agg HZ.out) D.out.2.2.2.r (by rfl) (hsz64 z64 z64_len) (encB_one _) ?_; intro w8 h8 hk8)
        have h8' : w8.heap[gr]? = _ := h8.out
        try simp only [Exit.inBlock, Exit.then]
        refine bodyPost_ret (v := .tuple #[.agg (encB z64).toArray, .int .i64 2]) (results_cell_tmp Tryd.results11 _ _ gr 23 _ (0, 0) _ _ rfl rfl h8' Tryd.underlying23 rfl (hsz64' z64 z64_len)) rfl ?_
        exact ⟨D.out.2.2.2.kp.trans hk8 (fun t ht => .inr (by simp at ht; rw [ht]; exact D.out.2.2.2.g0.2.1)), .inl ⟨2, HE2.out, by omega, rfl⟩⟩
end Go.Proofs.YtljinghhalcnnaaDoor
namespace Go.Proofs.YtljinghhalcnnaaDoor
open Go.RowKit

theorem bnd_le10 (most : Nat) (above left : Int) (l : List UInt8) : (bnd most above left l).1.length ≤ l.length := by
  unfold bnd
  repeat' split
  all_goals simp
theorem boolR_len (l : List UInt8) (e : Int) : (boolR l e).1.length ≤ l.length := by
  unfold boolR
  repeat' split
  all_goals simp
theorem uintR_len (most : Nat) (l : List UInt8) (e : Int) : (uintR most l e).1.length ≤ l.length := by
  unfold uintR
  split
  · simp
  · exact bnd_le10 _ _ _ _
theorem countR_len (most : Int) (l : List UInt8) (e : Int) : (countR most l e).1.length ≤ l.length := by
  unfold countR
  split
  · simp
  · exact bnd_le10 _ _ _ _
theorem bytesR_len1 (most : Int) (l : List UInt8) (e : Int) : (bytesR most l e).1.length ≤ l.length := by
  unfold bytesR
  have := bnd_le10 most.toNat 2 12 l
  repeat' split
  · simp
  · simp
  · simp
  · simp only [List.length_drop]; omega
/-- The reader and the parts at work. -/
structure DcI (w wr : World) (g : Nat) (A2 : Option Addr) (c2 : Nat) (l : List UInt8) (e : Int) (A : Option Addr) (c : Nat) (ts : List Pt) : Prop where
  rd : Rdr wr g A2 c2 l e
  op : OpI w wr A c ts
  g0 : w.heap.size ≤ g
  ga : g ∉ blk A
  gt : ∀ t ∈ ts, ∀ a, t.A = some a → a.block ≠ g
  a2 : ∀ a, A2 = some a → 0 < l.length → a.block < w.heap.size
theorem DcI.keeps0 {w wr wr' : World} {g : Nat} {A2 : Option Addr} {c2 : Nat} {l : List UInt8} {e : Int} {A : Option Addr} {c : Nat} {ts : List Pt} (h : DcI w wr g A2 c2 l e A c ts) (hk : Keeps [] wr wr') : DcI w wr' g A2 c2 l e A c ts :=
  ⟨h.rd.keeps0 hk, h.op.keeps0 hk, h.g0, h.ga, h.gt, h.a2⟩
/-- A call of the reader. -/
theorem DcI.call {w wr wr' : World} {g : Nat} {A2 A3 : Option Addr} {c2 c3 : Nat} {l l' : List UInt8} {e e' : Int} {A : Option Addr} {c : Nat} {ts : List Pt} (h : DcI w wr g A2 c2 l e A c ts)
    (hr : Rdr wr' g A3 c3 l' e') (hk : Keeps [g] wr wr') (hb : ∀ a, A3 = some a → a.block ∈ blk A2) (hl : l'.length ≤ l.length) : DcI w wr' g A3 c3 l' e' A c ts := by
  have g0 := h.g0
  refine ⟨hr, ⟨ownsRow_keeps h.op.own hk (fun a ha => ?_), h.op.fr, fun t ht => ⟨(h.op.rd t ht).1.keeps hk (fun a ha => by simpa using h.gt t ht a ha), (h.op.rd t ht).2⟩, h.op.dj, h.op.kp.trans hk (fun t ht => .inr (by simp at ht; omega))⟩, h.g0, h.ga, h.gt, fun a ha hp => ?_⟩
  · simp only [List.mem_singleton]
    exact fun e1 => h.ga (mem_blk.2 ⟨a, ha, e1⟩)
  · obtain ⟨b, e1, e2⟩ := mem_blk.1 (hb a ha)
    rw [← e2]
    exact h.a2 b e1 (by omega)
/-- Another block is written. -/
theorem DcI.other {w wr wr' : World} {g x : Nat} {A2 : Option Addr} {c2 : Nat} {l : List UInt8} {e : Int} {A : Option Addr} {c : Nat} {ts : List Pt} (h : DcI w wr g A2 c2 l e A c ts) (hk : Keeps [x] wr wr')
    (hx : w.heap.size ≤ x ∧ x ∉ blk A ∧ x ≠ g ∧ ∀ s ∈ ts, ∀ y, s.A = some y → y.block ≠ x) : DcI w wr' g A2 c2 l e A c ts := by
  refine ⟨h.rd.keeps hk (by simpa using Ne.symm hx.2.2.1) (fun a ha hp => ?_), ⟨ownsRow_keeps h.op.own hk (fun a ha => ?_), h.op.fr, fun t ht => ⟨(h.op.rd t ht).1.keeps hk (fun a ha => by simpa using hx.2.2.2 t ht a ha), (h.op.rd t ht).2⟩, h.op.dj, h.op.kp.trans hk (fun t ht => .inr (by simp at ht; omega))⟩, h.g0, h.ga, h.gt, h.a2⟩
  · have := h.a2 a ha hp
    simp only [List.mem_singleton]
    omega
  · simp only [List.mem_singleton]
    exact fun e1 => hx.2.1 (mem_blk.2 ⟨a, ha, e1⟩)
/-- A part is added. -/
theorem DcI.add {w wr wa w4 : World} {g : Nat} {A2 : Option Addr} {c2 : Nat} {l : List UInt8} {e : Int} {A A4 : Option Addr} {c c4 n : Nat} {ts : List Pt} {t : Pt} (h : DcI w wr g A2 c2 l e A c ts)
    (hb : OwnB 5 wr t.A t.c t.p.b) (hA : ∀ a, t.A = some a → w.heap.size ≤ a.block ∧ a.block ∉ blk A ∧ a.block ≠ g ∧ ∀ s ∈ ts, ∀ b, s.A = some b → b.block ≠ a.block) (hka : Keeps [] wr wa) (hn : n = ts.length)
    (ho : w4.ownsRow 0 50 4 (.slice A4 (n + 1) c4) (n + 1) (encPt ts ++ t.cells)) (hk : Keeps (blk A) wa w4) (hf : ∀ a, A4 = some a → a.block ∈ blk A ∨ wa.heap.size ≤ a.block) : DcI w w4 g A2 c2 l e A4 c4 (ts ++ [t]) := by
  have s1 := h.rd.lt
  have s2 := hka.size
  have k14 : Keeps (blk A) wr w4 := (hka.mono (by simp)).trans hk (fun t ht => .inl ht)
  refine ⟨h.rd.keeps k14 h.ga (fun a ha hp hm => ?_), h.op.addB hb (fun a ha => ⟨(hA a ha).1, (hA a ha).2.1, (hA a ha).2.2.2⟩) hka hn ho hk hf, h.g0, fun hm => ?_, fun s hs a ha => ?_, h.a2⟩
  · obtain ⟨b, e1, e2⟩ := mem_blk.1 hm
    have h1 := h.a2 a ha hp
    have h2 := h.op.fr b e1
    omega
  · obtain ⟨b, e1, e2⟩ := mem_blk.1 hm
    rcases hf b e1 with h3 | h3
    · rw [e2] at h3; exact h.ga h3
    · omega
  · rcases List.mem_append.1 hs with h1 | h1
    · exact h.gt s h1 a ha
    · obtain rfl := List.mem_singleton.1 h1
      exact (hA a ha).2.2.1
/-- Where a part's own bytes lie that are new. -/
theorem DcI.apart {w wr : World} {g : Nat} {A2 : Option Addr} {c2 : Nat} {l : List UInt8} {e : Int} {A : Option Addr} {c : Nat} {ts : List Pt} (h : DcI w wr g A2 c2 l e A c ts) {b : Nat} (hb : wr.heap.size ≤ b) : w.heap.size ≤ b ∧ b ∉ blk A ∧ b ≠ g ∧ ∀ s ∈ ts, ∀ x, s.A = some x → x.block ≠ b := by
  have s1 := h.op.kp.size
  have s2 := h.rd.lt
  refine ⟨by omega, fun hm => ?_, by omega, fun s hs x hx => ?_⟩
  · obtain ⟨x, e1, e2⟩ := mem_blk.1 hm
    have := ownsRow_lt h.op.own x e1
    omega
  · have := (h.op.rd s hs).1.lt x hx
    omega
/-- The parts, or the error. -/
def DecP10 (b : List UInt8) (w : World) (r : Ending) (w' : World) : Prop :=
  Keeps [] w w' ∧ ((∃ ts A c, decE10 b = .ok (ts.map Pt.p) ∧ ts.length ≤ 64 ∧ OpI w w' A c ts ∧ r = .returned (.tuple #[.slice A ts.length c, .nilIface])) ∨ (decE10 b = .error 3 ∧ r = .returned (.tuple #[.slice none 0 0, errV 3])))
theorem partsR_succ (k : Nat) (l : List UInt8) (e : Int) {l' : List UInt8} {e' : Int} {ps : List Pa} (h : partsR k l e = (l', e', ps)) : partsR (k + 1) l e = ((partR l' e').1, (partR l' e').2.1, ps ++ [(partR l' e').2.2]) := by
  show (_, _, _) = _
  rw [h]
theorem partR_copy (l : List UInt8) (e : Int) (h : (boolR l e).2.2 = true) : partR l e = ((uintR 64 (uintR 64 (boolR l e).1 (boolR l e).2.1).1 (uintR 64 (boolR l e).1 (boolR l e).2.1).2.1).1, (uintR 64 (uintR 64 (boolR l e).1 (boolR l e).2.1).1 (uintR 64 (boolR l e).1 (boolR l e).2.1).2.1).2.1, ⟨true, (uintR 64 (boolR l e).1 (boolR l e).2.1).2.2, (uintR 64 (uintR 64 (boolR l e).1 (boolR l e).2.1).1 (uintR 64 (boolR l e).1 (boolR l e).2.1).2.1).2.2, []⟩) := by
  unfold partR
  rw [if_pos h]
theorem partR_told (l : List UInt8) (e : Int) (h : (boolR l e).2.2 = false) : partR l e = ((bytesR 64 (boolR l e).1 (boolR l e).2.1).1, (bytesR 64 (boolR l e).1 (boolR l e).2.1).2.1, ⟨false, 0, 0, (bytesR 64 (boolR l e).1 (boolR l e).2.1).2.2⟩) := by
  unfold partR
  rw [if_neg (by simp [h])]
end Go.Proofs.YtljinghhalcnnaaDoor
