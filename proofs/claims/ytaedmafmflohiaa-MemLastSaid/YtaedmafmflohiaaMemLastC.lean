/- The law on what was put last: called with any entries it answers true. -/
import Derived.Test.YtaedmafmflohiaaMemTwo
import Derived.Deep.DeepCutAuto
import Derived.Deep.AppendLies
import Derived.Laws.Cover1
namespace Go.Proofs.Ytaedmafmflohiaa
open Go.RowKit

/-- From i on, j is the last ahead of k that has i's key. -/
def LastAt (en : Nat → En) (i j k : Nat) : Prop := i ≤ j ∧ (en j).k = (en i).k ∧ (j < k ∨ j = i) ∧ ∀ t, j < t → t < k → (en t).k ≠ (en i).k
theorem norm_v (e : En) : e.norm.v = if e.g then [] else e.v := by unfold En.norm; split <;> rfl
theorem puts_ok (l : List En) (h : EnOk l) : ∀ i, EnOk (putsE (enAt l) i)
  | 0 => by intro e he; cases he
  | i + 1 => putE_ok (puts_ok l h i) (puts_srt _ i) (enAt_ok h i)
set_option maxRecDepth 100000 in
set_option maxHeartbeats 32000000 in
theorem last_any (A : Option Addr) (c : Nat) (l : List En) (w : World) (hr : Rd w A l.length 3 (encEn l)) (hok : EnOk l) (hl : l.length ≤ 140737488351232) :
    Calls Try.prog 4 #[.slice A l.length c] w fun r w' => r = .returned (.bool true) ∧ Keeps [] w w' := by
  have HRD := Lib.hid hr
  have HOK := Lib.hid hok
  obtain ⟨N, hN⟩ : ∃ N, N = l.length := ⟨_, rfl⟩
  have HN := Lib.hid hN
  obtain ⟨n, hn⟩ : ∃ n, n = min N 60 := ⟨_, rfl⟩
  have HNN := Lib.hid (show n ≤ N ∧ n ≤ 60 from ⟨by omega, by omega⟩)
  have dm : min (N : Int) 60 = (n : Int) := by omega
  rw [← hN] at hl ⊢
  clear hr hok hN hn
  go_enter Try.func4, Try.ntmps4
  go_wp2_with fail
  refine (mnew_any w).mono ?_
  rintro r w1 ⟨g, rfl, hm1, hk1, hg1⟩
  have INV := Lib.hid (show MemS w1 g none 0 (putsE (enAt l) 0) ∧ Keeps [] w w1 ∧ (∀ a, (none : Option Addr) = some a → w.heap.size ≤ a.block) from ⟨hm1, hk1, by simp⟩)
  have HG := Lib.hid hg1
  clear hm1 hk1 hg1
  go_wp2_with fail
  go_loopw [5] (fun si wr => ∃ (i : Nat) (A1 : Option Addr) (c1 : Nat), i ≤ n ∧ si = .int .i64 i ∧ Hid (MemS wr g A1 c1 (putsE (enAt l) i) ∧ Keeps [] w wr ∧ (∀ a, A1 = some a → w.heap.size ≤ a.block))) (fun si _ => n - (intOf si).toNat)
  case atStart => exact ⟨0, none, 0, Nat.zero_le _, rfl, INV.out⟩
  case round =>
    clear INV
    obtain ⟨i, A1, c1, hi, rfl, hinv⟩ := hrel
    by_cases hlt : i < n
    · have hik : (i : Int) < (n : Int) := by omega
      have HIL := Lib.hid (show i < l.length ∧ i < n from by have := HN.out; have := HNN.out; omega)
      have hiN : (i : Int) < (N : Int) := by have := HNN.out; omega
      obtain ⟨ga, o, hA, k0, k1, k2⟩ := en_cells (HRD.out.keeps0 hinv.out.2.1) (i := i) HIL.out.1
      rw [enAt_get] at k0 k1 k2
      obtain ⟨e, he⟩ : ∃ e, e = enAt l i := ⟨_, rfl⟩
      rw [← he] at k0 k1 k2
      have HE := Lib.hid he
      subst hA
      clear he hlt
      go_wp2_with fail
      have HPT := put_any g A1 c1 (putsE (enAt l) i) e wr hinv.out.1 (puts_srt _ i) (puts_ok l HOK.out i) (by rw [HE.out]; exact (enAt_ok HOK.out i).1) (by rw [HE.out]; exact (enAt_ok HOK.out i).2) (by have := puts_len (enAt l) i; have := HNN.out; have := HIL.out; omega)
      unfold En.val at HPT
      refine HPT.mono ?_
      clear HPT
      intro r w3 hp
      obtain ⟨rfl, A3, c3, hm3, hk3, hb3⟩ := hp.step hinv.out.2.1 HG.out hinv.out.2.2
      have H3 := Lib.hid (show MemS w3 g A3 c3 (putsE (enAt l) (i + 1)) ∧ Keeps [] w w3 ∧ (∀ a, A3 = some a → w.heap.size ≤ a.block) from ⟨by rw [HE.out] at hm3; exact hm3, hk3, hb3⟩)
      clear hm3 hk3 hb3 hp k0 k1 k2 hinv
      go_wp2_with fail
      go_roundw
      case rel => exact ⟨i + 1, A3, c3, HIL.out.2, by go_num, H3.out⟩
      case measure => have := HIL.out; simp [intOf]; omega
    · have hik : ¬ (i : Int) < (n : Int) := by omega
      obtain rfl : i = n := by omega
      obtain ⟨L, hL⟩ : ∃ L, L = putsE (enAt l) i := ⟨_, rfl⟩
      have HL := Lib.hid (show Srt L ∧ L.length ≤ 60 ∧ (∀ j, j < i → LastB (enAt l) i j → getE L (enAt l j).k = some (enAt l j).norm) from by
        rw [hL]
        exact ⟨puts_srt _ _, by have := puts_len (enAt l) i; have := HNN.out; omega, fun j h1 h2 => puts_get (enAt l) i h1 h2⟩)
      have HM := Lib.hid (show MemS wr g A1 c1 L from by rw [hL]; exact hinv.out.1)
      have HK := Lib.hid hinv.out.2.1
      have HA1 := Lib.hid hinv.out.2.2
      have INV := Lib.hid (Keeps.refl [] wr)
      obtain ⟨W, hW⟩ : ∃ W, W = wr := ⟨_, rfl⟩
      rw [← hW] at HM HK INV ⊢
      clear hL hinv hlt hW hi
      go_wp2_with fail
      go_loopw [6] (fun si wr => ∃ (t : Nat), t ≤ i ∧ si = .int .i64 t ∧ Hid (Keeps [] W wr)) (fun si _ => i - (intOf si).toNat)
      case atStart => exact ⟨0, Nat.zero_le _, rfl, INV.out⟩
      case round =>
        clear INV
        obtain ⟨t, ht, rfl, hinv⟩ := hrel
        by_cases hlt : t < i
        · have hik : (t : Int) < (i : Int) := by omega
          have HTI := Lib.hid (show t < i ∧ t < l.length from by have := HN.out; have := HNN.out; omega)
          have INV := Lib.hid hinv.out
          have INA := Lib.hid (show LastAt (enAt l) t t t from ⟨Nat.le_refl _, rfl, .inr rfl, fun x h1 h2 => by omega⟩)
          clear hlt hinv
          go_wp2_with fail
          go_loopw [7, 8] (fun sj sk wr => ∃ (j k : Nat), sj = .int .i64 j ∧ sk = .int .i64 k ∧ k ≤ i ∧ t ≤ k ∧ Hid (LastAt (enAt l) t j k) ∧ Hid (Keeps [] W wr)) (fun _ sk _ => i - (intOf sk).toNat)
          case atStart => exact ⟨t, t, rfl, rfl, by have := HTI.out; omega, Nat.le_refl _, INA.out, INV.out⟩
          case round =>
            clear INV INA
            obtain ⟨j, k, rfl, rfl, hki, htk, hla, hinv⟩ := hrel
            by_cases hlk : k < i
            · have hkn : (k : Int) < (i : Int) := by omega
              have HKL := Lib.hid (show k < l.length ∧ k < i ∧ t ≤ k from by have := HN.out; have := HNN.out; omega)
              have hkN : (k : Int) < (N : Int) := by have := HNN.out; omega
              have htN : (t : Int) < (N : Int) := by have := HNN.out; have := HTI.out; omega
              obtain ⟨ga, o, hA, k0, _, _⟩ := en_cells (HRD.out.keeps0 (HK.out.trans hinv.out (by simp))) (i := k) HKL.out.1
              obtain ⟨ga', o', hA', m0, _, _⟩ := en_cells (HRD.out.keeps0 (HK.out.trans hinv.out (by simp))) (i := t) HTI.out.2
              rw [hA] at hA'
              obtain ⟨rfl, rfl⟩ : ga = ga' ∧ o = o' := by injection hA' with e1; injection e1 with e2 e3; exact ⟨e2, e3⟩
              subst hA
              rw [enAt_get] at k0 m0
              obtain ⟨xk, hxk⟩ : ∃ xk, xk = (enAt l k).k := ⟨_, rfl⟩
              obtain ⟨xi, hxi⟩ : ∃ xi, xi = (enAt l t).k := ⟨_, rfl⟩
              rw [← hxk] at k0
              rw [← hxi] at m0
              obtain ⟨q, hq⟩ : ∃ q, q = (xk == xi) := ⟨_, rfl⟩
              have fq : ((strB xk).toList == (strB xi).toList) = q := by rw [strB_beq, hq]
              have HQ := Lib.hid (show (q = true ↔ (enAt l k).k = (enAt l t).k) from by rw [hq, hxk, hxi]; simp)
              have HC := Lib.hid (And.intro k0 m0)
              clear hxk hxi hq hA' k0 m0 hlk hki htk
              go_upto_region 16 with fail
              have qa : ∀ z : World, (z.cell? ⟨ga, o + k * 3, none⟩ = some (.string (strB xk)) ∧ z.cell? ⟨ga, o + t * 3, none⟩ = some (.string (strB xi))) → z.cell? ⟨ga, o + k * 3, none⟩ = some (.string (strB xk)) := fun z hz => hz.1
              have qb : ∀ z : World, (z.cell? ⟨ga, o + k * 3, none⟩ = some (.string (strB xk)) ∧ z.cell? ⟨ga, o + t * 3, none⟩ = some (.string (strB xi))) → z.cell? ⟨ga, o + t * 3, none⟩ = some (.string (strB xi)) := fun z hz => hz.2
              refine seq_start (by kernel_rfl) (fun z => z.cell? ⟨ga, o + k * 3, none⟩ = some (.string (strB xk)) ∧ z.cell? ⟨ga, o + t * 3, none⟩ = some (.string (strB xi))) 11 [0, 1, 2, 3, 4, 5, 6, 7, 8, 9, 10] rfl (HC.out) (fun hS => ?_)
              refine seq_take (v := ?_) rfl (by kernel_rfl) (by kernel_rfl) (by kernel_rfl) (Or.inl ⟨by rfl, fun w' hSw => ?_⟩) (by assumption) ?_
              rotate_left
              · go_simp
                with_reducible rfl
              simp only [Act.put, List.setIfInBounds_toArray, List.set_cons_zero, List.set_cons_succ]
              refine seq_take (v := ?_) rfl (by kernel_rfl) (by kernel_rfl) (by kernel_rfl) (Or.inl ⟨by rfl, fun w' hSw => ?_⟩) (by assumption) ?_
              rotate_left
              · go_simp
                with_reducible rfl
              simp only [Act.put, List.setIfInBounds_toArray, List.set_cons_zero, List.set_cons_succ]
              refine seq_take (v := ?_) rfl (by kernel_rfl) (by kernel_rfl) (by kernel_rfl) (Or.inl ⟨by rfl, fun w' hSw => ?_⟩) (by assumption) ?_
              rotate_left
              · go_simp
                with_reducible rfl
              simp only [Act.put, List.setIfInBounds_toArray, List.set_cons_zero, List.set_cons_succ]
              refine seq_take (v := ?_) rfl (by kernel_rfl) (by kernel_rfl) (by kernel_rfl) (Or.inl ⟨by rfl, fun w' hSw => ?_⟩) (by assumption) ?_
              rotate_left
              · go_simp
                with_reducible rfl
              simp only [Act.put, List.setIfInBounds_toArray, List.set_cons_zero, List.set_cons_succ]
              refine seq_take (v := ?_) rfl (by kernel_rfl) (by kernel_rfl) (by kernel_rfl) (Or.inl ⟨by rfl, fun w' hSw => ?_⟩) (by assumption) ?_
              rotate_left
              · go_simp
                with_reducible rfl
              simp only [Act.put, List.setIfInBounds_toArray, List.set_cons_zero, List.set_cons_succ]
              refine seq_take (v := ?_) rfl (by kernel_rfl) (by kernel_rfl) (by kernel_rfl) (Or.inl ⟨by rfl, fun w' hSw => ?_⟩) (by assumption) ?_
              rotate_left
              · go_simp
                with_reducible rfl
              simp only [Act.put, List.setIfInBounds_toArray, List.set_cons_zero, List.set_cons_succ]
              refine seq_take (v := ?_) rfl (by kernel_rfl) (by kernel_rfl) (by kernel_rfl) (Or.inl ⟨by rfl, fun w' hSw => ?_⟩) (by assumption) ?_
              rotate_left
              · go_simp
                with_reducible rfl
              simp only [Act.put, List.setIfInBounds_toArray, List.set_cons_zero, List.set_cons_succ]
              refine seq_take (v := ?_) rfl (by kernel_rfl) (by kernel_rfl) (by kernel_rfl) (Or.inl ⟨by rfl, fun w' hSw => ?_⟩) (by assumption) ?_
              rotate_left
              · go_simp
                with_reducible rfl
              simp only [Act.put, List.setIfInBounds_toArray, List.set_cons_zero, List.set_cons_succ]
              refine seq_take (v := ?_) rfl (by kernel_rfl) (by kernel_rfl) (by kernel_rfl) (Or.inl ⟨by rfl, fun w' hSw => ?_⟩) (by assumption) ?_
              rotate_left
              · go_simp
                with_reducible rfl
              simp only [Act.put, List.setIfInBounds_toArray, List.set_cons_zero, List.set_cons_succ]
              refine seq_take (v := ?_) rfl (by kernel_rfl) (by kernel_rfl) (by kernel_rfl) (Or.inl ⟨by rfl, fun w' hSw => ?_⟩) (by assumption) ?_
              rotate_left
              · go_simp
                with_reducible rfl
              simp only [Act.put, List.setIfInBounds_toArray, List.set_cons_zero, List.set_cons_succ]
              refine seq_take (v := ?_) rfl (by kernel_rfl) (by kernel_rfl) (by kernel_rfl) (Or.inl ⟨by rfl, fun w' hSw => ?_⟩) (by assumption) ?_
              rotate_left
              · go_simp
                with_reducible rfl
              simp only [Act.put, List.setIfInBounds_toArray, List.set_cons_zero, List.set_cons_succ]
              refine seq_done (by kernel_rfl) ?_
              all_goals skip
              have HV := Lib.hid (show Keeps [] W wr.drew from hinv.out.drew)
              clear hS qa qb HC hinv fq
              generalize wr.drew = V at HV ⊢
              cases q with
              | true =>
                have HLA := Lib.hid (show LastAt (enAt l) t k (k + 1) from ⟨HKL.out.2.2, HQ.out.1 (by trivial), .inl (by omega), fun x h1 h2 => by omega⟩)
                go_wp2_with fail
                go_roundw
                case rel => exact ⟨k, k + 1, rfl, by go_num, by have := HKL.out; omega, by have := HKL.out; omega, HLA.out, HV.out⟩
                case measure => have := HKL.out; simp [intOf]; omega
              | false =>
                have HLA := Lib.hid (show LastAt (enAt l) t j (k + 1) from ⟨hla.out.1, hla.out.2.1, hla.out.2.2.1.elim (fun h => .inl (by omega)) (fun h => .inr h), fun x h1 h2 => by
                  by_cases e : x = k
                  · subst e
                    intro e2
                    have := HQ.out.2 e2
                    cases this
                  · exact hla.out.2.2.2 x h1 (by omega)⟩)
                go_wp2_with fail
                go_roundw
                case rel => exact ⟨j, k + 1, rfl, by go_num, by have := HKL.out; omega, by have := HKL.out; omega, HLA.out, HV.out⟩
                case measure => have := HKL.out; simp [intOf]; omega
            · have hkn : ¬ (k : Int) < (i : Int) := by omega
              obtain rfl : k = i := by omega
              have HJ := Lib.hid (show j < k ∧ t ≤ j ∧ j < l.length ∧ (enAt l j).k = (enAt l t).k ∧ getE L (enAt l t).k = some (enAt l j).norm from by
                have h1 : j < k := hla.out.2.2.1.elim id (fun h => by have := HTI.out; omega)
                refine ⟨h1, hla.out.1, by have := HN.out; have := HNN.out; omega, hla.out.2.1, ?_⟩
                rw [← hla.out.2.1]
                exact HL.out.2.2 j h1 (fun x h2 h3 => by rw [hla.out.2.1]; exact hla.out.2.2.2 x h2 h3))
              clear hlk hki htk hla
              have htN : (t : Int) < (N : Int) := by have := HNN.out; have := HTI.out; omega
              have hjN : (j : Int) < (N : Int) := by have := HNN.out; have := HJ.out; omega
              obtain ⟨ga, o, hA, k0, _, _⟩ := en_cells (HRD.out.keeps0 (HK.out.trans hinv.out (by simp))) (i := t) HTI.out.2
              obtain ⟨ga', o', hA', m0, m1, m2⟩ := en_cells (HRD.out.keeps0 (HK.out.trans hinv.out (by simp))) (i := j) HJ.out.2.2.1
              rw [hA] at hA'
              obtain ⟨rfl, rfl⟩ : ga = ga' ∧ o = o' := by injection hA' with e1; injection e1 with e2 e3; exact ⟨e2, e3⟩
              subst hA
              rw [enAt_get] at k0 m0 m1 m2
              obtain ⟨kt, hkt⟩ : ∃ kt, kt = (enAt l t).k := ⟨_, rfl⟩
              obtain ⟨ej, hej⟩ : ∃ ej, ej = enAt l j := ⟨_, rfl⟩
              rw [← hkt] at k0
              rw [← hej] at m0 m1 m2
              have HKT := Lib.hid (show getE L kt = some ej.norm ∧ ej.k = kt from by rw [hkt, hej]; exact ⟨HJ.out.2.2.2.2, HJ.out.2.2.2.1⟩)
              have HC := Lib.hid (show wr.cell? ⟨ga, o + t * 3, none⟩ = some (.string (strB kt)) ∧ wr.cell? ⟨ga, o + j * 3 + 1, none⟩ = some (.string (strB ej.v)) ∧ wr.cell? ⟨ga, o + j * 3 + 2, none⟩ = some (.bool ej.g) from ⟨k0, m1, m2⟩)
              clear hA' m0 m1 m2 hkt hej
              go_wp2_with fail
              refine (get_any g A1 c1 L kt wr (HM.out.keeps0 hinv.out) HL.out.1 (by have := HL.out.2.1; omega)).mono ?_
              rintro r w3 ⟨rfl, hk3⟩
              unfold getV
              rw [HKT.out.1]
              simp only [Option.getD_some, Option.isSome_some]
              unfold En.val
              rw [En.norm_k, HKT.out.2, En.norm_g, norm_v]
              obtain ⟨gx, hgx⟩ : ∃ gx, gx = w3.heap.size := ⟨_, rfl⟩
              obtain ⟨ev, hev⟩ : ∃ ev, ev = (if ej.g then [] else ej.v) := ⟨_, rfl⟩
              obtain ⟨eg, heg⟩ : ∃ eg, eg = ej.g := ⟨_, rfl⟩
              obtain ⟨vj, hvj⟩ : ∃ vj, vj = ej.v := ⟨_, rfl⟩
              rw [← hev, ← heg]
              rw [← heg, ← hvj] at HC
              have HEV := Lib.hid (show ev = if eg then [] else vj from by rw [hev, heg, hvj])
              obtain ⟨W4, hW4⟩ : ∃ W4, W4 = w3.alloc (.cells #[.string (strB kt), .string (strB ev), .bool eg] 27) := ⟨_, rfl⟩
              have HW4 := Lib.hid (And.intro hW4 hgx)
              have H4 := Lib.hid (show Keeps [] W W4 ∧ (W4.cell? ⟨gx, 0, none⟩ = some (.string (strB kt)) ∧ W4.cell? ⟨gx, 1, none⟩ = some (.string (strB ev)) ∧ W4.cell? ⟨gx, 2, none⟩ = some (.bool eg)) ∧ (W4.cell? ⟨ga, o + t * 3, none⟩ = some (.string (strB kt)) ∧ W4.cell? ⟨ga, o + j * 3 + 1, none⟩ = some (.string (strB vj)) ∧ W4.cell? ⟨ga, o + j * 3 + 2, none⟩ = some (.bool eg)) from by
                have hka : Keeps [] w3 W4 := by rw [hW4]; exact (Keeps.refl [] w3).alloc _
                have hrow : W4.heap[gx]? = some (.cells #[.string (strB kt), .string (strB ev), .bool eg] 27 (0, 0)) := by rw [hW4, hgx]; exact heap_alloc_new _ _
                have hk4 := hk3.trans hka (by simp)
                exact ⟨hinv.out.trans hk4 (by simp), ⟨by rw [cell_of_row _ _ _ _ _ _ hrow]; rfl, by rw [cell_of_row _ _ _ _ _ _ hrow]; rfl, by rw [cell_of_row _ _ _ _ _ _ hrow]; rfl⟩, hk4.cell HC.out.1 (by simp), hk4.cell HC.out.2.1 (by simp), hk4.cell HC.out.2.2 (by simp)⟩)
              clear hev heg hvj hW4 hgx hk3 hinv HC k0
              go_upto_region 19 with fail
              rw [← HW4.out.1, ← HW4.out.2]
              have qa : ∀ z : World, Keeps [] W4 z → z.cell? ⟨gx, 0, none⟩ = some (.string (strB kt)) := fun z hz => hz.cell H4.out.2.1.1 (by simp)
              have qb : ∀ z : World, Keeps [] W4 z → z.cell? ⟨gx, 1, none⟩ = some (.string (strB ev)) := fun z hz => hz.cell H4.out.2.1.2.1 (by simp)
              have qc : ∀ z : World, Keeps [] W4 z → z.cell? ⟨gx, 2, none⟩ = some (.bool eg) := fun z hz => hz.cell H4.out.2.1.2.2 (by simp)
              have qd : ∀ z : World, Keeps [] W4 z → z.cell? ⟨ga, o + t * 3, none⟩ = some (.string (strB kt)) := fun z hz => hz.cell H4.out.2.2.1 (by simp)
              have qe : ∀ z : World, Keeps [] W4 z → z.cell? ⟨ga, o + j * 3 + 1, none⟩ = some (.string (strB vj)) := fun z hz => hz.cell H4.out.2.2.2.1 (by simp)
              have qf : ∀ z : World, Keeps [] W4 z → z.cell? ⟨ga, o + j * 3 + 2, none⟩ = some (.bool eg) := fun z hz => hz.cell H4.out.2.2.2.2 (by simp)
              cases eg with
              | true =>
                have hev2 : ev = [] := HEV.out
                subst hev2
                have fe : (strB []).toList.isEmpty = true := by rw [strB_toList]; rfl
                refine seq_start (by kernel_rfl) (fun z => Keeps [] W4 z) 46 [0, 1, 2, 3, 4, 5, 6, 7, 8, 9, 10, 11, 12, 13, 14, 15, 16, 17, 18, 19, 20, 21, 22, 23, 24, 25, 26, 27, 28, 29, 30, 31, 32, 33, 34, 35, 36, 37, 38, 39, 40, 41, 42, 43, 44, 45] rfl ((Keeps.refl [] W4).drew) (fun hS => ?_)
                refine seq_take (v := ?_) rfl (by kernel_rfl) (by kernel_rfl) (by kernel_rfl) (Or.inl ⟨by rfl, fun w' hSw => ?_⟩) (by assumption) ?_
                rotate_left
                · go_simp
                  with_reducible rfl
                simp only [Act.put, List.setIfInBounds_toArray, List.set_cons_zero, List.set_cons_succ]
                refine seq_take (v := ?_) rfl (by kernel_rfl) (by kernel_rfl) (by kernel_rfl) (Or.inl ⟨by rfl, fun w' hSw => ?_⟩) (by assumption) ?_
                rotate_left
                · go_simp
                  with_reducible rfl
                simp only [Act.put, List.setIfInBounds_toArray, List.set_cons_zero, List.set_cons_succ]
                refine seq_take (v := ?_) rfl (by kernel_rfl) (by kernel_rfl) (by kernel_rfl) (Or.inl ⟨by rfl, fun w' hSw => ?_⟩) (by assumption) ?_
                rotate_left
                · go_simp
                  with_reducible rfl
                simp only [Act.put, List.setIfInBounds_toArray, List.set_cons_zero, List.set_cons_succ]
                refine seq_take (v := ?_) rfl (by kernel_rfl) (by kernel_rfl) (by kernel_rfl) (Or.inl ⟨by rfl, fun w' hSw => ?_⟩) (by assumption) ?_
                rotate_left
                · go_simp
                  with_reducible rfl
                simp only [Act.put, List.setIfInBounds_toArray, List.set_cons_zero, List.set_cons_succ]
                refine seq_take (v := ?_) rfl (by kernel_rfl) (by kernel_rfl) (by kernel_rfl) (Or.inl ⟨by rfl, fun w' hSw => ?_⟩) (by assumption) ?_
                rotate_left
                · go_simp
                  with_reducible rfl
                simp only [Act.put, List.setIfInBounds_toArray, List.set_cons_zero, List.set_cons_succ]
                refine seq_take (v := ?_) rfl (by kernel_rfl) (by kernel_rfl) (by kernel_rfl) (Or.inl ⟨by rfl, fun w' hSw => ?_⟩) (by assumption) ?_
                rotate_left
                · go_simp
                  with_reducible rfl
                simp only [Act.put, List.setIfInBounds_toArray, List.set_cons_zero, List.set_cons_succ]
                refine seq_take (v := ?_) rfl (by kernel_rfl) (by kernel_rfl) (by kernel_rfl) (Or.inl ⟨by rfl, fun w' hSw => ?_⟩) (by assumption) ?_
                rotate_left
                · go_simp
                  with_reducible rfl
                simp only [Act.put, List.setIfInBounds_toArray, List.set_cons_zero, List.set_cons_succ]
                refine seq_take (v := ?_) rfl (by kernel_rfl) (by kernel_rfl) (by kernel_rfl) (Or.inl ⟨by rfl, fun w' hSw => ?_⟩) (by assumption) ?_
                rotate_left
                · go_simp
                  with_reducible rfl
                simp only [Act.put, List.setIfInBounds_toArray, List.set_cons_zero, List.set_cons_succ]
                refine seq_take (v := ?_) rfl (by kernel_rfl) (by kernel_rfl) (by kernel_rfl) (Or.inl ⟨by rfl, fun w' hSw => ?_⟩) (by assumption) ?_
                rotate_left
                · go_simp
                  with_reducible rfl
                simp only [Act.put, List.setIfInBounds_toArray, List.set_cons_zero, List.set_cons_succ]
                refine seq_take (v := ?_) rfl (by kernel_rfl) (by kernel_rfl) (by kernel_rfl) (Or.inl ⟨by rfl, fun w' hSw => ?_⟩) (by assumption) ?_
                rotate_left
                · go_simp
                  with_reducible rfl
                simp only [Act.put, List.setIfInBounds_toArray, List.set_cons_zero, List.set_cons_succ]
                refine seq_take (v := ?_) rfl (by kernel_rfl) (by kernel_rfl) (by kernel_rfl) (Or.inl ⟨by rfl, fun w' hSw => ?_⟩) (by assumption) ?_
                rotate_left
                · go_simp
                  with_reducible rfl
                simp only [Act.put, List.setIfInBounds_toArray, List.set_cons_zero, List.set_cons_succ]
                refine seq_take (v := ?_) rfl (by kernel_rfl) (by kernel_rfl) (by kernel_rfl) (Or.inl ⟨by rfl, fun w' hSw => ?_⟩) (by assumption) ?_
                rotate_left
                · go_simp
                  with_reducible rfl
                simp only [Act.put, List.setIfInBounds_toArray, List.set_cons_zero, List.set_cons_succ]
                refine seq_take (v := ?_) rfl (by kernel_rfl) (by kernel_rfl) (by kernel_rfl) (Or.inl ⟨by rfl, fun w' hSw => ?_⟩) (by assumption) ?_
                rotate_left
                · go_simp
                  with_reducible rfl
                simp only [Act.put, List.setIfInBounds_toArray, List.set_cons_zero, List.set_cons_succ]
                refine seq_take (v := ?_) rfl (by kernel_rfl) (by kernel_rfl) (by kernel_rfl) (Or.inl ⟨by rfl, fun w' hSw => ?_⟩) (by assumption) ?_
                rotate_left
                · go_simp
                  with_reducible rfl
                simp only [Act.put, List.setIfInBounds_toArray, List.set_cons_zero, List.set_cons_succ]
                refine seq_take (v := ?_) rfl (by kernel_rfl) (by kernel_rfl) (by kernel_rfl) (Or.inl ⟨by rfl, fun w' hSw => ?_⟩) (by assumption) ?_
                rotate_left
                · go_simp
                  with_reducible rfl
                simp only [Act.put, List.setIfInBounds_toArray, List.set_cons_zero, List.set_cons_succ]
                refine seq_take (v := ?_) rfl (by kernel_rfl) (by kernel_rfl) (by kernel_rfl) (Or.inl ⟨by rfl, fun w' hSw => ?_⟩) (by assumption) ?_
                rotate_left
                · go_simp
                  with_reducible rfl
                simp only [Act.put, List.setIfInBounds_toArray, List.set_cons_zero, List.set_cons_succ]
                refine seq_take (v := ?_) rfl (by kernel_rfl) (by kernel_rfl) (by kernel_rfl) (Or.inl ⟨by rfl, fun w' hSw => ?_⟩) (by assumption) ?_
                rotate_left
                · go_simp
                  with_reducible rfl
                simp only [Act.put, List.setIfInBounds_toArray, List.set_cons_zero, List.set_cons_succ]
                refine seq_take (v := ?_) rfl (by kernel_rfl) (by kernel_rfl) (by kernel_rfl) (Or.inl ⟨by rfl, fun w' hSw => ?_⟩) (by assumption) ?_
                rotate_left
                · go_simp
                  with_reducible rfl
                simp only [Act.put, List.setIfInBounds_toArray, List.set_cons_zero, List.set_cons_succ]
                refine seq_take (v := ?_) rfl (by kernel_rfl) (by kernel_rfl) (by kernel_rfl) (Or.inl ⟨by rfl, fun w' hSw => ?_⟩) (by assumption) ?_
                rotate_left
                · go_simp
                  with_reducible rfl
                simp only [Act.put, List.setIfInBounds_toArray, List.set_cons_zero, List.set_cons_succ]
                refine seq_take (v := ?_) rfl (by kernel_rfl) (by kernel_rfl) (by kernel_rfl) (Or.inl ⟨by rfl, fun w' hSw => ?_⟩) (by assumption) ?_
                rotate_left
                · go_simp
                  with_reducible rfl
                simp only [Act.put, List.setIfInBounds_toArray, List.set_cons_zero, List.set_cons_succ]
                refine seq_take (v := ?_) rfl (by kernel_rfl) (by kernel_rfl) (by kernel_rfl) (Or.inl ⟨by rfl, fun w' hSw => ?_⟩) (by assumption) ?_
                rotate_left
                · go_simp
                  with_reducible rfl
                simp only [Act.put, List.setIfInBounds_toArray, List.set_cons_zero, List.set_cons_succ]
                refine seq_take (v := ?_) rfl (by kernel_rfl) (by kernel_rfl) (by kernel_rfl) (Or.inl ⟨by rfl, fun w' hSw => ?_⟩) (by assumption) ?_
                rotate_left
                · go_simp
                  with_reducible rfl
                simp only [Act.put, List.setIfInBounds_toArray, List.set_cons_zero, List.set_cons_succ]
                refine seq_take (v := ?_) rfl (by kernel_rfl) (by kernel_rfl) (by kernel_rfl) (Or.inl ⟨by rfl, fun w' hSw => ?_⟩) (by assumption) ?_
                rotate_left
                · go_simp
                  with_reducible rfl
                simp only [Act.put, List.setIfInBounds_toArray, List.set_cons_zero, List.set_cons_succ]
                refine seq_take (v := ?_) rfl (by kernel_rfl) (by kernel_rfl) (by kernel_rfl) (Or.inl ⟨by rfl, fun w' hSw => ?_⟩) (by assumption) ?_
                rotate_left
                · go_simp
                  with_reducible rfl
                simp only [Act.put, List.setIfInBounds_toArray, List.set_cons_zero, List.set_cons_succ]
                refine seq_take (v := ?_) rfl (by kernel_rfl) (by kernel_rfl) (by kernel_rfl) (Or.inl ⟨by rfl, fun w' hSw => ?_⟩) (by assumption) ?_
                rotate_left
                · go_simp
                  with_reducible rfl
                simp only [Act.put, List.setIfInBounds_toArray, List.set_cons_zero, List.set_cons_succ]
                refine seq_take (v := ?_) rfl (by kernel_rfl) (by kernel_rfl) (by kernel_rfl) (Or.inl ⟨by rfl, fun w' hSw => ?_⟩) (by assumption) ?_
                rotate_left
                · go_simp
                  with_reducible rfl
                simp only [Act.put, List.setIfInBounds_toArray, List.set_cons_zero, List.set_cons_succ]
                refine seq_take (v := ?_) rfl (by kernel_rfl) (by kernel_rfl) (by kernel_rfl) (Or.inl ⟨by rfl, fun w' hSw => ?_⟩) (by assumption) ?_
                rotate_left
                · go_simp
                  with_reducible rfl
                simp only [Act.put, List.setIfInBounds_toArray, List.set_cons_zero, List.set_cons_succ]
                refine seq_take (v := undef) rfl (by kernel_rfl) (by kernel_rfl) (by kernel_rfl) (Or.inr ⟨by rfl, rfl⟩) (by assumption) ?_
                simp only [Act.put, List.setIfInBounds_toArray, List.set_cons_zero, List.set_cons_succ]
                refine seq_take (v := undef) rfl (by kernel_rfl) (by kernel_rfl) (by kernel_rfl) (Or.inr ⟨by rfl, rfl⟩) (by assumption) ?_
                simp only [Act.put, List.setIfInBounds_toArray, List.set_cons_zero, List.set_cons_succ]
                refine seq_take (v := undef) rfl (by kernel_rfl) (by kernel_rfl) (by kernel_rfl) (Or.inr ⟨by rfl, rfl⟩) (by assumption) ?_
                simp only [Act.put, List.setIfInBounds_toArray, List.set_cons_zero, List.set_cons_succ]
                refine seq_take (v := undef) rfl (by kernel_rfl) (by kernel_rfl) (by kernel_rfl) (Or.inr ⟨by rfl, rfl⟩) (by assumption) ?_
                simp only [Act.put, List.setIfInBounds_toArray, List.set_cons_zero, List.set_cons_succ]
                refine seq_take (v := undef) rfl (by kernel_rfl) (by kernel_rfl) (by kernel_rfl) (Or.inr ⟨by rfl, rfl⟩) (by assumption) ?_
                simp only [Act.put, List.setIfInBounds_toArray, List.set_cons_zero, List.set_cons_succ]
                refine seq_take (v := undef) rfl (by kernel_rfl) (by kernel_rfl) (by kernel_rfl) (Or.inr ⟨by rfl, rfl⟩) (by assumption) ?_
                simp only [Act.put, List.setIfInBounds_toArray, List.set_cons_zero, List.set_cons_succ]
                refine seq_take (v := undef) rfl (by kernel_rfl) (by kernel_rfl) (by kernel_rfl) (Or.inr ⟨by rfl, rfl⟩) (by assumption) ?_
                simp only [Act.put, List.setIfInBounds_toArray, List.set_cons_zero, List.set_cons_succ]
                refine seq_take (v := undef) rfl (by kernel_rfl) (by kernel_rfl) (by kernel_rfl) (Or.inr ⟨by rfl, rfl⟩) (by assumption) ?_
                simp only [Act.put, List.setIfInBounds_toArray, List.set_cons_zero, List.set_cons_succ]
                refine seq_take (v := ?_) rfl (by kernel_rfl) (by kernel_rfl) (by kernel_rfl) (Or.inl ⟨by rfl, fun w' hSw => ?_⟩) (by assumption) ?_
                rotate_left
                · go_simp
                  with_reducible rfl
                simp only [Act.put, List.setIfInBounds_toArray, List.set_cons_zero, List.set_cons_succ]
                refine seq_take (v := ?_) rfl (by kernel_rfl) (by kernel_rfl) (by kernel_rfl) (Or.inl ⟨by rfl, fun w' hSw => ?_⟩) (by assumption) ?_
                rotate_left
                · go_simp
                  with_reducible rfl
                simp only [Act.put, List.setIfInBounds_toArray, List.set_cons_zero, List.set_cons_succ]
                refine seq_take (v := ?_) rfl (by kernel_rfl) (by kernel_rfl) (by kernel_rfl) (Or.inl ⟨by rfl, fun w' hSw => ?_⟩) (by assumption) ?_
                rotate_left
                · go_simp
                  with_reducible rfl
                simp only [Act.put, List.setIfInBounds_toArray, List.set_cons_zero, List.set_cons_succ]
                refine seq_take (v := ?_) rfl (by kernel_rfl) (by kernel_rfl) (by kernel_rfl) (Or.inl ⟨by rfl, fun w' hSw => ?_⟩) (by assumption) ?_
                rotate_left
                · go_simp
                  with_reducible rfl
                simp only [Act.put, List.setIfInBounds_toArray, List.set_cons_zero, List.set_cons_succ]
                refine seq_take (v := ?_) rfl (by kernel_rfl) (by kernel_rfl) (by kernel_rfl) (Or.inl ⟨by rfl, fun w' hSw => ?_⟩) (by assumption) ?_
                rotate_left
                · go_simp
                  with_reducible rfl
                simp only [Act.put, List.setIfInBounds_toArray, List.set_cons_zero, List.set_cons_succ]
                refine seq_take (v := ?_) rfl (by kernel_rfl) (by kernel_rfl) (by kernel_rfl) (Or.inl ⟨by rfl, fun w' hSw => ?_⟩) (by assumption) ?_
                rotate_left
                · go_simp
                  with_reducible rfl
                simp only [Act.put, List.setIfInBounds_toArray, List.set_cons_zero, List.set_cons_succ]
                refine seq_take (v := ?_) rfl (by kernel_rfl) (by kernel_rfl) (by kernel_rfl) (Or.inl ⟨by rfl, fun w' hSw => ?_⟩) (by assumption) ?_
                rotate_left
                · go_simp
                  with_reducible rfl
                simp only [Act.put, List.setIfInBounds_toArray, List.set_cons_zero, List.set_cons_succ]
                refine seq_take (v := ?_) rfl (by kernel_rfl) (by kernel_rfl) (by kernel_rfl) (Or.inl ⟨by rfl, fun w' hSw => ?_⟩) (by assumption) ?_
                rotate_left
                · go_simp
                  with_reducible rfl
                simp only [Act.put, List.setIfInBounds_toArray, List.set_cons_zero, List.set_cons_succ]
                refine seq_take (v := ?_) rfl (by kernel_rfl) (by kernel_rfl) (by kernel_rfl) (Or.inl ⟨by rfl, fun w' hSw => ?_⟩) (by assumption) ?_
                rotate_left
                · go_simp
                  with_reducible rfl
                simp only [Act.put, List.setIfInBounds_toArray, List.set_cons_zero, List.set_cons_succ]
                refine seq_take (v := ?_) rfl (by kernel_rfl) (by kernel_rfl) (by kernel_rfl) (Or.inl ⟨by rfl, fun w' hSw => ?_⟩) (by assumption) ?_
                rotate_left
                · go_simp
                  with_reducible rfl
                simp only [Act.put, List.setIfInBounds_toArray, List.set_cons_zero, List.set_cons_succ]
                refine seq_take (v := ?_) rfl (by kernel_rfl) (by kernel_rfl) (by kernel_rfl) (Or.inl ⟨by rfl, fun w' hSw => ?_⟩) (by assumption) ?_
                rotate_left
                · go_simp
                  with_reducible rfl
                simp only [Act.put, List.setIfInBounds_toArray, List.set_cons_zero, List.set_cons_succ]
                refine seq_done (by kernel_rfl) ?_
                all_goals skip
                have HV := Lib.hid (show Keeps [] W W4.drew from H4.out.1.drew)
                clear hS qa qb qc qd qe qf H4 fe
                generalize W4.drew = V at HV ⊢
                go_wp2_with fail
                go_roundw
                case rel => exact ⟨t + 1, by have := HTI.out; omega, by go_num, HV.out⟩
                case measure => have := HTI.out; simp [intOf]; omega
              | false =>
                have hev2 : ev = vj := HEV.out
                subst hev2
                refine seq_start (by kernel_rfl) (fun z => Keeps [] W4 z) 46 [0, 1, 2, 3, 4, 5, 6, 7, 8, 9, 10, 11, 12, 13, 14, 15, 16, 17, 18, 19, 20, 21, 22, 23, 24, 25, 26, 27, 28, 29, 30, 31, 32, 33, 34, 35, 36, 37, 38, 39, 40, 41, 42, 43, 44, 45] rfl ((Keeps.refl [] W4).drew) (fun hS => ?_)
                refine seq_take (v := ?_) rfl (by kernel_rfl) (by kernel_rfl) (by kernel_rfl) (Or.inl ⟨by rfl, fun w' hSw => ?_⟩) (by assumption) ?_
                rotate_left
                · go_simp
                  with_reducible rfl
                simp only [Act.put, List.setIfInBounds_toArray, List.set_cons_zero, List.set_cons_succ]
                refine seq_take (v := ?_) rfl (by kernel_rfl) (by kernel_rfl) (by kernel_rfl) (Or.inl ⟨by rfl, fun w' hSw => ?_⟩) (by assumption) ?_
                rotate_left
                · go_simp
                  with_reducible rfl
                simp only [Act.put, List.setIfInBounds_toArray, List.set_cons_zero, List.set_cons_succ]
                refine seq_take (v := ?_) rfl (by kernel_rfl) (by kernel_rfl) (by kernel_rfl) (Or.inl ⟨by rfl, fun w' hSw => ?_⟩) (by assumption) ?_
                rotate_left
                · go_simp
                  with_reducible rfl
                simp only [Act.put, List.setIfInBounds_toArray, List.set_cons_zero, List.set_cons_succ]
                refine seq_take (v := ?_) rfl (by kernel_rfl) (by kernel_rfl) (by kernel_rfl) (Or.inl ⟨by rfl, fun w' hSw => ?_⟩) (by assumption) ?_
                rotate_left
                · go_simp
                  with_reducible rfl
                simp only [Act.put, List.setIfInBounds_toArray, List.set_cons_zero, List.set_cons_succ]
                refine seq_take (v := ?_) rfl (by kernel_rfl) (by kernel_rfl) (by kernel_rfl) (Or.inl ⟨by rfl, fun w' hSw => ?_⟩) (by assumption) ?_
                rotate_left
                · go_simp
                  with_reducible rfl
                simp only [Act.put, List.setIfInBounds_toArray, List.set_cons_zero, List.set_cons_succ]
                refine seq_take (v := ?_) rfl (by kernel_rfl) (by kernel_rfl) (by kernel_rfl) (Or.inl ⟨by rfl, fun w' hSw => ?_⟩) (by assumption) ?_
                rotate_left
                · go_simp
                  with_reducible rfl
                simp only [Act.put, List.setIfInBounds_toArray, List.set_cons_zero, List.set_cons_succ]
                refine seq_take (v := ?_) rfl (by kernel_rfl) (by kernel_rfl) (by kernel_rfl) (Or.inl ⟨by rfl, fun w' hSw => ?_⟩) (by assumption) ?_
                rotate_left
                · go_simp
                  with_reducible rfl
                simp only [Act.put, List.setIfInBounds_toArray, List.set_cons_zero, List.set_cons_succ]
                refine seq_take (v := ?_) rfl (by kernel_rfl) (by kernel_rfl) (by kernel_rfl) (Or.inl ⟨by rfl, fun w' hSw => ?_⟩) (by assumption) ?_
                rotate_left
                · go_simp
                  with_reducible rfl
                simp only [Act.put, List.setIfInBounds_toArray, List.set_cons_zero, List.set_cons_succ]
                refine seq_take (v := ?_) rfl (by kernel_rfl) (by kernel_rfl) (by kernel_rfl) (Or.inl ⟨by rfl, fun w' hSw => ?_⟩) (by assumption) ?_
                rotate_left
                · go_simp
                  with_reducible rfl
                simp only [Act.put, List.setIfInBounds_toArray, List.set_cons_zero, List.set_cons_succ]
                refine seq_take (v := ?_) rfl (by kernel_rfl) (by kernel_rfl) (by kernel_rfl) (Or.inl ⟨by rfl, fun w' hSw => ?_⟩) (by assumption) ?_
                rotate_left
                · go_simp
                  with_reducible rfl
                simp only [Act.put, List.setIfInBounds_toArray, List.set_cons_zero, List.set_cons_succ]
                refine seq_take (v := ?_) rfl (by kernel_rfl) (by kernel_rfl) (by kernel_rfl) (Or.inl ⟨by rfl, fun w' hSw => ?_⟩) (by assumption) ?_
                rotate_left
                · go_simp
                  with_reducible rfl
                simp only [Act.put, List.setIfInBounds_toArray, List.set_cons_zero, List.set_cons_succ]
                refine seq_take (v := ?_) rfl (by kernel_rfl) (by kernel_rfl) (by kernel_rfl) (Or.inl ⟨by rfl, fun w' hSw => ?_⟩) (by assumption) ?_
                rotate_left
                · go_simp
                  with_reducible rfl
                simp only [Act.put, List.setIfInBounds_toArray, List.set_cons_zero, List.set_cons_succ]
                refine seq_take (v := ?_) rfl (by kernel_rfl) (by kernel_rfl) (by kernel_rfl) (Or.inl ⟨by rfl, fun w' hSw => ?_⟩) (by assumption) ?_
                rotate_left
                · go_simp
                  with_reducible rfl
                simp only [Act.put, List.setIfInBounds_toArray, List.set_cons_zero, List.set_cons_succ]
                refine seq_take (v := ?_) rfl (by kernel_rfl) (by kernel_rfl) (by kernel_rfl) (Or.inl ⟨by rfl, fun w' hSw => ?_⟩) (by assumption) ?_
                rotate_left
                · go_simp
                  with_reducible rfl
                simp only [Act.put, List.setIfInBounds_toArray, List.set_cons_zero, List.set_cons_succ]
                refine seq_take (v := ?_) rfl (by kernel_rfl) (by kernel_rfl) (by kernel_rfl) (Or.inl ⟨by rfl, fun w' hSw => ?_⟩) (by assumption) ?_
                rotate_left
                · go_simp
                  with_reducible rfl
                simp only [Act.put, List.setIfInBounds_toArray, List.set_cons_zero, List.set_cons_succ]
                refine seq_take (v := ?_) rfl (by kernel_rfl) (by kernel_rfl) (by kernel_rfl) (Or.inl ⟨by rfl, fun w' hSw => ?_⟩) (by assumption) ?_
                rotate_left
                · go_simp
                  with_reducible rfl
                simp only [Act.put, List.setIfInBounds_toArray, List.set_cons_zero, List.set_cons_succ]
                refine seq_take (v := ?_) rfl (by kernel_rfl) (by kernel_rfl) (by kernel_rfl) (Or.inl ⟨by rfl, fun w' hSw => ?_⟩) (by assumption) ?_
                rotate_left
                · go_simp
                  with_reducible rfl
                simp only [Act.put, List.setIfInBounds_toArray, List.set_cons_zero, List.set_cons_succ]
                refine seq_take (v := ?_) rfl (by kernel_rfl) (by kernel_rfl) (by kernel_rfl) (Or.inl ⟨by rfl, fun w' hSw => ?_⟩) (by assumption) ?_
                rotate_left
                · go_simp
                  with_reducible rfl
                simp only [Act.put, List.setIfInBounds_toArray, List.set_cons_zero, List.set_cons_succ]
                refine seq_take (v := ?_) rfl (by kernel_rfl) (by kernel_rfl) (by kernel_rfl) (Or.inl ⟨by rfl, fun w' hSw => ?_⟩) (by assumption) ?_
                rotate_left
                · go_simp
                  with_reducible rfl
                simp only [Act.put, List.setIfInBounds_toArray, List.set_cons_zero, List.set_cons_succ]
                refine seq_take (v := ?_) rfl (by kernel_rfl) (by kernel_rfl) (by kernel_rfl) (Or.inl ⟨by rfl, fun w' hSw => ?_⟩) (by assumption) ?_
                rotate_left
                · go_simp
                  with_reducible rfl
                simp only [Act.put, List.setIfInBounds_toArray, List.set_cons_zero, List.set_cons_succ]
                refine seq_take (v := ?_) rfl (by kernel_rfl) (by kernel_rfl) (by kernel_rfl) (Or.inl ⟨by rfl, fun w' hSw => ?_⟩) (by assumption) ?_
                rotate_left
                · go_simp
                  with_reducible rfl
                simp only [Act.put, List.setIfInBounds_toArray, List.set_cons_zero, List.set_cons_succ]
                refine seq_take (v := ?_) rfl (by kernel_rfl) (by kernel_rfl) (by kernel_rfl) (Or.inl ⟨by rfl, fun w' hSw => ?_⟩) (by assumption) ?_
                rotate_left
                · go_simp
                  with_reducible rfl
                simp only [Act.put, List.setIfInBounds_toArray, List.set_cons_zero, List.set_cons_succ]
                refine seq_take (v := ?_) rfl (by kernel_rfl) (by kernel_rfl) (by kernel_rfl) (Or.inl ⟨by rfl, fun w' hSw => ?_⟩) (by assumption) ?_
                rotate_left
                · go_simp
                  with_reducible rfl
                simp only [Act.put, List.setIfInBounds_toArray, List.set_cons_zero, List.set_cons_succ]
                refine seq_take (v := ?_) rfl (by kernel_rfl) (by kernel_rfl) (by kernel_rfl) (Or.inl ⟨by rfl, fun w' hSw => ?_⟩) (by assumption) ?_
                rotate_left
                · go_simp
                  with_reducible rfl
                simp only [Act.put, List.setIfInBounds_toArray, List.set_cons_zero, List.set_cons_succ]
                refine seq_take (v := ?_) rfl (by kernel_rfl) (by kernel_rfl) (by kernel_rfl) (Or.inl ⟨by rfl, fun w' hSw => ?_⟩) (by assumption) ?_
                rotate_left
                · go_simp
                  with_reducible rfl
                simp only [Act.put, List.setIfInBounds_toArray, List.set_cons_zero, List.set_cons_succ]
                refine seq_take (v := ?_) rfl (by kernel_rfl) (by kernel_rfl) (by kernel_rfl) (Or.inl ⟨by rfl, fun w' hSw => ?_⟩) (by assumption) ?_
                rotate_left
                · go_simp
                  with_reducible rfl
                simp only [Act.put, List.setIfInBounds_toArray, List.set_cons_zero, List.set_cons_succ]
                refine seq_take (v := ?_) rfl (by kernel_rfl) (by kernel_rfl) (by kernel_rfl) (Or.inl ⟨by rfl, fun w' hSw => ?_⟩) (by assumption) ?_
                rotate_left
                · go_simp
                  with_reducible rfl
                simp only [Act.put, List.setIfInBounds_toArray, List.set_cons_zero, List.set_cons_succ]
                refine seq_take (v := ?_) rfl (by kernel_rfl) (by kernel_rfl) (by kernel_rfl) (Or.inl ⟨by rfl, fun w' hSw => ?_⟩) (by assumption) ?_
                rotate_left
                · go_simp
                  with_reducible rfl
                simp only [Act.put, List.setIfInBounds_toArray, List.set_cons_zero, List.set_cons_succ]
                refine seq_take (v := ?_) rfl (by kernel_rfl) (by kernel_rfl) (by kernel_rfl) (Or.inl ⟨by rfl, fun w' hSw => ?_⟩) (by assumption) ?_
                rotate_left
                · go_simp
                  with_reducible rfl
                simp only [Act.put, List.setIfInBounds_toArray, List.set_cons_zero, List.set_cons_succ]
                refine seq_take (v := ?_) rfl (by kernel_rfl) (by kernel_rfl) (by kernel_rfl) (Or.inl ⟨by rfl, fun w' hSw => ?_⟩) (by assumption) ?_
                rotate_left
                · go_simp
                  with_reducible rfl
                simp only [Act.put, List.setIfInBounds_toArray, List.set_cons_zero, List.set_cons_succ]
                refine seq_take (v := ?_) rfl (by kernel_rfl) (by kernel_rfl) (by kernel_rfl) (Or.inl ⟨by rfl, fun w' hSw => ?_⟩) (by assumption) ?_
                rotate_left
                · go_simp
                  with_reducible rfl
                simp only [Act.put, List.setIfInBounds_toArray, List.set_cons_zero, List.set_cons_succ]
                refine seq_take (v := ?_) rfl (by kernel_rfl) (by kernel_rfl) (by kernel_rfl) (Or.inl ⟨by rfl, fun w' hSw => ?_⟩) (by assumption) ?_
                rotate_left
                · go_simp
                  with_reducible rfl
                simp only [Act.put, List.setIfInBounds_toArray, List.set_cons_zero, List.set_cons_succ]
                refine seq_take (v := ?_) rfl (by kernel_rfl) (by kernel_rfl) (by kernel_rfl) (Or.inl ⟨by rfl, fun w' hSw => ?_⟩) (by assumption) ?_
                rotate_left
                · go_simp
                  with_reducible rfl
                simp only [Act.put, List.setIfInBounds_toArray, List.set_cons_zero, List.set_cons_succ]
                refine seq_take (v := ?_) rfl (by kernel_rfl) (by kernel_rfl) (by kernel_rfl) (Or.inl ⟨by rfl, fun w' hSw => ?_⟩) (by assumption) ?_
                rotate_left
                · go_simp
                  with_reducible rfl
                simp only [Act.put, List.setIfInBounds_toArray, List.set_cons_zero, List.set_cons_succ]
                refine seq_take (v := ?_) rfl (by kernel_rfl) (by kernel_rfl) (by kernel_rfl) (Or.inl ⟨by rfl, fun w' hSw => ?_⟩) (by assumption) ?_
                rotate_left
                · go_simp
                  with_reducible rfl
                simp only [Act.put, List.setIfInBounds_toArray, List.set_cons_zero, List.set_cons_succ]
                refine seq_take (v := ?_) rfl (by kernel_rfl) (by kernel_rfl) (by kernel_rfl) (Or.inl ⟨by rfl, fun w' hSw => ?_⟩) (by assumption) ?_
                rotate_left
                · go_simp
                  with_reducible rfl
                simp only [Act.put, List.setIfInBounds_toArray, List.set_cons_zero, List.set_cons_succ]
                refine seq_take (v := ?_) rfl (by kernel_rfl) (by kernel_rfl) (by kernel_rfl) (Or.inl ⟨by rfl, fun w' hSw => ?_⟩) (by assumption) ?_
                rotate_left
                · go_simp
                  with_reducible rfl
                simp only [Act.put, List.setIfInBounds_toArray, List.set_cons_zero, List.set_cons_succ]
                refine seq_take (v := ?_) rfl (by kernel_rfl) (by kernel_rfl) (by kernel_rfl) (Or.inl ⟨by rfl, fun w' hSw => ?_⟩) (by assumption) ?_
                rotate_left
                · go_simp
                  with_reducible rfl
                simp only [Act.put, List.setIfInBounds_toArray, List.set_cons_zero, List.set_cons_succ]
                refine seq_take (v := ?_) rfl (by kernel_rfl) (by kernel_rfl) (by kernel_rfl) (Or.inl ⟨by rfl, fun w' hSw => ?_⟩) (by assumption) ?_
                rotate_left
                · go_simp
                  with_reducible rfl
                simp only [Act.put, List.setIfInBounds_toArray, List.set_cons_zero, List.set_cons_succ]
                refine seq_take (v := ?_) rfl (by kernel_rfl) (by kernel_rfl) (by kernel_rfl) (Or.inl ⟨by rfl, fun w' hSw => ?_⟩) (by assumption) ?_
                rotate_left
                · go_simp
                  with_reducible rfl
                simp only [Act.put, List.setIfInBounds_toArray, List.set_cons_zero, List.set_cons_succ]
                refine seq_take (v := ?_) rfl (by kernel_rfl) (by kernel_rfl) (by kernel_rfl) (Or.inl ⟨by rfl, fun w' hSw => ?_⟩) (by assumption) ?_
                rotate_left
                · go_simp
                  with_reducible rfl
                simp only [Act.put, List.setIfInBounds_toArray, List.set_cons_zero, List.set_cons_succ]
                refine seq_take (v := undef) rfl (by kernel_rfl) (by kernel_rfl) (by kernel_rfl) (Or.inr ⟨by rfl, rfl⟩) (by assumption) ?_
                simp only [Act.put, List.setIfInBounds_toArray, List.set_cons_zero, List.set_cons_succ]
                refine seq_take (v := undef) rfl (by kernel_rfl) (by kernel_rfl) (by kernel_rfl) (Or.inr ⟨by rfl, rfl⟩) (by assumption) ?_
                simp only [Act.put, List.setIfInBounds_toArray, List.set_cons_zero, List.set_cons_succ]
                refine seq_take (v := undef) rfl (by kernel_rfl) (by kernel_rfl) (by kernel_rfl) (Or.inr ⟨by rfl, rfl⟩) (by assumption) ?_
                simp only [Act.put, List.setIfInBounds_toArray, List.set_cons_zero, List.set_cons_succ]
                refine seq_take (v := ?_) rfl (by kernel_rfl) (by kernel_rfl) (by kernel_rfl) (Or.inl ⟨by rfl, fun w' hSw => ?_⟩) (by assumption) ?_
                rotate_left
                · go_simp
                  with_reducible rfl
                simp only [Act.put, List.setIfInBounds_toArray, List.set_cons_zero, List.set_cons_succ]
                refine seq_take (v := ?_) rfl (by kernel_rfl) (by kernel_rfl) (by kernel_rfl) (Or.inl ⟨by rfl, fun w' hSw => ?_⟩) (by assumption) ?_
                rotate_left
                · go_simp
                  with_reducible rfl
                simp only [Act.put, List.setIfInBounds_toArray, List.set_cons_zero, List.set_cons_succ]
                refine seq_done (by kernel_rfl) ?_
                all_goals skip
                have HV := Lib.hid (show Keeps [] W W4.drew from H4.out.1.drew)
                clear hS qa qb qc qd qe qf H4
                generalize W4.drew = V at HV ⊢
                go_wp2_with fail
                go_roundw
                case rel => exact ⟨t + 1, by have := HTI.out; omega, by go_num, HV.out⟩
                case measure => have := HTI.out; simp [intOf]; omega
        · obtain rfl : t = i := by omega
          have hik : ¬ (t : Int) < (t : Int) := by omega
          have HMW := Lib.hid (show MemS wr g A1 c1 L ∧ Keeps [] w wr from ⟨HM.out.keeps0 hinv.out, HK.out.trans hinv.out (by simp)⟩)
          clear hlt hinv HM HK
          go_wp2_with fail
          refine (entries_any g A1 c1 L wr HMW.out.1 HL.out.1 (by have := HL.out.2.1; omega)).mono ?_
          rintro r w3 ⟨A3, c3, rfl, ho3, hk3, hb3⟩
          obtain ⟨m, hm⟩ : ∃ m, m = L.length := ⟨_, rfl⟩
          rw [← hm] at ho3 ⊢
          have HMM := Lib.hid hm
          have hml : m ≤ 60 := by rw [hm]; exact HL.out.2.1
          have H3 := Lib.hid (show MemS w3 g A1 c1 L ∧ Keeps [] w w3 ∧ w3.ownsRow 0 27 3 (.slice A3 m c3) m (encEn L) ∧ (∀ a, A3 = some a → w.heap.size ≤ a.block ∧ a.block ≠ g ∧ (∀ b, A1 = some b → b.block ≠ a.block)) from by
            refine ⟨HMW.out.1.keeps0 hk3, HMW.out.2.trans hk3 (by simp), ho3, fun a ha => ?_⟩
            have h1 := hb3 a ha
            have h2 := lt_of_block HMW.out.1.1
            have h3 := HMW.out.2.size
            refine ⟨by omega, by omega, fun b hb => ?_⟩
            have := ownsRow_lt HMW.out.1.2.1 b hb
            omega)
          have INV := Lib.hid (Keeps.refl [] w3)
          clear hm ho3 hk3 hb3 HMW
          go_wp2_with fail
          go_loopw [12] (fun si wr => ∃ (x : Nat), 1 ≤ x ∧ x ≤ m + 1 ∧ si = .int .i64 x ∧ Hid (Keeps [] w3 wr)) (fun si _ => m + 1 - (intOf si).toNat)
          case atStart => exact ⟨1, by omega, by omega, rfl, INV.out⟩
          case round =>
            clear INV
            obtain ⟨x, hx1, hxm, rfl, hinv⟩ := hrel
            by_cases hlt : x < m
            · have hik : (x : Int) < (m : Int) := by omega
              obtain ⟨y, hy⟩ : ∃ y, y = x - 1 := ⟨_, rfl⟩
              have fy : IntKind.i64.wrap ((x : Int) - 1) = (y : Int) := by rw [IntKind.wrap_i64]; omega
              have hym : (y : Int) < (m : Int) := by omega
              have HXL := Lib.hid (show x < L.length ∧ y < L.length ∧ y < x ∧ x < m from by have := HMM.out; omega)
              have hrd : Rd wr A3 L.length 3 (encEn L) := by rw [← HMM.out]; exact (Rd.of_own H3.out.2.2.1).keeps0 hinv.out
              obtain ⟨ga, o, hA, k0, _, _⟩ := en_cells hrd (i := x) HXL.out.1
              obtain ⟨ga', o', hA', m0, _, _⟩ := en_cells hrd (i := y) HXL.out.2.1
              rw [hA] at hA'
              obtain ⟨rfl, rfl⟩ : ga = ga' ∧ o = o' := by injection hA' with e1; injection e1 with e2 e3; exact ⟨e2, e3⟩
              have HLT := Lib.hid (HL.out.1.lt HXL.out.1 HXL.out.2.2.1)
              obtain ⟨kx, hkx⟩ : ∃ kx, kx = (L[x]'(HXL.out.1)).k := ⟨_, rfl⟩
              obtain ⟨ky, hky⟩ : ∃ ky, ky = (L[y]'(HXL.out.2.1)).k := ⟨_, rfl⟩
              rw [← hkx] at k0 HLT
              rw [← hky] at m0 HLT
              have fl : Op.bytesLess (strB ky).toList (strB kx).toList = true := by rw [strB_toList, strB_toList]; exact HLT.out
              have HC := Lib.hid (And.intro k0 m0)
              subst hA
              clear hkx hky hA' k0 m0 hlt hrd hy
              go_upto_region 25 with fail
              have qa : ∀ z : World, (z.cell? ⟨ga, o + x * 3, none⟩ = some (.string (strB kx)) ∧ z.cell? ⟨ga, o + y * 3, none⟩ = some (.string (strB ky))) → z.cell? ⟨ga, o + x * 3, none⟩ = some (.string (strB kx)) := fun z hz => hz.1
              have qb : ∀ z : World, (z.cell? ⟨ga, o + x * 3, none⟩ = some (.string (strB kx)) ∧ z.cell? ⟨ga, o + y * 3, none⟩ = some (.string (strB ky))) → z.cell? ⟨ga, o + y * 3, none⟩ = some (.string (strB ky)) := fun z hz => hz.2
              refine seq_start (by kernel_rfl) (fun z => z.cell? ⟨ga, o + x * 3, none⟩ = some (.string (strB kx)) ∧ z.cell? ⟨ga, o + y * 3, none⟩ = some (.string (strB ky))) 12 [0, 1, 2, 3, 4, 5, 6, 7, 8, 9, 10, 11] rfl (HC.out) (fun hS => ?_)
              refine seq_take (v := ?_) rfl (by kernel_rfl) (by kernel_rfl) (by kernel_rfl) (Or.inl ⟨by rfl, fun w' hSw => ?_⟩) (by assumption) ?_
              rotate_left
              · go_simp
                with_reducible rfl
              simp only [Act.put, List.setIfInBounds_toArray, List.set_cons_zero, List.set_cons_succ]
              refine seq_take (v := ?_) rfl (by kernel_rfl) (by kernel_rfl) (by kernel_rfl) (Or.inl ⟨by rfl, fun w' hSw => ?_⟩) (by assumption) ?_
              rotate_left
              · go_simp
                with_reducible rfl
              simp only [Act.put, List.setIfInBounds_toArray, List.set_cons_zero, List.set_cons_succ]
              refine seq_take (v := ?_) rfl (by kernel_rfl) (by kernel_rfl) (by kernel_rfl) (Or.inl ⟨by rfl, fun w' hSw => ?_⟩) (by assumption) ?_
              rotate_left
              · go_simp
                with_reducible rfl
              simp only [Act.put, List.setIfInBounds_toArray, List.set_cons_zero, List.set_cons_succ]
              refine seq_take (v := ?_) rfl (by kernel_rfl) (by kernel_rfl) (by kernel_rfl) (Or.inl ⟨by rfl, fun w' hSw => ?_⟩) (by assumption) ?_
              rotate_left
              · go_simp
                with_reducible rfl
              simp only [Act.put, List.setIfInBounds_toArray, List.set_cons_zero, List.set_cons_succ]
              refine seq_take (v := ?_) rfl (by kernel_rfl) (by kernel_rfl) (by kernel_rfl) (Or.inl ⟨by rfl, fun w' hSw => ?_⟩) (by assumption) ?_
              rotate_left
              · go_simp
                with_reducible rfl
              simp only [Act.put, List.setIfInBounds_toArray, List.set_cons_zero, List.set_cons_succ]
              refine seq_take (v := ?_) rfl (by kernel_rfl) (by kernel_rfl) (by kernel_rfl) (Or.inl ⟨by rfl, fun w' hSw => ?_⟩) (by assumption) ?_
              rotate_left
              · go_simp
                with_reducible rfl
              simp only [Act.put, List.setIfInBounds_toArray, List.set_cons_zero, List.set_cons_succ]
              refine seq_take (v := ?_) rfl (by kernel_rfl) (by kernel_rfl) (by kernel_rfl) (Or.inl ⟨by rfl, fun w' hSw => ?_⟩) (by assumption) ?_
              rotate_left
              · go_simp
                with_reducible rfl
              simp only [Act.put, List.setIfInBounds_toArray, List.set_cons_zero, List.set_cons_succ]
              refine seq_take (v := ?_) rfl (by kernel_rfl) (by kernel_rfl) (by kernel_rfl) (Or.inl ⟨by rfl, fun w' hSw => ?_⟩) (by assumption) ?_
              rotate_left
              · go_simp
                with_reducible rfl
              simp only [Act.put, List.setIfInBounds_toArray, List.set_cons_zero, List.set_cons_succ]
              refine seq_take (v := ?_) rfl (by kernel_rfl) (by kernel_rfl) (by kernel_rfl) (Or.inl ⟨by rfl, fun w' hSw => ?_⟩) (by assumption) ?_
              rotate_left
              · go_simp
                with_reducible rfl
              simp only [Act.put, List.setIfInBounds_toArray, List.set_cons_zero, List.set_cons_succ]
              refine seq_take (v := ?_) rfl (by kernel_rfl) (by kernel_rfl) (by kernel_rfl) (Or.inl ⟨by rfl, fun w' hSw => ?_⟩) (by assumption) ?_
              rotate_left
              · go_simp
                with_reducible rfl
              simp only [Act.put, List.setIfInBounds_toArray, List.set_cons_zero, List.set_cons_succ]
              refine seq_take (v := ?_) rfl (by kernel_rfl) (by kernel_rfl) (by kernel_rfl) (Or.inl ⟨by rfl, fun w' hSw => ?_⟩) (by assumption) ?_
              rotate_left
              · go_simp
                with_reducible rfl
              simp only [Act.put, List.setIfInBounds_toArray, List.set_cons_zero, List.set_cons_succ]
              refine seq_take (v := ?_) rfl (by kernel_rfl) (by kernel_rfl) (by kernel_rfl) (Or.inl ⟨by rfl, fun w' hSw => ?_⟩) (by assumption) ?_
              rotate_left
              · go_simp
                with_reducible rfl
              simp only [Act.put, List.setIfInBounds_toArray, List.set_cons_zero, List.set_cons_succ]
              refine seq_done (by kernel_rfl) ?_
              all_goals skip
              have HV := Lib.hid (show Keeps [] w3 wr.drew from hinv.out.drew)
              clear hS qa qb HC hinv fl
              generalize wr.drew = V at HV ⊢
              go_wp2_with fail
              go_roundw
              case rel => exact ⟨x + 1, by omega, by have := HXL.out; omega, by go_num, HV.out⟩
              case measure => have := HXL.out; simp [intOf]; omega
            · have hik : ¬ (x : Int) < (m : Int) := by omega
              have H4 := Lib.hid (show MemS wr g A1 c1 L ∧ Keeps [] w wr ∧ wr.ownsRow 0 27 3 (.slice A3 m c3) m (encEn L) from ⟨H3.out.1.keeps0 hinv.out, H3.out.2.1.trans hinv.out (by simp), ownsRow_keeps H3.out.2.2.1 hinv.out (by simp)⟩)
              have HA3 := Lib.hid H3.out.2.2.2
              clear hlt hinv H3 hx1 hxm
              go_wp2_with fail
              have HOW := own_en A3 c3 L wr (by rw [← HMM.out]; exact Rd.of_own H4.out.2.2) (by have := HL.out.2.1; omega)
              unfold NewEn at HOW
              rw [← HMM.out] at HOW
              refine HOW.mono ?_
              clear HOW
              rintro r w5 ⟨A5, c5, rfl, ho5, hk5, hb5⟩
              have HA5 := Lib.hid (show ∀ a b, A3 = some a → A5 = some b → b.block ≠ a.block from fun a b ha hb => by have := hb5 b hb; have := ownsRow_lt H4.out.2.2 a ha; omega)
              have INV := Lib.hid (show MemS w5 g A1 c1 L ∧ Keeps [] w w5 ∧ w5.ownsRow 0 27 3 (.slice A3 m c3) m (encEn L) ∧ Rd w5 A5 m 3 (encEn L) from ⟨H4.out.1.keeps0 hk5, H4.out.2.1.trans hk5 (by simp), ownsRow_keeps H4.out.2.2 hk5 (by simp), Rd.of_own ho5⟩)
              clear ho5 hk5 hb5 H4
              go_wp2_with fail
              go_loopw [14] (fun si wr => ∃ (y : Nat) (xs : List Value), y ≤ m ∧ si = .int .i64 y ∧ Hid (MemS wr g A1 c1 L ∧ Keeps [] w wr ∧ wr.ownsRow 0 27 3 (.slice A3 m c3) m xs ∧ Rd wr A5 m 3 (encEn L))) (fun si _ => m - (intOf si).toNat)
              case atStart => exact ⟨0, _, Nat.zero_le _, rfl, INV.out⟩
              case round =>
                clear INV
                obtain ⟨y, xs, hym, rfl, hinv⟩ := hrel
                by_cases hlt : y < m
                · have hik : (y : Int) < (m : Int) := by omega
                  obtain ⟨g3, c3', he3, _, _⟩ := World.ownsRow.form hinv.out.2.2.1 (by omega)
                  obtain ⟨rfl, rfl⟩ : A3 = some ⟨g3, 0, none⟩ ∧ c3 = c3' := by injection he3 with e1 e2 e3; exact ⟨e1, e3⟩
                  have HYM := Lib.hid hlt
                  have hxs : xs.length = m * 3 := hinv.out.2.2.1.1
                  have hc0 := World.ownsRow.cellAt hinv.out.2.2.1 (y * 3) (by omega)
                  rw [List.getElem?_eq_getElem (by omega)] at hc0
                  have hc : (wr.cell? ⟨g3, y * 3, none⟩).isSome = true := by rw [hc0]; rfl
                  obtain ⟨v0, hv0⟩ := Option.isSome_iff_exists.1 hc
                  have fz := World.ownsRow.frozenAt hinv.out.2.2.1 (y * 3)
                  have hst := (World.ownsRow.stored hinv.out.2.2.1 (y * 3) (.string ⟨#[115, 112, 111, 105, 108, 116]⟩)).1
                  have hks : Keeps [g3] wr (wr.setCell ⟨g3, y * 3, none⟩ (.string ⟨#[115, 112, 111, 105, 108, 116]⟩)) := (Keeps.refl _ wr).setCell (p := ⟨g3, y * 3, none⟩) (.inl (by simp)) _
                  have HV := Lib.hid (show MemS (wr.setCell ⟨g3, y * 3, none⟩ (.string ⟨#[115, 112, 111, 105, 108, 116]⟩)) g A1 c1 L ∧ Keeps [] w (wr.setCell ⟨g3, y * 3, none⟩ (.string ⟨#[115, 112, 111, 105, 108, 116]⟩)) ∧ (wr.setCell ⟨g3, y * 3, none⟩ (.string ⟨#[115, 112, 111, 105, 108, 116]⟩)).ownsRow 0 27 3 (.slice (some ⟨g3, 0, none⟩) m c3) m (xs.set (y * 3) (.string ⟨#[115, 112, 111, 105, 108, 116]⟩)) ∧ Rd (wr.setCell ⟨g3, y * 3, none⟩ (.string ⟨#[115, 112, 111, 105, 108, 116]⟩)) A5 m 3 (encEn L) from by
                    obtain ⟨h1, h2, h3⟩ := HA3.out _ rfl
                    refine ⟨hinv.out.1.keeps hks (by simpa using fun e => h2 e.symm) (fun b hb => by simpa using h3 b hb), hinv.out.2.1.trans hks (fun z hz => .inr (by simp at hz; subst hz; exact h1)), hst, hinv.out.2.2.2.keeps hks (fun b hb _ => by simpa using HA5.out _ b rfl hb)⟩)
                  clear hlt he3 hxs hc0 hc hst hks hinv
                  go_wp2_with fail
                  go_roundw
                  case rel => exact ⟨y + 1, _, HYM.out, by go_num, HV.out⟩
                  case measure => have := HYM.out; simp [intOf]; omega
                · have hik : ¬ (y : Int) < (m : Int) := by omega
                  have H6 := Lib.hid (show MemS wr g A1 c1 L ∧ Keeps [] w wr ∧ Rd wr A5 m 3 (encEn L) from ⟨hinv.out.1, hinv.out.2.1, hinv.out.2.2.2⟩)
                  clear hlt hinv
                  go_wp2_with fail
                  have HEN := entries_any g A1 c1 L wr H6.out.1 HL.out.1 (by have := HL.out.2.1; omega)
                  unfold NewEn at HEN
                  rw [← HMM.out] at HEN
                  refine HEN.mono ?_
                  clear HEN
                  rintro r w7 ⟨A7, c7, rfl, ho7, hk7, _⟩
                  have H7 := Lib.hid (show Keeps [] w w7 ∧ Rd w7 A7 m 3 (encEn L) ∧ Rd w7 A5 m 3 (encEn L) from ⟨H6.out.2.1.trans hk7 (by simp), Rd.of_own ho7, H6.out.2.2.keeps0 hk7⟩)
                  clear ho7 hk7 H6
                  go_wp2_with fail
                  have HES := entries_same L A7 A5 c7 c5 w7 (by rw [← HMM.out]; exact H7.out.2.1) (by rw [← HMM.out]; exact H7.out.2.2) (by have := HL.out.2.1; omega)
                  rw [← HMM.out] at HES
                  refine HES.mono ?_
                  clear HES
                  rintro r w8 ⟨rfl, hk8⟩
                  have H8 := Lib.hid (H7.out.1.trans hk8 (by simp))
                  clear hk8
                  go_wp2_with fail
                  refine (msure_any w8).mono ?_
                  rintro r w9 ⟨rfl, hk9⟩
                  have H9 := Lib.hid (H8.out.trans hk9 (by simp))
                  clear hk9
                  go_wp2_with fail
                  go_ret
                  exact ⟨rfl, H9.out⟩
theorem last_row (A : Option Addr) (c : Nat) (xs : List (ByteArray × ByteArray × Bool × Unit)) (w : World) (hok : (K.slice 40 KE).ok w ((A, c), xs)) :
    Calls Try.prog 4 #[.slice A xs.length c] w fun e w' => e = .returned (.bool true) ∧ Below w.heap.size w w' := by
  obtain ⟨h1, h2, h3, h4⟩ := read_en hok
  rw [← h1]
  exact (last_any A c _ w h2 h3 (by rw [h1]; exact h4)).mono fun _ _ h => ⟨h.1, h.2.below (Nat.le_refl _) (by simp)⟩
end Go.Proofs.Ytaedmafmflohiaa
