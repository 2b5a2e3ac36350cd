/- The law on the order in which unlike keys are put: called with any entries it answers true. -/
import Derived.Test.YtaedmafmflohiaaMemTwo
import Derived.Deep.DeepCutAuto
namespace Go.Proofs.Ytaedmafmflohiaa
open Go.RowKit

/-- No one from behind i to ahead of k has its key. -/
def LastTo (en : Nat → En) (i k : Nat) (b : Bool) : Prop := b = true ↔ ∀ j, i < j → j < k → (en j).k ≠ (en i).k
set_option maxRecDepth 100000 in
set_option maxHeartbeats 16000000 in
theorem order_any (A : Option Addr) (c : Nat) (l : List En) (w : World) (hr : Rd w A l.length 3 (encEn l)) (hok : EnOk l) (hl : l.length ≤ 140737488351232) :
    Calls Try.prog 5 #[.slice A l.length c] w fun r w' => r = .returned (.bool true) ∧ Keeps [] w w' := by
  have HRD := Lib.hid hr
  have HOK := Lib.hid hok
  obtain ⟨N, hN⟩ : ∃ N, N = l.length := ⟨_, rfl⟩
  have HN := Lib.hid hN
  obtain ⟨n, hn⟩ : ∃ n, n = min N 40 := ⟨_, rfl⟩
  have HNN := Lib.hid (show n ≤ N ∧ n ≤ 40 from ⟨by omega, by omega⟩)
  have dm : min (N : Int) 40 = (n : Int) := by omega
  rw [← hN] at hl ⊢
  clear hr hok hN hn
  go_enter Try.func5, Try.ntmps5
  go_wp2_with fail
  refine (mnew_any w).mono ?_
  rintro r w1 ⟨g, rfl, hm1, hk1, hg1⟩
  have H1 := Lib.hid (And.intro hm1 (And.intro hk1 hg1))
  clear hm1 hk1 hg1
  go_wp2_with fail
  refine (mnew_any w1).mono ?_
  rintro r w2 ⟨h, rfl, hm2, hk2, hg2⟩
  have INV := Lib.hid (show Two w w2 g h none none 0 0 [] [] from ⟨H1.out.1.keeps0 hk2, hm2, H1.out.2.1.trans hk2 (by simp), by have := lt_of_block H1.out.1.1; omega, H1.out.2.2, by have := H1.out.2.1.size; omega, by simp, by simp, by simp⟩)
  have INM := Lib.hid (InM.zero (enAt l) n)
  clear hm2 hk2 hg2 H1
  go_wp2_with fail
  go_loopw [6] (fun si wr => ∃ (i : Nat) (la : List En) (A1 : Option Addr) (c1 : Nat), i ≤ n ∧ si = .int .i64 i ∧ Hid (Two w wr g h A1 none c1 0 la []) ∧ Hid (InM (enAt l) n i la) ∧ Hid (la.length ≤ i ∧ EnOk la)) (fun si _ => n - (intOf si).toNat)
  case atStart => exact ⟨0, [], none, 0, Nat.zero_le _, rfl, INV.out, INM.out, ⟨Nat.le_refl _, by intro e he; cases he⟩⟩
  case round =>
    clear INV INM
    obtain ⟨i, la, A1, c1, hi, rfl, htw, him, hla⟩ := hrel
    by_cases hlt : i < n
    · have hik : (i : Int) < (n : Int) := by omega
      have HIN := Lib.hid hlt
      have HIL := Lib.hid (show i < l.length from by have := HN.out; have := HNN.out; omega)
      have INB := Lib.hid (show LastTo (enAt l) i (i + 1) true from ⟨fun _ j h1 h2 => by omega, fun _ => rfl⟩)
      clear hlt
      go_wp2_with fail
      have INV := Lib.hid (show Two w wr g h A1 none c1 0 la [] from htw.out)
      go_loopw [7, 8] (fun sb sk wv => ∃ (k : Nat) (b : Bool), sb = .bool b ∧ sk = .int .i64 k ∧ k ≤ n ∧ i < k ∧ Hid (LastTo (enAt l) i k b) ∧ Hid (Two w wv g h A1 none c1 0 la [])) (fun _ sk _ => n + 1 - (intOf sk).toNat)
      case atStart => exact ⟨i + 1, true, rfl, by go_num, by have := HIN.out; omega, by omega, INB.out, INV.out⟩
      case round =>
        clear INB INV
        obtain ⟨k, b, rfl, rfl, hk, hik2, hb, htv⟩ := hrel
        by_cases hlk : k < n
        · have hkn : (k : Int) < (n : Int) := by omega
          have HKL := Lib.hid (show k < l.length from by have := HN.out; have := HNN.out; omega)
          have HKN := Lib.hid (show k + 1 ≤ n ∧ i < k from ⟨hlk, hik2⟩)
          have hkN : (k : Int) < (N : Int) := by have := HNN.out; omega
          have hiN : (i : Int) < (N : Int) := by have := HNN.out; have := HIN.out; omega
          obtain ⟨ga, o, hA, k0, _, _⟩ := en_cells (HRD.out.keeps0 htv.out.kp) (i := k) HKL.out
          obtain ⟨ga', o', hA', m0, _, _⟩ := en_cells (HRD.out.keeps0 htv.out.kp) (i := i) HIL.out
          rw [hA] at hA'
          obtain ⟨rfl, rfl⟩ : ga = ga' ∧ o = o' := by injection hA' with e1; injection e1 with e2 e3; exact ⟨e2, e3⟩
          subst hA
          rw [enAt_get] at k0 m0
          obtain ⟨xk, hxk⟩ : ∃ xk, xk = (enAt l k).k := ⟨_, rfl⟩
          obtain ⟨xi, hxi⟩ : ∃ xi, xi = (enAt l i).k := ⟨_, rfl⟩
          rw [← hxk] at k0
          rw [← hxi] at m0
          obtain ⟨q, hq⟩ : ∃ q, q = (xk == xi) := ⟨_, rfl⟩
          have fq : ((strB xk).toList == (strB xi).toList) = q := by rw [strB_beq, hq]
          have HQ := Lib.hid (show (q = true ↔ (enAt l k).k = (enAt l i).k) from by rw [hq, hxk, hxi]; simp)
          have HC := Lib.hid (And.intro k0 m0)
          clear hxk hxi hq hA' k0 m0 hlk hik2
          go_upto_region 12 with fail
          have qa : ∀ z : World, (z.cell? ⟨ga, o + k * 3, none⟩ = some (.string (strB xk)) ∧ z.cell? ⟨ga, o + i * 3, none⟩ = some (.string (strB xi))) → z.cell? ⟨ga, o + k * 3, none⟩ = some (.string (strB xk)) := fun z hz => hz.1
          have qb : ∀ z : World, (z.cell? ⟨ga, o + k * 3, none⟩ = some (.string (strB xk)) ∧ z.cell? ⟨ga, o + i * 3, none⟩ = some (.string (strB xi))) → z.cell? ⟨ga, o + i * 3, none⟩ = some (.string (strB xi)) := fun z hz => hz.2
          cases b with
          | true =>
            refine seq_start (by kernel_rfl) (fun z => z.cell? ⟨ga, o + k * 3, none⟩ = some (.string (strB xk)) ∧ z.cell? ⟨ga, o + i * 3, none⟩ = some (.string (strB xi))) 15 [0, 1, 2, 3, 4, 5, 6, 7, 8, 9, 10, 11, 12, 13, 14] rfl (HC.out) (fun hS => ?_)
            refine seq_take (v := ?_) rfl (by kernel_rfl) (by kernel_rfl) (by kernel_rfl) (Or.inl ⟨by rfl, fun w' hSw => ?_⟩) (by assumption) ?_
            rotate_left
            · go_simp
              with_reducible rfl
            simp only [Act.put, List.setIfInBounds_toArray, List.set_cons_zero, List.set_cons_succ]
            refine seq_take (v := ?_) rfl (by kernel_rfl) (by kernel_rfl) (by kernel_rfl) (Or.inl ⟨by rfl, fun w' hSw => ?_⟩) (by assumption) ?_
            rotate_left
            · go_simp
              with_reducible rfl
            simp only [Act.put, List.setIfInBounds_toArray, List.set_cons_zero, List.set_cons_succ]
            refine seq_take (v := ?_) rfl (by kernel_rfl) (by kernel_rfl) (by kernel_rfl) (Or.inl ⟨by rfl, fun w' hSw => ?_⟩) (by assumption) ?_
            rotate_left
            · go_simp
              with_reducible rfl
            simp only [Act.put, List.setIfInBounds_toArray, List.set_cons_zero, List.set_cons_succ]
            refine seq_take (v := ?_) rfl (by kernel_rfl) (by kernel_rfl) (by kernel_rfl) (Or.inl ⟨by rfl, fun w' hSw => ?_⟩) (by assumption) ?_
            rotate_left
            · go_simp
              with_reducible rfl
            simp only [Act.put, List.setIfInBounds_toArray, List.set_cons_zero, List.set_cons_succ]
            refine seq_take (v := ?_) rfl (by kernel_rfl) (by kernel_rfl) (by kernel_rfl) (Or.inl ⟨by rfl, fun w' hSw => ?_⟩) (by assumption) ?_
            rotate_left
            · go_simp
              with_reducible rfl
            simp only [Act.put, List.setIfInBounds_toArray, List.set_cons_zero, List.set_cons_succ]
            refine seq_take (v := ?_) rfl (by kernel_rfl) (by kernel_rfl) (by kernel_rfl) (Or.inl ⟨by rfl, fun w' hSw => ?_⟩) (by assumption) ?_
            rotate_left
            · go_simp
              with_reducible rfl
            simp only [Act.put, List.setIfInBounds_toArray, List.set_cons_zero, List.set_cons_succ]
            refine seq_take (v := ?_) rfl (by kernel_rfl) (by kernel_rfl) (by kernel_rfl) (Or.inl ⟨by rfl, fun w' hSw => ?_⟩) (by assumption) ?_
            rotate_left
            · go_simp
              with_reducible rfl
            simp only [Act.put, List.setIfInBounds_toArray, List.set_cons_zero, List.set_cons_succ]
            refine seq_take (v := ?_) rfl (by kernel_rfl) (by kernel_rfl) (by kernel_rfl) (Or.inl ⟨by rfl, fun w' hSw => ?_⟩) (by assumption) ?_
            rotate_left
            · go_simp
              with_reducible rfl
            simp only [Act.put, List.setIfInBounds_toArray, List.set_cons_zero, List.set_cons_succ]
            refine seq_take (v := ?_) rfl (by kernel_rfl) (by kernel_rfl) (by kernel_rfl) (Or.inl ⟨by rfl, fun w' hSw => ?_⟩) (by assumption) ?_
            rotate_left
            · go_simp
              with_reducible rfl
            simp only [Act.put, List.setIfInBounds_toArray, List.set_cons_zero, List.set_cons_succ]
            refine seq_take (v := ?_) rfl (by kernel_rfl) (by kernel_rfl) (by kernel_rfl) (Or.inl ⟨by rfl, fun w' hSw => ?_⟩) (by assumption) ?_
            rotate_left
            · go_simp
              with_reducible rfl
            simp only [Act.put, List.setIfInBounds_toArray, List.set_cons_zero, List.set_cons_succ]
            refine seq_take (v := ?_) rfl (by kernel_rfl) (by kernel_rfl) (by kernel_rfl) (Or.inl ⟨by rfl, fun w' hSw => ?_⟩) (by assumption) ?_
            rotate_left
            · go_simp
              with_reducible rfl
            simp only [Act.put, List.setIfInBounds_toArray, List.set_cons_zero, List.set_cons_succ]
            refine seq_take (v := ?_) rfl (by kernel_rfl) (by kernel_rfl) (by kernel_rfl) (Or.inl ⟨by rfl, fun w' hSw => ?_⟩) (by assumption) ?_
            rotate_left
            · go_simp
              with_reducible rfl
            simp only [Act.put, List.setIfInBounds_toArray, List.set_cons_zero, List.set_cons_succ]
            refine seq_take (v := ?_) rfl (by kernel_rfl) (by kernel_rfl) (by kernel_rfl) (Or.inl ⟨by rfl, fun w' hSw => ?_⟩) (by assumption) ?_
            rotate_left
            · go_simp
              with_reducible rfl
            simp only [Act.put, List.setIfInBounds_toArray, List.set_cons_zero, List.set_cons_succ]
            refine seq_take (v := ?_) rfl (by kernel_rfl) (by kernel_rfl) (by kernel_rfl) (Or.inl ⟨by rfl, fun w' hSw => ?_⟩) (by assumption) ?_
            rotate_left
            · go_simp
              with_reducible rfl
            simp only [Act.put, List.setIfInBounds_toArray, List.set_cons_zero, List.set_cons_succ]
            refine seq_take (v := ?_) rfl (by kernel_rfl) (by kernel_rfl) (by kernel_rfl) (Or.inl ⟨by rfl, fun w' hSw => ?_⟩) (by assumption) ?_
            rotate_left
            · go_simp
              with_reducible rfl
            simp only [Act.put, List.setIfInBounds_toArray, List.set_cons_zero, List.set_cons_succ]
            refine seq_done (by kernel_rfl) ?_
            all_goals skip
            have HV := Lib.hid (htv.out.keeps0 (Keeps.refl [] wr).drew)
            have HB := Lib.hid (show LastTo (enAt l) i (k + 1) (!q) from by
              constructor
              · intro h1 j h2 h3
                by_cases e : j = k
                · subst e; intro e2; rw [HQ.out.2 e2] at h1; cases h1
                · exact hb.out.1 rfl j h2 (by omega)
              · intro h1
                cases hqq : q with
                | false => rfl
                | true => exact absurd (HQ.out.1 hqq) (h1 k HKN.out.2 (by omega)))
            clear hS qa qb HC htv
            generalize wr.drew = V at HV ⊢
            go_wp2_with fail
            go_roundw
            case rel => exact ⟨k + 1, !q, rfl, by go_num, by have := HKN.out; omega, by have := HKN.out; omega, HB.out, HV.out⟩
            case measure => have := HKN.out; simp [intOf]; omega
          | false =>
            refine seq_start (by kernel_rfl) (fun z => z.cell? ⟨ga, o + k * 3, none⟩ = some (.string (strB xk)) ∧ z.cell? ⟨ga, o + i * 3, none⟩ = some (.string (strB xi))) 15 [0, 1, 2, 3, 4, 5, 6, 7, 8, 9, 10, 11, 12, 13, 14] rfl (HC.out) (fun hS => ?_)
            refine seq_take (v := ?_) rfl (by kernel_rfl) (by kernel_rfl) (by kernel_rfl) (Or.inl ⟨by rfl, fun w' hSw => ?_⟩) (by assumption) ?_
            rotate_left
            · go_simp
              with_reducible rfl
            simp only [Act.put, List.setIfInBounds_toArray, List.set_cons_zero, List.set_cons_succ]
            refine seq_take (v := ?_) rfl (by kernel_rfl) (by kernel_rfl) (by kernel_rfl) (Or.inl ⟨by rfl, fun w' hSw => ?_⟩) (by assumption) ?_
            rotate_left
            · go_simp
              with_reducible rfl
            simp only [Act.put, List.setIfInBounds_toArray, List.set_cons_zero, List.set_cons_succ]
            refine seq_take (v := undef) rfl (by kernel_rfl) (by kernel_rfl) (by kernel_rfl) (Or.inr ⟨by rfl, rfl⟩) (by assumption) ?_
            simp only [Act.put, List.setIfInBounds_toArray, List.set_cons_zero, List.set_cons_succ]
            refine seq_take (v := undef) rfl (by kernel_rfl) (by kernel_rfl) (by kernel_rfl) (Or.inr ⟨by rfl, rfl⟩) (by assumption) ?_
            simp only [Act.put, List.setIfInBounds_toArray, List.set_cons_zero, List.set_cons_succ]
            refine seq_take (v := undef) rfl (by kernel_rfl) (by kernel_rfl) (by kernel_rfl) (Or.inr ⟨by rfl, rfl⟩) (by assumption) ?_
            simp only [Act.put, List.setIfInBounds_toArray, List.set_cons_zero, List.set_cons_succ]
            refine seq_take (v := undef) rfl (by kernel_rfl) (by kernel_rfl) (by kernel_rfl) (Or.inr ⟨by rfl, rfl⟩) (by assumption) ?_
            simp only [Act.put, List.setIfInBounds_toArray, List.set_cons_zero, List.set_cons_succ]
            refine seq_take (v := undef) rfl (by kernel_rfl) (by kernel_rfl) (by kernel_rfl) (Or.inr ⟨by rfl, rfl⟩) (by assumption) ?_
            simp only [Act.put, List.setIfInBounds_toArray, List.set_cons_zero, List.set_cons_succ]
            refine seq_take (v := undef) rfl (by kernel_rfl) (by kernel_rfl) (by kernel_rfl) (Or.inr ⟨by rfl, rfl⟩) (by assumption) ?_
            simp only [Act.put, List.setIfInBounds_toArray, List.set_cons_zero, List.set_cons_succ]
            refine seq_take (v := undef) rfl (by kernel_rfl) (by kernel_rfl) (by kernel_rfl) (Or.inr ⟨by rfl, rfl⟩) (by assumption) ?_
            simp only [Act.put, List.setIfInBounds_toArray, List.set_cons_zero, List.set_cons_succ]
            refine seq_take (v := undef) rfl (by kernel_rfl) (by kernel_rfl) (by kernel_rfl) (Or.inr ⟨by rfl, rfl⟩) (by assumption) ?_
            simp only [Act.put, List.setIfInBounds_toArray, List.set_cons_zero, List.set_cons_succ]
            refine seq_take (v := undef) rfl (by kernel_rfl) (by kernel_rfl) (by kernel_rfl) (Or.inr ⟨by rfl, rfl⟩) (by assumption) ?_
            simp only [Act.put, List.setIfInBounds_toArray, List.set_cons_zero, List.set_cons_succ]
            refine seq_take (v := undef) rfl (by kernel_rfl) (by kernel_rfl) (by kernel_rfl) (Or.inr ⟨by rfl, rfl⟩) (by assumption) ?_
            simp only [Act.put, List.setIfInBounds_toArray, List.set_cons_zero, List.set_cons_succ]
            refine seq_take (v := undef) rfl (by kernel_rfl) (by kernel_rfl) (by kernel_rfl) (Or.inr ⟨by rfl, rfl⟩) (by assumption) ?_
            simp only [Act.put, List.setIfInBounds_toArray, List.set_cons_zero, List.set_cons_succ]
            refine seq_take (v := ?_) rfl (by kernel_rfl) (by kernel_rfl) (by kernel_rfl) (Or.inl ⟨by rfl, fun w' hSw => ?_⟩) (by assumption) ?_
            rotate_left
            · go_simp
              with_reducible rfl
            simp only [Act.put, List.setIfInBounds_toArray, List.set_cons_zero, List.set_cons_succ]
            refine seq_take (v := ?_) rfl (by kernel_rfl) (by kernel_rfl) (by kernel_rfl) (Or.inl ⟨by rfl, fun w' hSw => ?_⟩) (by assumption) ?_
            rotate_left
            · go_simp
              with_reducible rfl
            simp only [Act.put, List.setIfInBounds_toArray, List.set_cons_zero, List.set_cons_succ]
            refine seq_done (by kernel_rfl) ?_
            all_goals skip
            have HV := Lib.hid (htv.out.keeps0 (Keeps.refl [] wr).drew)
            have HB := Lib.hid (show LastTo (enAt l) i (k + 1) false from by
              constructor
              · intro h1; cases h1
              · intro h1
                exact hb.out.2 (fun j h2 h3 => h1 j h2 (by omega)))
            clear hS qa qb HC htv
            generalize wr.drew = V at HV ⊢
            go_wp2_with fail
            go_roundw
            case rel => exact ⟨k + 1, false, rfl, by go_num, by have := HKN.out; omega, by have := HKN.out; omega, HB.out, HV.out⟩
            case measure => have := HKN.out; simp [intOf]; omega
        · have hkn : ¬ (k : Int) < (n : Int) := by omega
          have hiN : (i : Int) < (N : Int) := by have := HNN.out; have := HIN.out; omega
          have HBB := Lib.hid (show (b = true ↔ LastB (enAt l) n i) from by
            have h0 : b = true ↔ ∀ j, i < j → j < k → (enAt l j).k ≠ (enAt l i).k := hb.out
            rw [h0]
            exact ⟨fun h1 j h2 h3 => h1 j h2 (by omega), fun h1 j h2 h3 => h1 j h2 (by omega)⟩)
          clear hlk hk hik2 hb htw
          obtain ⟨ga, o, hA, k0, k1, k2⟩ := en_cells (HRD.out.keeps0 htv.out.kp) (i := i) HIL.out
          rw [enAt_get] at k0 k1 k2
          obtain ⟨e, he⟩ : ∃ e, e = enAt l i := ⟨_, rfl⟩
          rw [← he] at k0 k1 k2
          have HE := Lib.hid he
          subst hA
          clear he
          cases b with
          | true =>
            go_wp2_with fail
            have HPT := put_any g A1 c1 la e wr htv.out.ma him.out.1 hla.out.2 (by rw [HE.out]; exact (enAt_ok HOK.out i).1) (by rw [HE.out]; exact (enAt_ok HOK.out i).2) (by have := hla.out.1; have := HNN.out; have := HIN.out; omega)
            unfold En.val at HPT
            refine HPT.mono ?_
            clear HPT
            intro r w3 hp
            obtain ⟨rfl, A3, c3, htw3⟩ := htv.out.left hp
            have H3 := Lib.hid (show Two w w3 g h A3 none c3 0 (putE la (enAt l i)) [] from by rw [← HE.out]; exact htw3)
            have HM3 := Lib.hid (him.out.put HIN.out (HBB.out.1 (by trivial)))
            have HL3 := Lib.hid (show (putE la (enAt l i)).length ≤ i + 1 ∧ EnOk (putE la (enAt l i)) from ⟨by rw [putE_len]; have := hla.out.1; split <;> omega, putE_ok hla.out.2 him.out.1 (enAt_ok HOK.out i)⟩)
            clear htw3 hp k0 k1 k2
            go_wp2_with fail
            go_roundw
            case rel => exact ⟨i + 1, _, A3, c3, HIN.out, by go_num, H3.out, HM3.out, HL3.out⟩
            case measure => have := HIN.out; simp [intOf]; omega
          | false =>
            have HM3 := Lib.hid (him.out.skip (fun h1 => by have := HBB.out.2 h1; cases this))
            go_wp2_with fail
            go_roundw
            case rel => exact ⟨i + 1, la, A1, c1, HIN.out, by go_num, htv.out, HM3.out, ⟨by have := hla.out.1; omega, hla.out.2⟩⟩
            case measure => have := HIN.out; simp [intOf]; omega
    · have hik : ¬ (i : Int) < (n : Int) := by omega
      obtain rfl : i = n := by omega
      have HIM := Lib.hid him.out
      have INB := Lib.hid (InW.zero (enAt l) i)
      have HLA := Lib.hid hla.out
      have INV := Lib.hid htw.out
      clear hlt him hla htw
      go_wp2_with fail
      go_loopw [9] (fun si wr => ∃ (t : Nat) (lb : List En) (B : Option Addr) (d : Nat), t ≤ i ∧ si = .int .i64 ((i : Int) - 1 - (t : Int)) ∧ Hid (Two w wr g h A1 B c1 d la lb) ∧ Hid (InW (enAt l) i t lb) ∧ Hid (lb.length ≤ t ∧ EnOk lb)) (fun si _ => (intOf si + 1).toNat)
      case atStart => exact ⟨0, [], none, 0, Nat.zero_le _, by go_num, INV.out, INB.out, ⟨Nat.le_refl _, by intro e he; cases he⟩⟩
      case round =>
        clear INB INV
        obtain ⟨t, lb, B, d, ht, rfl, htw, him, hlb⟩ := hrel
        by_cases hlt : t < i
        · obtain ⟨j, hj⟩ : ∃ j, j = i - 1 - t := ⟨_, rfl⟩
          have ej : (i : Int) - 1 - (t : Int) = (j : Int) := by omega
          rw [ej]
          have HTJ := Lib.hid (show t < i ∧ j = i - 1 - t from ⟨hlt, hj⟩)
          have HJL := Lib.hid (show j < l.length from by have := HN.out; have := HNN.out; omega)
          have hjN : (j : Int) < (N : Int) := by have := HNN.out; omega
          have hj0 : (0 : Int) ≤ (j : Int) := by omega
          obtain ⟨ga, o, hA, k0, k1, k2⟩ := en_cells (HRD.out.keeps0 htw.out.kp) (i := j) HJL.out
          rw [enAt_get] at k0 k1 k2
          obtain ⟨e, he⟩ : ∃ e, e = enAt l j := ⟨_, rfl⟩
          rw [← he] at k0 k1 k2
          have HE := Lib.hid he
          subst hA
          clear he hj ej hlt
          go_wp2_with fail
          refine (get_any h B d lb e.k wr htw.out.mb him.out.1 (by have := hlb.out.1; have := HNN.out; omega)).mono ?_
          rintro r w3 ⟨rfl, hk3⟩
          have H3 := Lib.hid (htw.out.keeps0 hk3)
          unfold getV
          have hk3' : getE lb e.k = getE lb (enAt l (i - 1 - t)).k := by rw [HE.out, HTJ.out.2]
          cases hg : getE lb e.k with
          | some x =>
            have HM3 := Lib.hid (him.out.skip HTJ.out.1 (by rw [← hk3', hg]; simp))
            simp only [Option.getD_some, Option.isSome_some]
            unfold En.val
            clear hk3' hk3 htw k0 k1 k2 hg
            go_wp2_with fail
            have H4 := Lib.hid (H3.out.keeps0 ((Keeps.refl [] w3).alloc (.cells #[.string (strB x.k), .string (strB x.v), .bool x.g] 27)))
            go_roundw
            case rel => exact ⟨t + 1, lb, B, d, HTJ.out.1, by have := HTJ.out; go_num, H4.out, HM3.out, ⟨by have := hlb.out.1; omega, hlb.out.2⟩⟩
            case measure => have := HTJ.out; simp [intOf] <;> omega
          | none =>
            have HG := Lib.hid (show getE lb (enAt l (i - 1 - t)).k = none from by rw [← hk3', hg])
            simp only [Option.getD_none, Option.isSome_none]
            unfold En.val zeroE
            have hka : Keeps [] w3 (w3.alloc (.cells #[.string (strB []), .string (strB []), .bool false] 27)) := (Keeps.refl [] w3).alloc _
            have H4 := Lib.hid (H3.out.keeps0 hka)
            have k0' := hka.cell (hk3.cell k0 (by simp)) (by simp)
            have k1' := hka.cell (hk3.cell k1 (by simp)) (by simp)
            have k2' := hka.cell (hk3.cell k2 (by simp)) (by simp)
            clear hk3' hk3 htw k0 k1 k2 hg hka
            go_wp2_with fail
            generalize w3.alloc (.cells #[.string (strB []), .string (strB []), .bool false] 27) = w4 at H4 k0' k1' k2' ⊢
            have HPT := put_any h B d lb e w4 H4.out.mb him.out.1 hlb.out.2 (by rw [HE.out]; exact (enAt_ok HOK.out j).1) (by rw [HE.out]; exact (enAt_ok HOK.out j).2) (by have := hlb.out.1; have := HNN.out; have := HTJ.out; omega)
            unfold En.val at HPT
            refine HPT.mono ?_
            clear HPT
            intro r w5 hp
            obtain ⟨rfl, B5, d5, htw5⟩ := H4.out.right hp
            have H5 := Lib.hid (show Two w w5 g h A1 B5 c1 d5 la (putE lb (enAt l (i - 1 - t))) from by rw [← HTJ.out.2, ← HE.out]; exact htw5)
            have HM5 := Lib.hid (him.out.put HTJ.out.1 HG.out)
            have HL5 := Lib.hid (show (putE lb (enAt l (i - 1 - t))).length ≤ t + 1 ∧ EnOk (putE lb (enAt l (i - 1 - t))) from ⟨by rw [putE_len]; have := hlb.out.1; split <;> omega, putE_ok hlb.out.2 him.out.1 (enAt_ok HOK.out _)⟩)
            clear htw5 hp k0' k1' k2' H4
            go_wp2_with fail
            go_roundw
            case rel => exact ⟨t + 1, _, B5, d5, HTJ.out.1, by have := HTJ.out; go_num, H5.out, HM5.out, HL5.out⟩
            case measure => have := HTJ.out; simp [intOf] <;> omega
        · obtain rfl : t = i := by omega
          have hneg : ¬ (0 : Int) ≤ (t : Int) - 1 - (t : Int) := by omega
          have HEQ := Lib.hid (InM_InW HIM.out him.out)
          have HLL := Lib.hid (show la.length ≤ 10000 from by have := HLA.out.1; have := HNN.out; omega)
          have HSL := Lib.hid HIM.out.1
          have hlb2 : lb = la := HEQ.out.symm
          subst hlb2
          clear hlt
          go_wp2_with fail
          refine (entries_any g A1 c1 _ wr htw.out.ma HSL.out HLL.out).mono ?_
          rintro r w3 ⟨A3, c3, rfl, ho3, hk3, _⟩
          have H3 := Lib.hid (And.intro (htw.out.keeps0 hk3) (Rd.of_own ho3))
          clear ho3 hk3 htw
          go_wp2_with fail
          refine (entries_any h B d _ w3 H3.out.1.mb HSL.out HLL.out).mono ?_
          rintro r w4 ⟨A4, c4, rfl, ho4, hk4, _⟩
          have H4 := Lib.hid (And.intro (H3.out.1.keeps0 hk4) (And.intro (H3.out.2.keeps0 hk4) (Rd.of_own ho4)))
          clear ho4 hk4 H3
          go_wp2_with fail
          refine (entries_same _ A3 A4 c3 c4 w4 H4.out.2.1 H4.out.2.2 (by have := HLL.out; omega)).mono ?_
          rintro r w5 ⟨rfl, hk5⟩
          have H5 := Lib.hid (H4.out.1.keeps0 hk5)
          clear hk5 H4
          go_wp2_with fail
          refine (size_any g A1 c1 _ w5 H5.out.ma).mono ?_
          rintro r w6 ⟨rfl, rfl⟩
          go_wp2_with fail
          refine (size_any h B d _ w5 H5.out.mb).mono ?_
          rintro r w6 ⟨rfl, rfl⟩
          go_wp2_with fail
          refine (msure_any w5).mono ?_
          rintro r w7 ⟨rfl, hk7⟩
          have H7 := Lib.hid (H5.out.kp.trans hk7 (by simp))
          clear hk7
          go_wp2_with fail
          go_ret
          exact ⟨rfl, H7.out⟩
theorem order_row (A : Option Addr) (c : Nat) (xs : List (ByteArray × ByteArray × Bool × Unit)) (w : World) (hok : (K.slice 40 KE).ok w ((A, c), xs)) :
    Calls Try.prog 5 #[.slice A xs.length c] w fun e w' => e = .returned (.bool true) ∧ Below w.heap.size w w' := by
  obtain ⟨h1, h2, h3, h4⟩ := read_en hok
  rw [← h1]
  exact (order_any A c _ w h2 h3 (by rw [h1]; exact h4)).mono fun _ _ h => ⟨h.1, h.2.below (Nat.le_refl _) (by simp)⟩
end Go.Proofs.Ytaedmafmflohiaa
