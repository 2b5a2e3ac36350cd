/- The law that what was added may be there: called with any size and any keys it answers true. -/
import Derived.Test.YthppbefemfkccaaBloomThereP
namespace Go.Proofs.Ythppbefemfkccaa
open Go.RowKit
attribute [local irreducible] bitsK orAll encK fullK mayK

set_option maxRecDepth 100000 in
set_option maxHeartbeats 8000000 in
theorem there_any (x y : Int) (A : Option Addr) (c : Nat) (xs : List ByteArray) (w : World) (hok : (K.slice 16 K.str).ok w ((A, c), xs)) :
    Calls Try.prog 4 #[.agg #[.int .i64 x, .int .i64 y], .slice A xs.length c] w fun e w' => e = .returned (.bool true) ∧ Below w.heap.size w w' := by
  have HRD := Lib.hid (show Rd w A xs.length 1 (xs.flatMap K.str.cells) from hok.2.2.1)
  have HSZ := Lib.hid (show ∀ s ∈ xs, s.size ≤ 140737488351232 from fun s hs => hok.2.2.2 s hs)
  have HLN := Lib.hid (show xs.length ≤ 140737488351232 by have h1 : xs.length * 16 ≤ 140737488351232 := hok.2.1; omega)
  clear hok
  obtain ⟨i1, hi1, hx1⟩ := cutM x 300 (by decide) (by decide)
  obtain ⟨i2, hi2, hx2⟩ := cutM y 16 (by decide) (by decide)
  rw [show ((300 : Nat) : Int) = 300 from rfl] at hx1
  rw [show ((16 : Nat) : Int) = 16 from rfl] at hx2
  obtain ⟨N, hN⟩ : ∃ N, N = 1 + i1 := ⟨_, rfl⟩
  obtain ⟨M, hM⟩ : ∃ M, M = 1 + i2 := ⟨_, rfl⟩
  have d1 : (1 : Int) + (i1 : Int) = (N : Int) := by omega
  have d2 : (1 : Int) + (i2 : Int) = (M : Int) := by omega
  have HNM := Lib.hid (show (1 ≤ N ∧ N ≤ 1048576) ∧ (1 ≤ M ∧ M ≤ 16) ∧ N ≤ 300 from ⟨by omega, by omega, by omega⟩)
  clear hN hM
  go_enter Try.func4, Try.ntmps4
  go_wp2_with fail
  refine (bnew_any N M _ HNM.out.1 HNM.out.2.1).mono ?_
  rintro e w1 ⟨g, A1, rfl, hf1, hg1, hA1, hk1⟩
  obtain ⟨m, hm⟩ : ∃ m, m = (N + 7) / 8 := ⟨_, rfl⟩
  rw [← hm] at hf1
  obtain ⟨z, hz⟩ : ∃ z : List UInt8, z = List.replicate m 0 := ⟨_, rfl⟩
  rw [← hz] at hf1
  obtain ⟨bx, hbx⟩ : ∃ bx, bx = w.heap.size := ⟨_, rfl⟩
  have c1 : w1.cell? ⟨bx, 1, none⟩ = some (.int .i64 y) := by rw [hbx]; exact hk1.cell (by simp) (by simp)
  have H1 := Lib.hid (show Fm w1 g N M A1 m z ∧ Keeps [] w w1 ∧ w1.cell? ⟨bx, 1, none⟩ = some (.int .i64 y) from ⟨hf1, ((Keeps.refl [] w).alloc _).trans hk1 (by simp), c1⟩)
  have HA1 := Lib.hid (show ∀ a, A1 = some a → w.heap.size ≤ a.block ∧ a.block ≠ bx from fun a ha => by have := hA1 a ha; simp at this; exact ⟨by omega, by omega⟩)
  have HZM := Lib.hid (show z.length = m ∧ N ≤ 8 * m ∧ m ≤ 100 from ⟨by rw [hz]; simp, by omega, by have := HNM.out.2.2; omega⟩)
  have HMN := Lib.hid hm
  have HZZ := Lib.hid hz
  have HBX := Lib.hid hbx
  rw [← hbx]
  clear hf1 hg1 hA1 hk1 hm hz c1 hbx
  obtain ⟨n, hn⟩ : ∃ n, n = min xs.length 40 := ⟨_, rfl⟩
  have HN := Lib.hid (show n ≤ xs.length ∧ n ≤ 40 from ⟨by omega, by omega⟩)
  have dm : min ((xs.length : Nat) : Int) 40 = (n : Int) := by omega
  clear hn
  go_wp2_with fail
  obtain ⟨key, hkey⟩ : ∃ key : Nat → List UInt8, key = fun t => (xs.getD t ByteArray.empty).data.toList := ⟨_, rfl⟩
  have HKEY := Lib.hid (show ∀ t (ht : t < xs.length), xs[t] = strB (key t) ∧ (key t).length ≤ 140737488351232 from fun t ht => by
    have e : xs.getD t ByteArray.empty = xs[t] := by rw [List.getD_eq_getElem?_getD, List.getElem?_eq_getElem ht]; rfl
    rw [hkey]
    simp only [e]
    exact ⟨rfl, by have := HSZ.out _ (List.getElem_mem ht); exact this⟩)
  obtain ⟨B, hB⟩ : ∃ B : Nat → List Nat, B = fun t => bitsK N M (key t) := ⟨_, rfl⟩
  have HBB := Lib.hid (show ∀ t, bitsK N M (key t) = B t from fun t => by rw [hB])
  have HBL := Lib.hid (show (∀ t, (B t).length = M) ∧ ∀ t, ∀ j ∈ B t, j < N from ⟨fun t => by rw [hB]; simp, fun t j hj => by rw [hB] at hj; exact bitsK_lt (by have := HNM.out.1.1; omega) hj⟩)
  have HOK := Lib.hid (show ∀ t j, j ∈ B t → j / 8 < z.length from fun t j hj => by
    have := HBL.out.2 t j hj
    have := HZM.out
    omega)
  have INV2 := Lib.hid (show Fm w1 g N M A1 m (orAll z (LF B 0)) ∧ Keeps [] w w1 ∧ w1.cell? ⟨bx, 1, none⟩ = some (.int .i64 y) by unfold orAll LF; exact H1.out)
  have HD := Lib.hid (And.intro hx2 d2)
  have HCX := Lib.hid (show ∀ t, t < xs.length → ∃ ga o, A = some ⟨ga, o, none⟩ ∧ ∀ (z : World), Keeps [] w z → z.cell? ⟨ga, o + t, none⟩ = some (.string (strB (key t))) from fun t ht => by
    obtain ⟨ga, o, hA, hga, hel⟩ := Rd.elems HRD.out (fun x _ => rfl) (by decide) (show 0 < xs.length by omega)
    refine ⟨ga, o, hA, fun z hz => ?_⟩
    have h1 := hel t ht 0 (.string xs[t]) rfl
    rw [Nat.mul_one, Nat.add_zero] at h1
    rw [← (HKEY.out t ht).1]
    exact hz.cell h1 (by simp))
  have HOL := Lib.hid (show ∀ l, N ≤ 8 * (orAll z l).length ∧ (orAll z l).length ≤ 1048576 from fun l => by rw [orAll_len]; have := HZM.out; omega)
  clear hkey hB hx1 hx2 d1 d2 dm H1
  go_loopw [8] (fun si wr => ∃ i : Nat, i ≤ n ∧ si = .int .i64 i ∧ Hid (Fm wr g N M A1 m (orAll z (LF B i)) ∧ Keeps [] w wr ∧ wr.cell? ⟨bx, 1, none⟩ = some (.int .i64 y))) (fun si _ => n - (intOf si).toNat)
  case atStart => exact ⟨0, Nat.zero_le _, rfl, INV2.out⟩
  case round =>
    clear INV2
    obtain ⟨i, hi, rfl, hinv⟩ := hrel
    by_cases hlt : i < n
    · have hin : (i : Int) < (n : Int) := by omega
      have hnx : n ≤ xs.length := HN.out.1
      have hn40 : n ≤ 40 := HN.out.2
      have hix : (i : Int) < ((xs.length : Nat) : Int) := by omega
      obtain ⟨ga, o, hA, hcx⟩ := HCX.out i (by omega)
      have HC := Lib.hid hcx
      have HI := Lib.hid (show i < xs.length by omega)
      obtain ⟨fb, hfb⟩ : ∃ fb, fb = fullK (orAll z (LF B i)) := ⟨_, rfl⟩
      obtain ⟨fa, hfa⟩ : ∃ fa, fa = fullK (orAll z (LF B (i + 1))) := ⟨_, rfl⟩
      have HF := Lib.hid (show fb = fullK (orAll z (LF B i)) ∧ fa = fullK (orAll z (LF B (i + 1))) ∧ fb ≤ fa ∧ fa ≤ fb + M ∧ fa ≤ 67108864 from ⟨hfb, hfa, by
        have h1 := fullK_all (B i) (orAll z (LF B i))
        rw [← orAll_append, ← LF_succ, ← hfa, ← hfb, HBL.out.1] at h1
        have h2 := fullK_le (orAll z (LF B (i + 1)))
        have := (HOL.out (LF B (i + 1))).2
        omega⟩)
      have q1 := hcx wr hinv.out.2.1
      subst hA
      clear hcx hfb hfa
      go_wp2_with fail
      refine (full_any g N M A1 m _ wr hinv.out.1 (HOL.out _).2).mono ?_
      rintro e w2 ⟨rfl, rfl⟩
      rw [← HF.out.1]
      go_wp2_with fail
      refine (add_any g N M A1 m _ (key i) wr hinv.out.1 HNM.out.1 HNM.out.2.1 (HKEY.out i HI.out).2 (HOL.out _).1).mono ?_
      rintro e w3 ⟨rfl, hf3, hk3⟩
      rw [HBB.out, ← orAll_append, ← LF_succ] at hf3
      have H3 := Lib.hid (show Fm w3 g N M A1 m (orAll z (LF B (i + 1))) ∧ Keeps [] w w3 ∧ w3.cell? ⟨bx, 1, none⟩ = some (.int .i64 y) from ⟨hf3, hinv.out.2.1.fresh hk3 (fun a ha => (HA1.out a ha).1), hk3.cell hinv.out.2.2 (by
        intro hm
        obtain ⟨a, e1, e2⟩ := mem_blk.1 hm
        exact (HA1.out a e1).2 e2)⟩)
      clear hf3 hk3 q1 hinv
      go_wp2_with fail
      have hq : ∀ z', Keeps [] w3 z' → z'.cell? ⟨bx, 1, none⟩ = some (.int .i64 y) := fun z' hz => hz.cell H3.out.2.2 (by simp)
      have h2 := HF.out.2.2.2.1
      have h3 := HF.out.2.2.1
      have h4 := HF.out.2.2.2.2
      obtain ⟨d, hd⟩ : ∃ d, d = fa - fb := ⟨_, rfl⟩
      have hdd : IntKind.i64.wrap ((fa : Int) - (fb : Int)) = (d : Int) := by rw [IntKind.wrap_i64]; omega
      have hdM : ¬ (M : Int) < (d : Int) := by omega
      have hfl : ¬ (fa : Int) < (fb : Int) := by omega
      have hx3 : IntKind.i64.wrap ((IntKind.u64.wrap y).tmod 16) = (i2 : Int) := by rw [IntWalk.i64_left]; exact HD.out.1
      have hx4 : IntKind.i64.wrap (1 + (i2 : Int)) = (M : Int) := by have := HD.out.2; have := HNM.out.2.1; rw [IntKind.wrap_i64]; omega
      clear h2 h3 h4 hd
      refine seq_start (by kernel_rfl) (fun z' => Keeps [] w3 z') 17 [0, 1, 2, 3, 4, 5, 6, 7, 8, 9, 10, 11, 12, 13, 14, 15, 16] rfl ((Keeps.refl [] w3).drew) (fun hS => ?_)
      have H4 := Lib.hid (show Fm w3.drew g N M A1 m (orAll z (LF B (i + 1))) from H3.out.1)
      refine seq_take (v := ?_) rfl (by kernel_rfl) (by kernel_rfl) (by kernel_rfl) (Or.inl ⟨by rfl, fun w' hSw => ?_⟩) (by assumption) ?_
      rotate_left
      · go_simp
        with_reducible rfl
      simp only [Act.put, List.setIfInBounds_toArray, List.set_cons_zero, List.set_cons_succ]
      iterate 1 (refine seq_later ?_; simp only [List.cons_append, List.nil_append])
      refine seq_take (v := ?_) rfl (by kernel_rfl) (by kernel_rfl) (by kernel_rfl) (Or.inl ⟨by rfl, fun w' hSw => ?_⟩) (by assumption) ?_
      rotate_left
      · go_simp
        with_reducible rfl
      simp only [Act.put, List.setIfInBounds_toArray, List.set_cons_zero, List.set_cons_succ]
      iterate 1 (refine seq_later ?_; simp only [List.cons_append, List.nil_append])
      refine seq_take (v := ?_) rfl (by kernel_rfl) (by kernel_rfl) (by kernel_rfl) (Or.inl ⟨by rfl, fun w' hSw => ?_⟩) (by assumption) ?_
      rotate_left
      · go_simp
        with_reducible rfl
      simp only [Act.put, List.setIfInBounds_toArray, List.set_cons_zero, List.set_cons_succ]
      refine seq_take (v := ?_) rfl (by kernel_rfl) (by kernel_rfl) (by kernel_rfl) (Or.inl ⟨by rfl, fun w' hSw => ?_⟩) (by assumption) ?_
      rotate_left
      · go_simp
        with_reducible rfl
      simp only [Act.put, List.setIfInBounds_toArray, List.set_cons_zero, List.set_cons_succ]
      refine seq_take (v := ?_) rfl (by kernel_rfl) (by kernel_rfl) (by kernel_rfl) (Or.inl ⟨by rfl, fun w' hSw => ?_⟩) (by assumption) ?_
      rotate_left
      · go_simp
        with_reducible rfl
      simp only [Act.put, List.setIfInBounds_toArray, List.set_cons_zero, List.set_cons_succ]
      refine seq_take (v := ?_) rfl (by kernel_rfl) (by kernel_rfl) (by kernel_rfl) (Or.inl ⟨by rfl, fun w' hSw => ?_⟩) (by assumption) ?_
      rotate_left
      · go_simp
        with_reducible rfl
      simp only [Act.put, List.setIfInBounds_toArray, List.set_cons_zero, List.set_cons_succ]
      refine seq_take (v := ?_) rfl (by kernel_rfl) (by kernel_rfl) (by kernel_rfl) (Or.inl ⟨by rfl, fun w' hSw => ?_⟩) (by assumption) ?_
      rotate_left
      · go_simp
        with_reducible rfl
      simp only [Act.put, List.setIfInBounds_toArray, List.set_cons_zero, List.set_cons_succ]
      refine seq_take (v := ?_) rfl (by kernel_rfl) (by kernel_rfl) (by kernel_rfl) (Or.inl ⟨by rfl, fun w' hSw => ?_⟩) (by assumption) ?_
      rotate_left
      · go_simp
        with_reducible rfl
      simp only [Act.put, List.setIfInBounds_toArray, List.set_cons_zero, List.set_cons_succ]
      iterate 7 (refine seq_later ?_; simp only [List.cons_append, List.nil_append])
      refine seq_do rfl (by kernel_rfl) (by rfl) (fun K hK => ?_)
      go_simp
      refine (full_any g N M A1 m _ _ H4.out (HOL.out _).2).mono ?_
      rintro e w4 ⟨rfl, rfl⟩
      rw [← HF.out.2.1]
      refine hK.out (fun z' => Keeps [] w3 z') _ _ (fun _ h => h) (Keeps.refl [] w3).drew (fun hS => ?_)
      refine seq_take (v := ?_) rfl (by kernel_rfl) (by kernel_rfl) (by kernel_rfl) (Or.inl ⟨by rfl, fun w' hSw => ?_⟩) (by assumption) ?_
      rotate_left
      · go_simp
        with_reducible rfl
      simp only [Act.put, List.setIfInBounds_toArray, List.set_cons_zero, List.set_cons_succ]
      refine seq_take (v := ?_) rfl (by kernel_rfl) (by kernel_rfl) (by kernel_rfl) (Or.inl ⟨by rfl, fun w' hSw => ?_⟩) (by assumption) ?_
      rotate_left
      · go_simp
        with_reducible rfl
      simp only [Act.put, List.setIfInBounds_toArray, List.set_cons_zero, List.set_cons_succ]
      refine seq_take (v := ?_) rfl (by kernel_rfl) (by kernel_rfl) (by kernel_rfl) (Or.inl ⟨by rfl, fun w' hSw => ?_⟩) (by assumption) ?_
      rotate_left
      · go_simp
        with_reducible rfl
      simp only [Act.put, List.setIfInBounds_toArray, List.set_cons_zero, List.set_cons_succ]
      refine seq_take (v := ?_) rfl (by kernel_rfl) (by kernel_rfl) (by kernel_rfl) (Or.inl ⟨by rfl, fun w' hSw => ?_⟩) (by assumption) ?_
      rotate_left
      · go_simp
        with_reducible rfl
      simp only [Act.put, List.setIfInBounds_toArray, List.set_cons_zero, List.set_cons_succ]
      iterate 1 (refine seq_later ?_; simp only [List.cons_append, List.nil_append])
      refine seq_take (v := ?_) rfl (by kernel_rfl) (by kernel_rfl) (by kernel_rfl) (Or.inl ⟨by rfl, fun w' hSw => ?_⟩) (by assumption) ?_
      rotate_left
      · go_simp
        with_reducible rfl
      simp only [Act.put, List.setIfInBounds_toArray, List.set_cons_zero, List.set_cons_succ]
      iterate 2 (refine seq_later ?_; simp only [List.cons_append, List.nil_append])
      refine seq_do rfl (by kernel_rfl) (by rfl) (fun K hK => ?_)
      go_simp
      refine (full_any g N M A1 m _ _ H4.out (HOL.out _).2).mono ?_
      rintro e w4 ⟨rfl, rfl⟩
      rw [← HF.out.2.1]
      refine hK.out (fun z' => Keeps [] w3 z') _ _ (fun _ h => h) (Keeps.refl [] w3).drew (fun hS => ?_)
      refine seq_take (v := ?_) rfl (by kernel_rfl) (by kernel_rfl) (by kernel_rfl) (Or.inl ⟨by rfl, fun w' hSw => ?_⟩) (by assumption) ?_
      rotate_left
      · go_simp
        with_reducible rfl
      simp only [Act.put, List.setIfInBounds_toArray, List.set_cons_zero, List.set_cons_succ]
      refine seq_take (v := ?_) rfl (by kernel_rfl) (by kernel_rfl) (by kernel_rfl) (Or.inl ⟨by rfl, fun w' hSw => ?_⟩) (by assumption) ?_
      rotate_left
      · go_simp
        with_reducible rfl
      simp only [Act.put, List.setIfInBounds_toArray, List.set_cons_zero, List.set_cons_succ]
      refine seq_done (by kernel_rfl) ?_
      all_goals skip
      clear hS hq
      have H5 := Lib.hid (show Fm w3.drew g N M A1 m (orAll z (LF B (i + 1))) ∧ Keeps [] w w3.drew ∧ w3.drew.cell? ⟨bx, 1, none⟩ = some (.int .i64 y) from ⟨H4.out, H3.out.2.1.drew, H3.out.2.2⟩)
      clear H3 H4
      go_wp2_with fail
      go_roundw
      case rel => exact ⟨i + 1, by omega, by go_num, H5.out⟩
      case measure => simp [intOf]; omega
    · have hin : ¬ (i : Int) < (n : Int) := by omega
      obtain ⟨bs, hbs⟩ : ∃ bs, bs = orAll z (LF B n) := ⟨_, rfl⟩
      have HF := Lib.hid (show Fm wr g N M A1 m bs ∧ Keeps [] w wr by
        have h1 := hinv.out
        rw [show i = n by omega, ← hbs] at h1
        exact ⟨h1.1, h1.2.1⟩)
      have HBN := Lib.hid (show N ≤ 8 * bs.length ∧ bs.length ≤ 1048576 by rw [hbs]; exact HOL.out _)
      have HMY := Lib.hid (show ∀ t, t < n → mayK bs (bitsK N M (key t)) = true from fun t ht => by rw [hbs, HBB.out]; exact may_there z B n t ht HOK.out)
      have HDE := Lib.hid (show decOk (encK N M bs) ∧ nK (encK N M bs) = N ∧ kK (encK N M bs) = M ∧ xK (encK N M bs) = bs from by
        have hsp := spare_all N m (LF B n) HMN.out HNM.out.1.1 (fun j hj => by
          unfold LF at hj
          rw [List.mem_flatMap] at hj
          obtain ⟨t, _, ht⟩ := hj
          exact HBL.out.2 t j ht)
        rw [← HZZ.out, ← hbs] at hsp
        exact dec_enc N M bs HNM.out.1 HNM.out.2.1 (by rw [hbs, orAll_len, HZM.out.1]; exact HMN.out) hsp)
      have HEL := Lib.hid (show (encK N M bs).length ≤ 140737488351232 from by
        unfold encK lenB; have h1 := length_uintB_le N; have h2 := length_uintB_le M; have h3 := length_uintB_le bs.length; have := HBN.out.2
        rw [List.length_append, List.length_append, List.length_append]; omega)
      clear hbs hlt hinv HZM HZZ HMN HOK HBL HOL HBB HD
      go_wp2_with fail
      refine (enc_any g N M A1 m bs wr HF.out.1 HNM.out.1.2 HNM.out.2.1.2 HBN.out.2).mono ?_
      rintro e w6 ⟨A6, c6, l6, hl6, rfl, ho6, hn6, hk6⟩
      have HL6 := Lib.hid hl6.out
      have H6 := Lib.hid (show Fm w6 g N M A1 m bs ∧ Keeps [] w w6 from ⟨HF.out.1.keeps0 hk6, HF.out.2.trans hk6 (by simp)⟩)
      have HO6 := Lib.hid ho6
      clear hl6 ho6 hn6 hk6 HF
      go_wp2_with fail
      refine (dec_any A6 l6 c6 w6 (by rw [HL6.out]; exact HEL.out) HO6.out.cap HO6.out.rd (fun a ha _ => HO6.out.lt a ha)).mono ?_
      rintro e w7 hp
      rw [HL6.out] at hp
      rcases hp with ⟨_, h, A2, c2, rfl, hf7, hg7, hA7, hk7⟩ | ⟨hno, _, _⟩
      rotate_left
      · exact absurd HDE.out.1 hno
      rw [HDE.out.2.1, HDE.out.2.2.1, HDE.out.2.2.2] at hf7
      have H7 := Lib.hid (show Fm w7 g N M A1 m bs ∧ Fm w7 h N M A2 c2 bs ∧ Keeps [] w w7 from ⟨H6.out.1.keeps0 hk7, hf7, H6.out.2.trans hk7 (by simp)⟩)
      clear hf7 hg7 hA7 hk7 H6 HO6 HDE HL6
      go_wp2_with fail
      refine (full_any h N M A2 c2 bs w7 H7.out.2.1 HBN.out.2).mono ?_
      rintro e w8 ⟨rfl, rfl⟩
      go_wp2_with fail
      refine (full_any g N M A1 m bs w7 H7.out.1 HBN.out.2).mono ?_
      rintro e w8 ⟨rfl, rfl⟩
      go_wp2_with fail
      go_loopw [12] (fun si wr => ∃ i : Nat, i ≤ n ∧ si = .int .i64 i ∧ Hid (Fm wr g N M A1 m bs ∧ Fm wr h N M A2 c2 bs ∧ Keeps [] w wr)) (fun si _ => n - (intOf si).toNat)
      case atStart => exact ⟨0, Nat.zero_le _, rfl, H7.out⟩
      case round =>
        clear H7
        obtain ⟨i, hi, rfl, hinv⟩ := hrel
        by_cases hlt : i < n
        · have hin : (i : Int) < (n : Int) := by omega
          have hnx : n ≤ xs.length := HN.out.1
          have hn40 : n ≤ 40 := HN.out.2
          have hix : (i : Int) < ((xs.length : Nat) : Int) := by omega
          obtain ⟨ga, o, hA, hcx⟩ := HCX.out i (by omega)
          have HC := Lib.hid hcx
          have HI := Lib.hid (show i < xs.length ∧ i < n by omega)
          have q1 := hcx _ hinv.out.2.2
          subst hA
          clear hcx
          go_wp2_with fail
          refine (may_any g N M A1 m bs (key i) _ hinv.out.1 HNM.out.1 HNM.out.2.1 (HKEY.out i HI.out.1).2 HBN.out.1).mono ?_
          rintro e w9 ⟨rfl, hk9⟩
          rw [HMY.out i HI.out.2]
          have H9 := Lib.hid (show Fm w9 g N M A1 m bs ∧ Fm w9 h N M A2 c2 bs ∧ Keeps [] w w9 from ⟨hinv.out.1.keeps0 hk9, hinv.out.2.1.keeps0 hk9, hinv.out.2.2.trans hk9 (by simp)⟩)
          clear hk9 q1 hinv
          have q2 := HC.out _ H9.out.2.2
          go_wp2_with fail
          refine (may_any h N M A2 c2 bs (key i) w9 H9.out.2.1 HNM.out.1 HNM.out.2.1 (HKEY.out i HI.out.1).2 HBN.out.1).mono ?_
          rintro e w10 ⟨rfl, hk10⟩
          rw [HMY.out i HI.out.2]
          have H10 := Lib.hid (show Fm w10 g N M A1 m bs ∧ Fm w10 h N M A2 c2 bs ∧ Keeps [] w w10 from ⟨H9.out.1.keeps0 hk10, H9.out.2.1.keeps0 hk10, H9.out.2.2.trans hk10 (by simp)⟩)
          clear hk10 q2 H9
          go_wp2_with fail
          go_roundw
          case rel => exact ⟨i + 1, by omega, by go_num, H10.out⟩
          case measure => simp [intOf]; omega
        · have hin : ¬ (i : Int) < (n : Int) := by omega
          go_wp2_with fail
          refine (bsure_any _).mono ?_
          rintro e w11 ⟨rfl, hk11⟩
          have H11 := Lib.hid (hinv.out.2.2.trans hk11 (by simp))
          clear hk11
          go_wp2_with fail
          go_ret
          exact ⟨rfl, H11.out.below (Nat.le_refl _) (by simp)⟩
theorem there_row (s : Int × Int × Unit) (A : Option Addr) (c : Nat) (xs : List ByteArray) (w : World) (hok : (K.slice 16 K.str).ok w ((A, c), xs)) :
    Calls Try.prog 4 #[.agg ((K.pair (K.int .i64) (K.pair (K.int .i64) K.nil)).cells s).toArray, .slice A xs.length c] w fun e w' => e = .returned (.bool true) ∧ Below w.heap.size w w' :=
  there_any s.1 s.2.1 A c xs w hok
end Go.Proofs.Ythppbefemfkccaa
