/- The law on the order in which keys are added: called with any size and any keys it answers true. -/
import Derived.Test.YthppbefemfkccaaBloomEnc
import Derived.Test.YthppbefemfkccaaKinds
import Derived.Test.YthppbefemfkccaaBulk
namespace Go.Proofs.Ythppbefemfkccaa
open Go.RowKit
attribute [local irreducible] bitsK orAll encK

theorem cutM (x : Int) (M : Nat) (hM : 0 < M) (h2 : M < 1000) : ∃ i : Nat, i < M ∧ wrap64 ((IntKind.u64.wrap x).tmod M) = (i : Int) := by
  have hw : IntKind.u64.wrap x = x % 18446744073709551616 := IntKind.wrap_u64 x
  rw [hw, IntWalk.rem_in _ _ (by omega)]
  have h1 : 0 ≤ x % 18446744073709551616 % (M : Int) := Int.emod_nonneg _ (by omega)
  have h3 : x % 18446744073709551616 % (M : Int) < M := Int.emod_lt_of_pos _ (by omega)
  refine ⟨(x % 18446744073709551616 % (M : Int)).toNat, by omega, ?_⟩
  rw [IntWalk.wrap64_in _ (by omega)]
  omega
theorem strB_data (x : ByteArray) : x = strB x.data.toList := rfl
/-- The bits of the keys from the first one on; and from the last one on, the first one's behind each. -/
def LF (B : Nat → List Nat) (i : Nat) : List Nat := (List.range i).flatMap B
def LG (B : Nat → List Nat) (n i : Nat) : List Nat := (List.range i).flatMap fun t => B (n - 1 - t) ++ B 0
theorem LF_succ (B : Nat → List Nat) (i : Nat) : LF B (i + 1) = LF B i ++ B i := by
  unfold LF; rw [List.range_succ, List.flatMap_append]; simp
theorem LG_succ (B : Nat → List Nat) (n i : Nat) : LG B n (i + 1) = LG B n i ++ B (n - 1 - i) ++ B 0 := by
  unfold LG; rw [List.range_succ, List.flatMap_append]; simp
theorem LFG_same (B : Nat → List Nat) (n x : Nat) : x ∈ LF B n ↔ x ∈ LG B n n := by
  unfold LF LG
  simp only [List.mem_flatMap, List.mem_range, List.mem_append]
  constructor
  · rintro ⟨t, ht, hx⟩
    exact ⟨n - 1 - t, by omega, .inl (by rwa [show n - 1 - (n - 1 - t) = t by omega])⟩
  · rintro ⟨t, ht, hx | hx⟩
    · exact ⟨n - 1 - t, by omega, hx⟩
    · exact ⟨0, by omega, hx⟩
theorem orAll_LF (bs : List UInt8) (B : Nat → List Nat) (n : Nat) (h : ∀ t j, j ∈ B t → j / 8 < bs.length) : orAll bs (LF B n) = orAll bs (LG B n n) := by
  have hm : ∀ j ∈ LF B n, j / 8 < bs.length := by
    intro j hj
    unfold LF at hj
    rw [List.mem_flatMap] at hj
    obtain ⟨t, _, ht⟩ := hj
    exact h t j ht
  exact orAll_same hm (fun j hj => hm j ((LFG_same B n j).2 hj)) (LFG_same B n)
/-- Two filters that lie apart. -/
def Fm2 (w0 w : World) (g h n k : Nat) (A A' : Option Addr) (c : Nat) (a b : List UInt8) : Prop := Fm w g n k A c a ∧ Fm w h n k A' c b ∧ Keeps [] w0 w
structure Apart (w0 : World) (g h : Nat) (A A' : Option Addr) : Prop where
  a0 : ∀ a, A = some a → w0.heap.size ≤ a.block
  b0 : ∀ b, A' = some b → w0.heap.size ≤ b.block
  ah : ∀ a, A = some a → a.block ≠ h
  bg : ∀ b, A' = some b → b.block ≠ g
  ab : ∀ a b, A = some a → A' = some b → a.block ≠ b.block
theorem Fm2.left {w0 w w' : World} {g h n k : Nat} {A A' : Option Addr} {c : Nat} {a b a' : List UInt8} (f : Fm2 w0 w g h n k A A' c a b) (p : Apart w0 g h A A') (hf : Fm w' g n k A c a') (hk : Keeps (blk A) w w') : Fm2 w0 w' g h n k A A' c a' b :=
  ⟨hf, f.2.1.keeps hk (fun hm => by obtain ⟨x, e1, e2⟩ := mem_blk.1 hm; exact p.ah x e1 e2) (fun y hy hm => by obtain ⟨x, e1, e2⟩ := mem_blk.1 hm; exact p.ab x y e1 hy e2), f.2.2.fresh hk p.a0⟩
theorem Fm2.right {w0 w w' : World} {g h n k : Nat} {A A' : Option Addr} {c : Nat} {a b b' : List UInt8} (f : Fm2 w0 w g h n k A A' c a b) (p : Apart w0 g h A A') (hf : Fm w' h n k A' c b') (hk : Keeps (blk A') w w') : Fm2 w0 w' g h n k A A' c a b' :=
  ⟨f.1.keeps hk (fun hm => by obtain ⟨x, e1, e2⟩ := mem_blk.1 hm; exact p.bg x e1 e2) (fun y hy hm => by obtain ⟨x, e1, e2⟩ := mem_blk.1 hm; exact p.ab y x hy e1 e2.symm), hf, f.2.2.fresh hk p.b0⟩

set_option maxRecDepth 100000 in
set_option maxHeartbeats 8000000 in
theorem order_any (x y : Int) (A : Option Addr) (c : Nat) (xs : List ByteArray) (w : World) (hok : (K.slice 16 K.str).ok w ((A, c), xs)) :
    Calls Try.prog 3 #[.agg #[.int .i64 x, .int .i64 y], .slice A xs.length c] w fun e w' => e = .returned (.bool true) ∧ Below w.heap.size w w' := by
  have HRD := Lib.hid (show Rd w A xs.length 1 (xs.flatMap K.str.cells) from hok.2.2.1)
  have HSZ := Lib.hid (show ∀ s ∈ xs, s.size ≤ 140737488351232 from fun s hs => hok.2.2.2 s hs)
  have HLN := Lib.hid (show xs.length ≤ 140737488351232 by have h1 : xs.length * 16 ≤ 140737488351232 := hok.2.1; omega)
  clear hok
  obtain ⟨i1, hi1, hx1⟩ := cutM x 300 (by decide) (by decide)
  obtain ⟨i2, hi2, hx2⟩ := cutM y 16 (by decide) (by decide)
  rw [show ((300 : Nat) : Int) = 300 from rfl] at hx1
  rw [show ((16 : Nat) : Int) = 16 from rfl] at hx2
  obtain ⟨N, hN⟩ : ∃ N, N = 1 + i1 := ⟨_, rfl⟩
  obtain ⟨M, hM⟩ : ∃ M, M = 1 + i2 := ⟨_, rfl⟩
  have d1 : (1 : Int) + (i1 : Int) = (N : Int) := by omega
  have d2 : (1 : Int) + (i2 : Int) = (M : Int) := by omega
  have HNM := Lib.hid (show (1 ≤ N ∧ N ≤ 1048576) ∧ (1 ≤ M ∧ M ≤ 16) ∧ N ≤ 300 from ⟨by omega, by omega, by omega⟩)
  clear hN hM
  go_enter Try.func3, Try.ntmps3
  go_wp2_with fail
  refine (bnew_any N M _ HNM.out.1 HNM.out.2.1).mono ?_
  rintro e w1 ⟨g, A1, rfl, hf1, hg1, hA1, hk1⟩
  obtain ⟨m, hm⟩ : ∃ m, m = (N + 7) / 8 := ⟨_, rfl⟩
  rw [← hm] at hf1
  obtain ⟨z, hz⟩ : ∃ z : List UInt8, z = List.replicate m 0 := ⟨_, rfl⟩
  rw [← hz] at hf1
  have c0 : w1.cell? ⟨w.heap.size, 0, none⟩ = some (.int .i64 x) := hk1.cell (by simp) (by simp)
  have c1 : w1.cell? ⟨w.heap.size, 1, none⟩ = some (.int .i64 y) := hk1.cell (by simp) (by simp)
  have H1 := Lib.hid (show Fm w1 g N M A1 m z ∧ Keeps [] w w1 ∧ w.heap.size ≤ g ∧ ∀ a, A1 = some a → w.heap.size ≤ a.block from ⟨hf1, ((Keeps.refl [] w).alloc _).trans hk1 (by simp), by simp at hg1; omega, fun a ha => by have := hA1 a ha; simp at this; omega⟩)
  have HZM := Lib.hid (show z.length = m ∧ N ≤ 8 * m ∧ m ≤ 100 from ⟨by rw [hz]; simp, by omega, by have := HNM.out.2.2; omega⟩)
  have HMN := Lib.hid hm
  have HZZ := Lib.hid hz
  clear hf1 hg1 hA1 hk1 hm hz
  go_wp2_with fail
  refine (bnew_any N M _ HNM.out.1 HNM.out.2.1).mono ?_
  rintro e w2 ⟨h, A2, rfl, hf2, hg2, hA2, hk2⟩
  rw [← HMN.out, ← HZZ.out] at hf2
  have HAP := Lib.hid (show Apart w g h A1 A2 from ⟨H1.out.2.2.2, fun b hb => by have := hA2 b hb; have := H1.out.2.1.size; omega, fun a ha => by have := H1.out.1.2.1.lt a ha; omega, fun b hb => by have := hA2 b hb; have := H1.out.1.lt; omega, fun a b ha hb => by have := hA2 b hb; have := H1.out.1.2.1.lt a ha; omega⟩)
  have INV := Lib.hid (show Fm2 w w2 g h N M A1 A2 m z z from ⟨H1.out.1.keeps0 hk2, hf2, H1.out.2.1.trans hk2 (by simp)⟩)
  clear hf2 hg2 hA2 hk2 H1 c0 c1
  obtain ⟨n, hn⟩ : ∃ n, n = min xs.length 30 := ⟨_, rfl⟩
  have HN := Lib.hid (show n ≤ xs.length ∧ n ≤ 30 from ⟨by omega, by omega⟩)
  have dm : min ((xs.length : Nat) : Int) 30 = (n : Int) := by omega
  clear hn
  go_wp2_with fail
  obtain ⟨key, hkey⟩ : ∃ key : Nat → List UInt8, key = fun t => (xs.getD t ByteArray.empty).data.toList := ⟨_, rfl⟩
  have HKEY := Lib.hid (show ∀ t (ht : t < xs.length), xs[t] = strB (key t) ∧ (key t).length ≤ 140737488351232 from fun t ht => by
    have e : xs.getD t ByteArray.empty = xs[t] := by rw [List.getD_eq_getElem?_getD, List.getElem?_eq_getElem ht]; rfl
    rw [hkey]
    simp only [e]
    exact ⟨rfl, by have := HSZ.out _ (List.getElem_mem ht); exact this⟩)
  obtain ⟨B, hB⟩ : ∃ B : Nat → List Nat, B = fun t => bitsK N M (key t) := ⟨_, rfl⟩
  have HBB := Lib.hid (show ∀ t, bitsK N M (key t) = B t from fun t => by rw [hB])
  have HOK := Lib.hid (show ∀ t j, j ∈ B t → j / 8 < z.length from fun t j hj => by
    rw [hB] at hj
    have := bitsK_lt (by have := HNM.out.1.1; omega) hj
    have := HZM.out
    omega)
  have INV2 := Lib.hid (show Fm2 w w2 g h N M A1 A2 m (orAll z (LF B 0)) (orAll z (LG B n 0)) by unfold orAll LF LG; exact INV.out)
  have HD := Lib.hid (And.intro hx1 (And.intro hx2 (And.intro d1 (And.intro d2 dm))))
  clear hkey hB INV hx1 hx2 d1 d2 dm
  go_loopw [10] (fun si wr => ∃ i : Nat, i ≤ n ∧ si = .int .i64 i ∧ Hid (Fm2 w wr g h N M A1 A2 m (orAll z (LF B i)) (orAll z (LG B n i)))) (fun si _ => n - (intOf si).toNat)
  case atStart => exact ⟨0, Nat.zero_le _, rfl, INV2.out⟩
  case round =>
    clear INV2
    obtain ⟨i, hi, rfl, hinv⟩ := hrel
    by_cases hlt : i < n
    · have hin : (i : Int) < (n : Int) := by omega
      obtain ⟨j, hj⟩ : ∃ j, j = n - 1 - i := ⟨_, rfl⟩
      have dj : (n : Int) - 1 - (i : Int) = (j : Int) := by omega
      have hnx : n ≤ xs.length := HN.out.1
      have hn30 : n ≤ 30 := HN.out.2
      have hix : (i : Int) < ((xs.length : Nat) : Int) := by omega
      have hjx : (j : Int) < ((xs.length : Nat) : Int) := by omega
      have h0x : (0 : Int) < ((xs.length : Nat) : Int) := by omega
      have h0n : 0 < xs.length := by omega
      obtain ⟨ga, o, hA, hga, hel⟩ := Rd.elems HRD.out (fun x _ => rfl) (by decide) (show 0 < xs.length by omega)
      have HC := Lib.hid (show ∀ (z : World), Keeps [] w z → ∀ t, t < xs.length → z.cell? ⟨ga, o + t, none⟩ = some (.string (strB (key t))) from fun z hz t ht => by
        have h1 := hel t ht 0 (.string xs[t]) rfl
        rw [Nat.mul_one, Nat.add_zero] at h1
        rw [← (HKEY.out t ht).1]
        exact hz.cell h1 (by simp))
      have HLEN := Lib.hid (show ∀ t, t < xs.length → (key t).length ≤ 140737488351232 from fun t ht => (HKEY.out t ht).2)
      have HOL := Lib.hid (show ∀ l, N ≤ 8 * (orAll z l).length from fun l => by rw [orAll_len]; have := HZM.out; omega)
      have HIJ := Lib.hid (show i < xs.length ∧ j < xs.length ∧ 0 < xs.length ∧ j = n - 1 - i from ⟨by omega, by omega, h0n, hj⟩)
      have q1 := HC.out wr hinv.out.2.2 i HIJ.out.1
      subst hA
      clear hj hel hga
      go_wp2_with fail
      refine (add_any g N M A1 m _ (key i) wr hinv.out.1 HNM.out.1 HNM.out.2.1 (HLEN.out i HIJ.out.1) (HOL.out _)).mono ?_
      rintro e w3 ⟨rfl, hf3, hk3⟩
      rw [HBB.out, ← orAll_append, ← LF_succ] at hf3
      have H3 := Lib.hid (hinv.out.left HAP.out hf3 hk3)
      have q2 := HC.out w3 H3.out.2.2 j HIJ.out.2.1
      clear hf3 hk3 q1 hinv
      go_wp2_with fail
      refine (add_any h N M A2 m _ (key j) w3 H3.out.2.1 HNM.out.1 HNM.out.2.1 (HLEN.out j HIJ.out.2.1) (HOL.out _)).mono ?_
      rintro e w4 ⟨rfl, hf4, hk4⟩
      rw [HBB.out, ← orAll_append] at hf4
      have H4 := Lib.hid (H3.out.right HAP.out hf4 hk4)
      have q3 := HC.out w4 H4.out.2.2 0 HIJ.out.2.2.1
      rw [Nat.add_zero] at q3
      clear hf4 hk4 q2 H3
      go_wp2_with fail
      refine (add_any h N M A2 m _ (key 0) w4 H4.out.2.1 HNM.out.1 HNM.out.2.1 (HLEN.out 0 HIJ.out.2.2.1) (HOL.out _)).mono ?_
      rintro e w5 ⟨rfl, hf5, hk5⟩
      rw [HBB.out, ← orAll_append, HIJ.out.2.2.2, ← LG_succ] at hf5
      have H5 := Lib.hid (H4.out.right HAP.out hf5 hk5)
      clear hf5 hk5 q3 H4
      go_wp2_with fail
      go_roundw
      case rel => exact ⟨i + 1, by omega, by go_num, H5.out⟩
      case measure => simp [intOf]; omega
    · have hin : ¬ (i : Int) < (n : Int) := by omega
      have HE := Lib.hid (show orAll z (LF B n) = orAll z (LG B n n) from orAll_LF z B n HOK.out)
      have HF := Lib.hid (show Fm2 w wr g h N M A1 A2 m (orAll z (LF B n)) (orAll z (LF B n)) by
        have h1 := hinv.out
        rw [show i = n by omega, ← HE.out] at h1
        exact h1)
      have HZL := Lib.hid (show (orAll z (LF B n)).length ≤ 1048576 by rw [orAll_len]; have := HZM.out; omega)
      obtain ⟨bs, hbs⟩ : ∃ bs, bs = orAll z (LF B n) := ⟨_, rfl⟩
      rw [← hbs] at HF HZL
      clear hbs hlt hinv HE
      go_wp2_with fail
      refine seq_start (by kernel_rfl) (fun _ => True) 11 [0, 1, 2, 3, 4, 5, 6, 7, 8, 9, 10] rfl (trivial) (fun hS => ?_)
      have HG := Lib.hid (show Fm2 w wr.drew g h N M A1 A2 m bs bs from ⟨HF.out.1, HF.out.2.1, HF.out.2.2.drew⟩)
      clear HF
      generalize wr.drew = V at HG hS ⊢
      refine seq_take (v := ?_) rfl (by kernel_rfl) (by kernel_rfl) (by kernel_rfl) (Or.inl ⟨by rfl, fun w' hSw => ?_⟩) (by assumption) ?_
      rotate_left
      · go_simp
        with_reducible rfl
      simp only [Act.put, List.setIfInBounds_toArray, List.set_cons_zero, List.set_cons_succ]
      iterate 2 (refine seq_later ?_; simp only [List.cons_append, List.nil_append])
      refine seq_take (v := ?_) rfl (by kernel_rfl) (by kernel_rfl) (by kernel_rfl) (Or.inl ⟨by rfl, fun w' hSw => ?_⟩) (by assumption) ?_
      rotate_left
      · go_simp
        with_reducible rfl
      simp only [Act.put, List.setIfInBounds_toArray, List.set_cons_zero, List.set_cons_succ]
      iterate 7 (refine seq_later ?_; simp only [List.cons_append, List.nil_append])
      refine seq_do rfl (by kernel_rfl) (by rfl) (fun K hK => ?_)
      go_simp
      refine (enc_any g N M A1 m bs V HG.out.1 HNM.out.1.2 HNM.out.2.1.2 HZL.out).mono ?_
      rintro e w6 ⟨A6, c6, l6, hl6, rfl, ho6, hn6, hk6⟩
      have HL6 := Lib.hid hl6.out
      have H6 := Lib.hid (show Fm w6 h N M A2 m bs ∧ Keeps [] w w6 from ⟨HG.out.2.1.keeps0 hk6, HG.out.2.2.trans hk6 (by simp)⟩)
      have F1 := conv_keeps (P := Try.prog) (dst := 9) Try.underlying32 Try.underlying5 Try.underlying9 ho6.rd c6
      clear hl6 ho6 hn6 hk6
      refine hK.out (fun z' => Keeps [] w6 z') _ _ (fun _ _ => trivial) (Keeps.refl [] w6) (fun hS => ?_)
      refine seq_take (v := ?_) rfl (by kernel_rfl) (by kernel_rfl) (by kernel_rfl) (Or.inl ⟨by rfl, fun w' hSw => ?_⟩) (by assumption) ?_
      rotate_left
      · go_simp
        with_reducible rfl
      simp only [Act.put, List.setIfInBounds_toArray, List.set_cons_zero, List.set_cons_succ]
      refine seq_do rfl (by kernel_rfl) (by rfl) (fun K hK => ?_)
      go_simp
      refine (enc_any h N M A2 m bs w6 H6.out.1 HNM.out.1.2 HNM.out.2.1.2 HZL.out).mono ?_
      rintro e w7 ⟨A7, c7, l7, hl7, rfl, ho7, hn7, hk7⟩
      obtain rfl : l7 = l6 := hl7.out.trans HL6.out.symm
      have HK7 := Lib.hid hk7
      have H7 := Lib.hid (H6.out.2.trans hk7 (by simp))
      have F2 := conv_keeps (P := Try.prog) (dst := 9) Try.underlying32 Try.underlying5 Try.underlying9 ho7.rd c7
      clear hl7 ho7 hn7 hk7 F1
      refine hK.out (fun z' => Keeps [] w7 z') _ _ (fun _ h => HK7.out.trans h (by simp)) (Keeps.refl [] w7) (fun hS => ?_)
      refine seq_take (v := ?_) rfl (by kernel_rfl) (by kernel_rfl) (by kernel_rfl) (Or.inl ⟨by rfl, fun w' hSw => ?_⟩) (by assumption) ?_
      rotate_left
      · go_simp
        with_reducible rfl
      simp only [Act.put, List.setIfInBounds_toArray, List.set_cons_zero, List.set_cons_succ]
      refine seq_take (v := ?_) rfl (by kernel_rfl) (by kernel_rfl) (by kernel_rfl) (Or.inl ⟨by rfl, fun w' hSw => ?_⟩) (by assumption) ?_
      rotate_left
      · go_simp
        with_reducible rfl
      simp only [Act.put, List.setIfInBounds_toArray, List.set_cons_zero, List.set_cons_succ]
      refine seq_take (v := ?_) rfl (by kernel_rfl) (by kernel_rfl) (by kernel_rfl) (Or.inl ⟨by rfl, fun w' hSw => ?_⟩) (by assumption) ?_
      rotate_left
      · go_simp
        with_reducible rfl
      simp only [Act.put, List.setIfInBounds_toArray, List.set_cons_zero, List.set_cons_succ]
      refine seq_do rfl (by kernel_rfl) (by rfl) (fun K hK => ?_)
      go_simp
      refine (bsure_any w7).mono ?_
      rintro e w8 ⟨rfl, hk8⟩
      have H8 := Lib.hid (H7.out.trans hk8 (by simp))
      refine hK.out (fun z' => Keeps [] w7 z') _ _ (fun _ h => h) hk8 (fun hS => ?_)
      refine seq_take (v := ?_) rfl (by kernel_rfl) (by kernel_rfl) (by kernel_rfl) (Or.inl ⟨by rfl, fun w' hSw => ?_⟩) (by assumption) ?_
      rotate_left
      · go_simp
        with_reducible rfl
      simp only [Act.put, List.setIfInBounds_toArray, List.set_cons_zero, List.set_cons_succ]
      refine seq_take (v := ?_) rfl (by kernel_rfl) (by kernel_rfl) (by kernel_rfl) (Or.inl ⟨by rfl, fun w' hSw => ?_⟩) (by assumption) ?_
      rotate_left
      · go_simp
        with_reducible rfl
      simp only [Act.put, List.setIfInBounds_toArray, List.set_cons_zero, List.set_cons_succ]
      refine seq_done (by kernel_rfl) ?_
      all_goals skip
      go_wp2_with fail
      go_ret
      exact ⟨rfl, H8.out.below (Nat.le_refl _) (by simp)⟩
theorem order_row (s : Int × Int × Unit) (A : Option Addr) (c : Nat) (xs : List ByteArray) (w : World) (hok : (K.slice 16 K.str).ok w ((A, c), xs)) :
    Calls Try.prog 3 #[.agg ((K.pair (K.int .i64) (K.pair (K.int .i64) K.nil)).cells s).toArray, .slice A xs.length c] w fun e w' => e = .returned (.bool true) ∧ Below w.heap.size w w' :=
  order_any s.1 s.2.1 A c xs w hok
end Go.Proofs.Ythppbefemfkccaa
