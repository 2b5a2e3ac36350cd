/- Whether a key may be there, how many bits are set, a filter as bytes: contracts. -/
import Derived.Test.YthppbefemfkccaaBloomAdd
namespace Go.Proofs.Ythppbefemfkccaa
open Go.RowKit
attribute [local irreducible] bitsK orAll

theorem popAux_le : ∀ (f x : Nat), Lib.popAux f x ≤ f
  | 0, _ => Nat.le_refl _
  | f + 1, x => by
    have := popAux_le f (x / 2)
    unfold Lib.popAux
    omega
theorem onesCount_le (x : Nat) : Lib.onesCount x ≤ 64 := popAux_le 64 x
theorem fullK_snoc (bs : List UInt8) (i : Nat) (h : i < bs.length) : fullK (bs.take (i + 1)) = fullK (bs.take i) + Lib.onesCount bs[i].toNat := by
  unfold fullK
  rw [List.take_succ_eq_append_getElem h, List.map_append, List.sum_append]
  simp only [List.map_cons, List.map_nil, List.sum_cons, List.sum_nil, Nat.add_zero]
theorem fullK_le (bs : List UInt8) : fullK bs ≤ 64 * bs.length := by
  unfold fullK
  induction bs with
  | nil => simp
  | cons b l ih => have := onesCount_le b.toNat; simp only [List.map_cons, List.sum_cons, List.length_cons]; omega
theorem u8_and_one (v : Nat) (hv : v < 256) : bits .and .u8 (v : Int) 1 = ((v % 2 : Nat) : Int) := by
  show IntKind.u8.wrap ((BitVec.ofInt 8 (v : Int) &&& BitVec.ofInt 8 ((1 : Nat) : Int)).toNat : Int) = _
  have e : ∀ a : Nat, a < 256 → (BitVec.ofInt 8 (a : Int)).toNat = a := fun a ha => by
    rw [BitVec.ofInt_natCast, BitVec.toNat_ofNat]; exact Nat.mod_eq_of_lt (by omega)
  rw [BitVec.toNat_and, e _ hv, e 1 (by decide), IntKind.wrap_u8, Nat.and_one_is_mod]
  omega

set_option maxHeartbeats 8000000 in
theorem may_any (g n k : Nat) (A : Option Addr) (c : Nat) (bs : List UInt8) (s : List UInt8) (w : World) (h : Fm w g n k A c bs) (hn : 1 ≤ n ∧ n ≤ 1048576) (hk : 1 ≤ k ∧ k ≤ 16) (hs : s.length ≤ 140737488351232) (hb : n ≤ 8 * bs.length) :
    Calls Try.prog 11 #[.pointer (some ⟨g, 0, none⟩), .string (strB s)] w fun e w' => e = .returned (.bool (mayK bs (bitsK n k s))) ∧ Keeps [] w w' := by
  have H := Lib.hid h
  have HN := Lib.hid (show ∀ j ∈ bitsK n k s, j < n from fun j hj => bitsK_lt (by omega) hj)
  have HBL := Lib.hid hb
  have HLK := Lib.hid (bitsK_len n k s)
  have HBITS := Lib.hid (bits_any g n k A c bs s w h hn hk hs)
  obtain ⟨L, hL⟩ : ∃ L, L = bitsK n k s := ⟨_, rfl⟩
  unfold BitsP at HBITS
  rw [← hL] at HN HLK HBITS ⊢
  obtain ⟨hn1, hn2⟩ := hn
  obtain ⟨hk1, hk2⟩ := hk
  clear h hs hb hL
  go_enter Try.func11, Try.ntmps11
  go_wp2_with fail
  refine HBITS.out.mono ?_
  rintro e w1 ⟨gl, rfl, hib, hgl, hk1'⟩
  have INV := Lib.hid (show Fm w1 g n k A c bs ∧ IB w1 gl (encI L) ∧ Keeps [] w w1 from ⟨H.out.keeps0 hk1', hib, hk1'⟩)
  clear hib hgl hk1' HBITS
  have INV0 := Lib.hid (show mayK bs (L.take 0) = true from rfl)
  go_wp2_with fail
  go_loopw [11] (fun si wr => ∃ i : Nat, i ≤ k ∧ si = .int .i64 i ∧ Hid (mayK bs (L.take i) = true) ∧ Hid (Fm wr g n k A c bs ∧ IB wr gl (encI L) ∧ Keeps [] w wr)) (fun si _ => k - (intOf si).toNat)
  case atStart => exact ⟨0, Nat.zero_le _, rfl, INV0.out, INV.out⟩
  case round =>
    clear INV INV0
    obtain ⟨i, hi, rfl, hmay, hinv⟩ := hrel
    by_cases hlt : i < k
    · have hik : (i : Int) < (k : Int) := by omega
      have HIL := Lib.hid (show i < L.length by rw [HLK.out]; exact hlt)
      obtain ⟨j, hj⟩ : ∃ j, j = L[i]'(HIL.out) := ⟨_, rfl⟩
      have hjn : j < n := by rw [hj]; exact HN.out _ (List.getElem_mem _)
      obtain ⟨q, hq⟩ : ∃ q, q = j / 8 := ⟨_, rfl⟩
      obtain ⟨r, hr⟩ : ∃ r, r = j % 8 := ⟨_, rfl⟩
      have hqb : q < bs.length := by have := HBL.out; omega
      obtain ⟨ga, rfl, hcell, hfr⟩ := hinv.out.1.2.1.at0 (by omega)
      obtain ⟨x, hx⟩ : ∃ x, x = bs[q] := ⟨_, rfl⟩
      have qx := hcell q hqb
      rw [← hx] at qx
      have q1 := hinv.out.2.1.cell i (by simpa using HIL.out)
      rw [encI_get L i HIL.out, ← hj] at q1
      have q2 := hinv.out.1.cells.2.2
      obtain ⟨v, hv⟩ : ∃ v, v = x.toNat / 2 ^ r := ⟨_, rfl⟩
      obtain ⟨t, ht⟩ : ∃ t, t = v % 2 := ⟨_, rfl⟩
      have hvl : v < 256 := by rw [hv]; exact Nat.lt_of_le_of_lt (Nat.div_le_self _ _) (by have := x.toNat_lt; omega)
      have HBT := Lib.hid (show hasBit bs j = decide (t = 1) by
        unfold hasBit
        rw [← hq, ← hr, List.getD_eq_getElem?_getD, List.getElem?_eq_getElem hqb, Option.getD_some, ← hx, Nat.testBit_eq_decide_div_mod_eq, ← hv, ← ht])
      have HSN := Lib.hid (show mayK bs (L.take (i + 1)) = (mayK bs (L.take i) && hasBit bs j) by
        unfold mayK
        rw [List.take_succ_eq_append_getElem HIL.out, List.all_append, ← hj]
        simp)
      have HSF := Lib.hid (show hasBit bs j = false → mayK bs L = false from fun hf => by
        unfold mayK
        rw [List.all_eq_false]
        exact ⟨j, by rw [hj]; exact List.getElem_mem _, by simp [hf]⟩)
      have f1 : (j : Int).tdiv 8 = (q : Int) := by rw [Int.tdiv_eq_ediv_of_nonneg (by omega)]; omega
      have f2 : (j : Int).tmod 8 = (r : Int) := by rw [Int.tmod_eq_emod_of_nonneg (by omega)]; omega
      have f3 : IntKind.i64.wrap (q : Int) = (q : Int) := by rw [IntKind.wrap_i64]; omega
      have f4 : (x.toNat : Int) / 2 ^ r = (v : Int) := by rw [hv]; simp
      have f5 := u8_and_one v hvl
      rw [← ht] at f5
      have hr8 : (r : Int) < 8 := by omega
      have hqB : (q : Int) < ((bs.length : Nat) : Int) := by omega
      have ht2 : t < 2 := by omega
      have hmay' := hmay
      clear hj hjn hq hr hcell hfr hx hqb hv ht hvl
      by_cases h0 : t = 0
      · have e1 : ((t : Int) == 0) = true := by simp [h0]
        have HR := Lib.hid (show mayK bs L = false from HSF.out (by rw [HBT.out, h0]; rfl))
        clear h0 ht2
        go_wp2_with fail
        go_ret
        exact ⟨by rw [HR.out]; rfl, hinv.out.2.2⟩
      · have e1 : ((t : Int) == 0) = false := by simp [h0]
        have HR := Lib.hid (show mayK bs (L.take (i + 1)) = true by rw [HSN.out, hmay.out, HBT.out, show t = 1 by omega]; rfl)
        clear h0 ht2
        go_wp2_with fail
        go_roundw
        case rel => exact ⟨i + 1, by omega, by go_num, HR.out, hinv.out⟩
        case measure => simp [intOf]; omega
    · have hik : ¬ (i : Int) < (k : Int) := by omega
      have HKI := Lib.hid (show mayK bs L = true by have h2 := hmay.out; rwa [List.take_of_length_le (by rw [HLK.out]; omega)] at h2)
      clear hlt
      go_wp2_with fail
      go_ret
      exact ⟨by rw [HKI.out]; rfl, hinv.out.2.2⟩

set_option maxHeartbeats 4000000 in
theorem full_any (g n k : Nat) (A : Option Addr) (c : Nat) (bs : List UInt8) (w : World) (h : Fm w g n k A c bs) (hb : bs.length ≤ 1048576) :
    Calls Try.prog 9 #[.pointer (some ⟨g, 0, none⟩)] w fun e w' => e = .returned (.int .i64 (fullK bs : Nat)) ∧ w = w' := by
  have H := Lib.hid h
  have q2 := h.cells.2.2
  have HR := Lib.hid h.2.1.rd
  clear h
  go_enter Try.func9, Try.ntmps9
  go_wp2_with fail
  go_loop [3, 13] (fun sn si => ∃ i m : Nat, i ≤ bs.length ∧ si = .int .i64 i ∧ sn = .int .i64 m ∧ Hid (m = fullK (bs.take i))) (fun _ si => bs.length - (intOf si).toNat)
  case atStart => exact ⟨0, 0, Nat.zero_le _, rfl, rfl, rfl⟩
  case round =>
    obtain ⟨i, m, hi, rfl, rfl, hm⟩ := hrel
    by_cases hlt : i < bs.length
    · have hik : (i : Int) < ((bs.length : Nat) : Int) := by omega
      obtain ⟨ad, rfl, hc⟩ := HR.out.at_ hlt
      obtain ⟨b, hbb⟩ : ∃ b, b = bs[i] := ⟨_, rfl⟩
      rw [← hbb] at hc
      have hml : m ≤ 67108864 := by
        rw [hm.out]
        have h1 := fullK_le (bs.take i)
        rw [List.length_take] at h1
        omega
      obtain ⟨o, ho⟩ : ∃ o, o = Lib.onesCount b.toNat := ⟨_, rfl⟩
      have hol : o ≤ 64 := by rw [ho]; exact onesCount_le _
      have HSN := Lib.hid (show m + o = fullK (bs.take (i + 1)) by rw [fullK_snoc bs i hlt, ← hm.out, ← hbb, ho])
      have HO := Lib.hid ho
      have hb0 : (0 : Int) ≤ (b.toNat : Int) ∧ (b.toNat : Int) ≤ 255 := by have := b.toNat_lt; omega
      have HB0 := Lib.hid hb0
      clear hbb ho hb0
      go_wp2_with fail
      refine (Try.bits_OnesCount8 (b.toNat : Int) w HB0.out.1 HB0.out.2).mono ?_
      rintro e w' ⟨rfl, rfl⟩
      rw [Int.toNat_natCast, ← HO.out]
      go_wp2_with fail
      go_round
      case rel => exact ⟨i + 1, m + o, by omega, by go_num, by go_num, HSN.out⟩
      case measure => simp [intOf]; omega
    · have hik : ¬ (i : Int) < ((bs.length : Nat) : Int) := by omega
      have HM := Lib.hid (show m = fullK bs by rw [hm.out, List.take_of_length_le (by omega)])
      clear hlt
      go_wp2_with fail
      go_ret
      exact ⟨by rw [HM.out]; rfl, rfl⟩
end Go.Proofs.Ythppbefemfkccaa
