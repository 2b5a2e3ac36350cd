/- A key laid in, asked for, and how many bits are set: contracts. -/
import Derived.Test.YthppbefemfkccaaBloomBits
import Derived.Test.YthppbefemfkccaaRegionZ
namespace Go.Proofs.Ythppbefemfkccaa
open Go.RowKit
attribute [local irreducible] bitsK orAll

theorem u8_or_any (x y : UInt8) : bits .or .u8 (x.toNat : Int) (y.toNat : Int) = ((x ||| y).toNat : Int) := by
  show IntKind.u8.wrap ((BitVec.ofInt 8 (x.toNat : Int) ||| BitVec.ofInt 8 (y.toNat : Int)).toNat : Int) = _
  have e : ∀ a : Nat, a < 256 → (BitVec.ofInt 8 (a : Int)).toNat = a := fun a ha => by
    rw [BitVec.ofInt_natCast, BitVec.toNat_ofNat]; exact Nat.mod_eq_of_lt (by omega)
  have hx := x.toNat_lt
  have hy := y.toNat_lt
  have h2 : x.toNat ||| y.toNat < 2 ^ 8 := Nat.or_lt_two_pow (by omega) (by omega)
  rw [BitVec.toNat_or, e _ (by omega), e _ (by omega), IntKind.wrap_u8, UInt8.toNat_or]
  omega
theorem encI_get (l : List Nat) (i : Nat) (h : i < l.length) : (encI l)[i]'(by simpa using h) = .int .i64 (l[i] : Int) := by simp [encI]
/-- Stored: a bit more. -/
theorem Fm.set {w : World} {g n k ga c : Nat} {bs : List UInt8} (h : Fm w g n k (some ⟨ga, 0, none⟩) c bs) (j : Nat) (b : UInt8) (hj : j < bs.length) : Fm (w.setCell ⟨ga, j, none⟩ (.int .u8 (b.toNat : Int))) g n k (some ⟨ga, 0, none⟩) c (bs.set j b) := by
  have hne : ga ≠ g := h.2.2 _ rfl
  refine ⟨?_, h.2.1.set j b hj, h.2.2⟩
  rw [heap_setCell_other _ _ _ _ (show g ≠ (⟨ga, j, none⟩ : Addr).block from fun e => hne e.symm), List.length_set]
  exact h.1
theorem pow8 (r : Nat) (hr : r < 8) : (2 : Int) ^ r = ((UInt8.ofNat (2 ^ r)).toNat : Int) ∧ (2 : Int) ^ r < 256 ∧ (0 : Int) ≤ 2 ^ r := by
  have : r = 0 ∨ r = 1 ∨ r = 2 ∨ r = 3 ∨ r = 4 ∨ r = 5 ∨ r = 6 ∨ r = 7 := by omega
  rcases this with rfl | rfl | rfl | rfl | rfl | rfl | rfl | rfl <;> exact ⟨rfl, by decide, by decide⟩

/-- A key laid in. -/
def AddP (g n k : Nat) (A : Option Addr) (c : Nat) (bs : List UInt8) (w : World) (e : Ending) (w' : World) : Prop := e = .returned (.tuple #[]) ∧ Fm w' g n k A c bs ∧ Keeps (blk A) w w'
set_option maxHeartbeats 8000000 in
theorem add_any (g n k : Nat) (A : Option Addr) (c : Nat) (bs : List UInt8) (s : List UInt8) (w : World) (h : Fm w g n k A c bs) (hn : 1 ≤ n ∧ n ≤ 1048576) (hk : 1 ≤ k ∧ k ≤ 16) (hs : s.length ≤ 140737488351232) (hb : n ≤ 8 * bs.length) :
    Calls Try.prog 6 #[.pointer (some ⟨g, 0, none⟩), .string (strB s)] w (AddP g n k A c (orAll bs (bitsK n k s)) w) := by
  have H := Lib.hid h
  have HN := Lib.hid (show ∀ j ∈ bitsK n k s, j < n from fun j hj => bitsK_lt (by omega) hj)
  have HBL := Lib.hid hb
  have HLK := Lib.hid (bitsK_len n k s)
  have HBITS := Lib.hid (bits_any g n k A c bs s w h hn hk hs)
  have hA := Lib.hid (fun a ha => (h.2.1.lt a ha : a.block < w.heap.size))
  obtain ⟨L, hL⟩ : ∃ L, L = bitsK n k s := ⟨_, rfl⟩
  unfold BitsP at HBITS
  rw [← hL] at HN HLK HBITS ⊢
  obtain ⟨hn1, hn2⟩ := hn
  obtain ⟨hk1, hk2⟩ := hk
  clear h hs hb hL
  go_enter Try.func6, Try.ntmps6
  go_wp2_with fail
  refine HBITS.out.mono ?_
  rintro e w1 ⟨gl, rfl, hib, hgl, hk1'⟩
  have INV := Lib.hid (show Fm w1 g n k A c (orAll bs (L.take 0)) ∧ IB w1 gl (encI L) ∧ Keeps (blk A) w w1 from ⟨by unfold orAll; exact H.out.keeps0 hk1', hib, hk1'.mono (by simp)⟩)
  have HGL := Lib.hid hgl
  clear hib hgl hk1' HBITS
  go_wp2_with fail
  go_loopw [10] (fun si wr => ∃ i : Nat, i ≤ k ∧ si = .int .i64 i ∧ Hid (Fm wr g n k A c (orAll bs (L.take i)) ∧ IB wr gl (encI L) ∧ Keeps (blk A) w wr)) (fun si _ => k - (intOf si).toNat)
  case atStart => exact ⟨0, Nat.zero_le _, rfl, INV.out⟩
  case round =>
    clear INV
    obtain ⟨i, hi, rfl, hinv⟩ := hrel
    by_cases hlt : i < k
    · have hik : (i : Int) < (k : Int) := by omega
      have HIL := Lib.hid (show i < L.length by rw [HLK.out]; exact hlt)
      obtain ⟨j, hj⟩ : ∃ j, j = L[i]'(HIL.out) := ⟨_, rfl⟩
      have hjn : j < n := by rw [hj]; exact HN.out _ (List.getElem_mem _)
      obtain ⟨q, hq⟩ : ∃ q, q = j / 8 := ⟨_, rfl⟩
      obtain ⟨r, hr⟩ : ∃ r, r = j % 8 := ⟨_, rfl⟩
      obtain ⟨B, hB⟩ : ∃ B, B = orAll bs (L.take i) := ⟨_, rfl⟩
      have HBN := Lib.hid (show B.length = bs.length by rw [hB, orAll_len])
      have hqb : q < B.length := by have := HBN.out; have := HBL.out; omega
      have HST := Lib.hid (show orAll bs (L.take (i + 1)) = B.set q (B.getD q 0 ||| UInt8.ofNat (2 ^ r)) by rw [orAll_snoc bs L i HIL.out, ← hB, ← hj, hq, hr]; rfl)
      rw [← hB] at hinv
      obtain ⟨ga, rfl, hcell, hfr⟩ := hinv.out.1.2.1.at0 (by omega)
      obtain ⟨x, hx⟩ : ∃ x, x = B[q] := ⟨_, rfl⟩
      have qx := hcell q hqb
      rw [← hx] at qx
      have HX := Lib.hid (show B.getD q 0 = x by rw [hx, List.getD_eq_getElem?_getD, List.getElem?_eq_getElem hqb]; rfl)
      have q1 := hinv.out.2.1.cell i (by simpa using HIL.out)
      rw [encI_get L i HIL.out, ← hj] at q1
      have q2 := hinv.out.1.cells.2.2
      have p8 := pow8 r (by omega)
      obtain ⟨p, hp⟩ : ∃ p, p = UInt8.ofNat (2 ^ r) := ⟨_, rfl⟩
      rw [← hp] at p8
      have f1 : (j : Int).tdiv 8 = (q : Int) := by rw [Int.tdiv_eq_ediv_of_nonneg (by omega)]; omega
      have f2 : (j : Int).tmod 8 = (r : Int) := by rw [Int.tmod_eq_emod_of_nonneg (by omega)]; omega
      have f3 : IntKind.i64.wrap (q : Int) = (q : Int) := by rw [IntKind.wrap_i64]; omega
      have f4 : IntKind.u8.wrap ((2 : Int) ^ r) = (p.toNat : Int) := by rw [IntKind.wrap_u8, ← p8.1]; omega
      have f6 := u8_or_any x p
      have hr8 : (r : Int) < 8 := by omega
      have f4' : (2 : Int) ^ r % 256 = (p.toNat : Int) := by rw [← p8.1]; omega
      have hqB : (q : Int) < ((B.length : Nat) : Int) := by omega
      obtain ⟨y, hy⟩ : ∃ y, y = x ||| p := ⟨_, rfl⟩
      rw [← hy] at f6
      have HY := Lib.hid (show orAll bs (L.take (i + 1)) = B.set q y by rw [HST.out, HX.out, hy, hp])
      have HQ := Lib.hid hqb
      have fz := hfr q
      have HS := Lib.hid (And.intro q2 qx)
      clear hj hjn hq hr hB hcell hfr hx hp p8 hy hqb HST
      go_wp2_with fail
      have qa : ∀ z : World, (z.cell? ⟨g, 2, none⟩ = some (.slice (some ⟨ga, 0, none⟩) B.length c) ∧ z.cell? ⟨ga, q, none⟩ = some (.int .u8 (x.toNat : Int))) → z.cell? ⟨g, 2, none⟩ = some (.slice (some ⟨ga, 0, none⟩) B.length c) := fun z hz => hz.1
      have qb : ∀ z : World, (z.cell? ⟨g, 2, none⟩ = some (.slice (some ⟨ga, 0, none⟩) B.length c) ∧ z.cell? ⟨ga, q, none⟩ = some (.int .u8 (x.toNat : Int))) → z.cell? ⟨ga, q, none⟩ = some (.int .u8 (x.toNat : Int)) := fun z hz => hz.2
      clear q1 q2 qx
      refine seqz_start (by kernel_rfl) (fun z => z.cell? ⟨g, 2, none⟩ = some (.slice (some ⟨ga, 0, none⟩) B.length c) ∧ z.cell? ⟨ga, q, none⟩ = some (.int .u8 (x.toNat : Int))) 13 14 [0, 1, 2, 3, 4, 5, 6, 7, 8, 9, 10, 11, 12, 13] rfl (HS.out) (fun hS => ?_)
      refine seqz_take (v := ?_) rfl (by kernel_rfl) (by kernel_rfl) (by kernel_rfl) (by kernel_rfl) (by kernel_rfl) (by decide) (Or.inl ⟨by rfl, fun w' hSw => ?_⟩) (by assumption) ?_
      rotate_left
      · go_simp
        with_reducible rfl
      simp only [Act.put, List.setIfInBounds_toArray, List.set_cons_zero, List.set_cons_succ]
      refine seqz_take (v := ?_) rfl (by kernel_rfl) (by kernel_rfl) (by kernel_rfl) (by kernel_rfl) (by kernel_rfl) (by decide) (Or.inl ⟨by rfl, fun w' hSw => ?_⟩) (by assumption) ?_
      rotate_left
      · go_simp
        with_reducible rfl
      simp only [Act.put, List.setIfInBounds_toArray, List.set_cons_zero, List.set_cons_succ]
      refine seqz_take (v := ?_) rfl (by kernel_rfl) (by kernel_rfl) (by kernel_rfl) (by kernel_rfl) (by kernel_rfl) (by decide) (Or.inl ⟨by rfl, fun w' hSw => ?_⟩) (by assumption) ?_
      rotate_left
      · go_simp
        with_reducible rfl
      simp only [Act.put, List.setIfInBounds_toArray, List.set_cons_zero, List.set_cons_succ]
      refine seqz_take (v := ?_) rfl (by kernel_rfl) (by kernel_rfl) (by kernel_rfl) (by kernel_rfl) (by kernel_rfl) (by decide) (Or.inl ⟨by rfl, fun w' hSw => ?_⟩) (by assumption) ?_
      rotate_left
      · go_simp
        with_reducible rfl
      simp only [Act.put, List.setIfInBounds_toArray, List.set_cons_zero, List.set_cons_succ]
      refine seqz_take (v := ?_) rfl (by kernel_rfl) (by kernel_rfl) (by kernel_rfl) (by kernel_rfl) (by kernel_rfl) (by decide) (Or.inl ⟨by rfl, fun w' hSw => ?_⟩) (by assumption) ?_
      rotate_left
      · go_simp
        with_reducible rfl
      simp only [Act.put, List.setIfInBounds_toArray, List.set_cons_zero, List.set_cons_succ]
      refine seqz_take (v := ?_) rfl (by kernel_rfl) (by kernel_rfl) (by kernel_rfl) (by kernel_rfl) (by kernel_rfl) (by decide) (Or.inl ⟨by rfl, fun w' hSw => ?_⟩) (by assumption) ?_
      rotate_left
      · go_simp
        with_reducible rfl
      simp only [Act.put, List.setIfInBounds_toArray, List.set_cons_zero, List.set_cons_succ]
      refine seqz_take (v := ?_) rfl (by kernel_rfl) (by kernel_rfl) (by kernel_rfl) (by kernel_rfl) (by kernel_rfl) (by decide) (Or.inl ⟨by rfl, fun w' hSw => ?_⟩) (by assumption) ?_
      rotate_left
      · go_simp
        with_reducible rfl
      simp only [Act.put, List.setIfInBounds_toArray, List.set_cons_zero, List.set_cons_succ]
      refine seqz_take (v := ?_) rfl (by kernel_rfl) (by kernel_rfl) (by kernel_rfl) (by kernel_rfl) (by kernel_rfl) (by decide) (Or.inl ⟨by rfl, fun w' hSw => ?_⟩) (by assumption) ?_
      rotate_left
      · go_simp
        with_reducible rfl
      simp only [Act.put, List.setIfInBounds_toArray, List.set_cons_zero, List.set_cons_succ]
      refine seqz_take (v := ?_) rfl (by kernel_rfl) (by kernel_rfl) (by kernel_rfl) (by kernel_rfl) (by kernel_rfl) (by decide) (Or.inl ⟨by rfl, fun w' hSw => ?_⟩) (by assumption) ?_
      rotate_left
      · go_simp
        with_reducible rfl
      simp only [Act.put, List.setIfInBounds_toArray, List.set_cons_zero, List.set_cons_succ]
      refine seqz_take (v := ?_) rfl (by kernel_rfl) (by kernel_rfl) (by kernel_rfl) (by kernel_rfl) (by kernel_rfl) (by decide) (Or.inl ⟨by rfl, fun w' hSw => ?_⟩) (by assumption) ?_
      rotate_left
      · go_simp
        with_reducible rfl
      simp only [Act.put, List.setIfInBounds_toArray, List.set_cons_zero, List.set_cons_succ]
      refine seqz_take (v := ?_) rfl (by kernel_rfl) (by kernel_rfl) (by kernel_rfl) (by kernel_rfl) (by kernel_rfl) (by decide) (Or.inl ⟨by rfl, fun w' hSw => ?_⟩) (by assumption) ?_
      rotate_left
      · go_simp
        with_reducible rfl
      simp only [Act.put, List.setIfInBounds_toArray, List.set_cons_zero, List.set_cons_succ]
      refine seqz_take (v := ?_) rfl (by kernel_rfl) (by kernel_rfl) (by kernel_rfl) (by kernel_rfl) (by kernel_rfl) (by decide) (Or.inl ⟨by rfl, fun w' hSw => ?_⟩) (by assumption) ?_
      rotate_left
      · go_simp
        with_reducible rfl
      simp only [Act.put, List.setIfInBounds_toArray, List.set_cons_zero, List.set_cons_succ]
      refine seqz_take (v := ?_) rfl (by kernel_rfl) (by kernel_rfl) (by kernel_rfl) (by kernel_rfl) (by kernel_rfl) (by decide) (Or.inl ⟨by rfl, fun w' hSw => ?_⟩) (by assumption) ?_
      rotate_left
      · go_simp
        with_reducible rfl
      simp only [Act.put, List.setIfInBounds_toArray, List.set_cons_zero, List.set_cons_succ]
      refine seqz_last rfl (by kernel_rfl) (by rfl) (by kernel_rfl) ?_
      all_goals skip
      have HI := Lib.hid (show Fm wr.drew g n k (some ⟨ga, 0, none⟩) c B ∧ IB wr.drew gl (encI L) ∧ Keeps (blk (some ⟨ga, 0, none⟩)) w wr.drew ∧ wr.drew.cell? ⟨ga, q, none⟩ = some (.int .u8 (x.toNat : Int)) ∧ wr.drew.frozen? ⟨ga, q, none⟩ = false from ⟨hinv.out.1, hinv.out.2.1, hinv.out.2.2.drew, HS.out.2, fz⟩)
      clear hinv qa qb hS fz HS
      generalize wr.drew = V at HI ⊢
      have qc := HI.out.2.2.2.1
      have fc := HI.out.2.2.2.2
      have HGA := Lib.hid (show ga < gl from by have := hA.out _ rfl; have := HGL.out; simp at *; omega)
      have HV := Lib.hid (show Fm (V.setCell ⟨ga, q, none⟩ (.int .u8 (y.toNat : Int))) g n k (some ⟨ga, 0, none⟩) c (B.set q y) ∧ IB (V.setCell ⟨ga, q, none⟩ (.int .u8 (y.toNat : Int))) gl (encI L) ∧ Keeps (blk (some ⟨ga, 0, none⟩)) w (V.setCell ⟨ga, q, none⟩ (.int .u8 (y.toNat : Int))) from
        ⟨HI.out.1.set q y HQ.out, HI.out.2.1.keeps (S := [ga]) ((Keeps.refl [ga] V).setCell (p := ⟨ga, q, none⟩) (.inl (by simp)) _) (by have := HGA.out; simp; omega), HI.out.2.2.1.setCell (.inl (by simp [blk])) _⟩)
      clear HI
      go_wp2_with fail
      go_roundw
      case rel => exact ⟨i + 1, by omega, by go_num, by rw [HY.out]; exact HV.out⟩
      case measure => simp [intOf]; omega
    · have hik : ¬ (i : Int) < (k : Int) := by omega
      have HKI := Lib.hid (show i = L.length by rw [HLK.out]; omega)
      clear hlt
      go_wp2_with fail
      go_end0
      have h2 := hinv.out
      rw [HKI.out, List.take_length] at h2
      exact ⟨rfl, h2.1, h2.2.2⟩
end Go.Proofs.Ythppbefemfkccaa
