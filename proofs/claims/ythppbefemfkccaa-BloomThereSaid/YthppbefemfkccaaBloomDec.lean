/- The filter of bytes: a contract. -/
import Derived.Test.YthppbefemfkccaaBloomFit
import Derived.Test.YthppbefemfkccaaPackRq
import Derived.Test.YthppbefemfkccaaPackRe
namespace Go.Proofs.Ythppbefemfkccaa
open Go.RowKit
attribute [local irreducible] bitsK orAll

def decN (b : List UInt8) : List UInt8 × Int × Nat := uintR 1048576 b 0
def decA (b : List UInt8) : List UInt8 × Int × Nat := uintR 16 (decN b).1 (decN b).2.1
def decX (b : List UInt8) : List UInt8 × Int × List UInt8 := bytesR (b.length : Int) (decA b).1 (decA b).2.1
def decE (b : List UInt8) : Int := doneR (decX b).1 (decX b).2.1
def nK (b : List UInt8) : Nat := (decN b).2.2
def kK (b : List UInt8) : Nat := (decA b).2.2
def xK (b : List UInt8) : List UInt8 := (decX b).2.2
def spareK (n : Nat) (x : List UInt8) : Nat := (x.getD (x.length - 1) 0).toNat / 2 ^ (n % 8)
def decOk (b : List UInt8) : Prop := decE b = 0 ∧ FitB (nK b) (kK b) ∧ (xK b).length = (nK b + 7) / 8 ∧ (nK b % 8 = 0 ∨ spareK (nK b) (xK b) = 0)
theorem uintR_le (most : Nat) (l : List UInt8) (e : Int) : (uintR most l e).2.2 ≤ most := by
  unfold uintR
  split
  · exact Nat.zero_le _
  · by_cases h : (bnd most 4 0 l).2.1 = 0
    · exact (bnd_ok (by decide) h).1
    · rw [(bnd_bad h).2]; exact Nat.zero_le _
theorem bytesR_len (most : Int) (l : List UInt8) (e : Int) (h : most ≤ 140737488351232) : (bytesR most l e).2.2.length ≤ 140737488351232 := by
  unfold bytesR
  repeat' split
  · simp
  · simp
  · simp
  · rename_i h1 h2 h3
    have h4 : (bnd most.toNat 2 12 l).2.1 = 0 := by simpa using h3
    have := (bnd_ok (by decide) h4).1
    simp only [List.length_take]
    omega
/-- A filter, or the error. -/
def DecP (b : List UInt8) (w : World) (e : Ending) (w' : World) : Prop :=
  (decOk b ∧ ∃ g A c, e = .returned (.tuple #[.pointer (some ⟨g, 0, none⟩), .nilIface]) ∧ Fm w' g (nK b) (kK b) A c (xK b) ∧ w.heap.size ≤ g ∧ (∀ a, A = some a → w.heap.size ≤ a.block) ∧ Keeps [] w w') ∨
  (¬ decOk b ∧ e = .returned (.tuple #[.pointer none, errV 3]) ∧ Keeps [] w w')
set_option maxRecDepth 100000 in
set_option maxHeartbeats 4000000 in
theorem dec_any (A : Option Addr) (b : List UInt8) (c : Nat) (w : World) (hl : b.length ≤ 140737488351232) (hc : b.length ≤ c) (hr : RdB w A b) (hA : ∀ a, A = some a → 0 < b.length → a.block < w.heap.size) :
    Calls Try.prog 10 #[.slice A b.length c] w (DecP b w) := by
  have H0 := Lib.hid (And.intro (And.intro hl hc) (And.intro hr hA))
  have E3 := Lib.hid (errV_other (show (3 : Int) ≠ 0 by decide))
  clear hl hc hr hA
  go_enter Try.func10, Try.ntmps10
  go_wp2_with fail
  refine (read_any A b c w H0.out.1.1 H0.out.1.2 H0.out.2.1 H0.out.2.2).mono ?_
  rintro e w1 ⟨rfl, hr1, hk1⟩
  obtain ⟨g, hg⟩ : ∃ g, g = w.heap.size := ⟨_, rfl⟩
  rw [← hg] at hr1 ⊢
  have H1 := Lib.hid (And.intro hr1 hk1)
  have HG := Lib.hid (show ∀ t ∈ [g], w.heap.size ≤ t by simp [hg])
  clear hr1 hk1 hg
  go_wp2_with fail
  refine (rduint_any g A c b 0 w1 H1.out.1 1048576).mono ?_
  rintro e w2 ⟨A2, c2, l2, hl2, rfl, hr2, hk2, hb2⟩
  obtain ⟨n, hn⟩ : ∃ n, n = nK b := ⟨_, rfl⟩
  have hnle : n ≤ 1048576 := by rw [hn]; exact uintR_le _ _ _
  have H2 := Lib.hid (show Rdr w2 g A2 c2 l2 (decN b).2.1 ∧ l2 = (decN b).1 ∧ Keeps [] w w2 from ⟨hr2, hl2.out, H1.out.2.trans hk2 (fun t ht => .inr (HG.out t ht))⟩)
  rw [show (uintR 1048576 b 0).2.2 = n by rw [hn]; rfl]
  have HN := Lib.hid hn
  have f1 : IntKind.i64.wrap (n : Int) = (n : Int) := by rw [IntKind.wrap_i64]; omega
  clear hl2 hr2 hk2 hb2 hn H1
  go_wp2_with fail
  refine (rduint_any g A2 c2 l2 (decN b).2.1 w2 H2.out.1 16).mono ?_
  rintro e w3 ⟨A3, c3, l3, hl3, rfl, hr3, hk3, hb3⟩
  obtain ⟨k, hk⟩ : ∃ k, k = kK b := ⟨_, rfl⟩
  have hkle : k ≤ 16 := by rw [hk]; exact uintR_le _ _ _
  have ek : uintR 16 l2 (decN b).2.1 = decA b := by rw [H2.out.2.1]; rfl
  rw [ek] at hl3 hr3 ⊢
  rw [show (decA b).2.2 = k by rw [hk]; rfl]
  have H3 := Lib.hid (show Rdr w3 g A3 c3 l3 (decA b).2.1 ∧ l3 = (decA b).1 ∧ Keeps [] w w3 from ⟨hr3, hl3.out, H2.out.2.2.trans hk3 (fun t ht => .inr (HG.out t ht))⟩)
  have HK := Lib.hid hk
  have f2 : IntKind.i64.wrap (k : Int) = (k : Int) := by rw [IntKind.wrap_i64]; omega
  clear hl3 hr3 hk3 hb3 hk H2 ek
  go_wp2_with fail
  refine (rdbytes_any g A3 c3 l3 (decA b).2.1 w3 H3.out.1 (b.length : Int) (by omega) (by have := H0.out.1.1; omega)).mono ?_
  rintro e w4 ⟨A4, c4, l4, A5, c5, x, rfl, hl4, hx, hr4, ho4, hn4, hk4, hb4⟩
  rw [H3.out.2.1] at hl4 hx hr4
  have H4 := Lib.hid (show Rdr w4 g A4 c4 l4 (decX b).2.1 ∧ l4 = (decX b).1 ∧ x = xK b ∧ OwnB 5 w4 A5 c5 x ∧ (∀ a, A5 = some a → w.heap.size ≤ a.block) ∧ Keeps [] w w4 from
    ⟨hr4, hl4.out, hx.out, ho4, fun a ha => Nat.le_trans H3.out.2.2.size (hn4 a ha), H3.out.2.2.trans hk4 (fun t ht => .inr (HG.out t ht))⟩)
  have HXL := Lib.hid (show x.length ≤ 140737488351232 from by rw [hx.out]; exact bytesR_len _ _ _ (by have := H0.out.1.1; omega))
  clear hl4 hx hr4 ho4 hn4 hk4 hb4 H3
  go_wp2_with fail
  refine (rddone_any g A4 c4 l4 (decX b).2.1 w4 H4.out.1).mono ?_
  rintro e w5 ⟨rfl, rfl⟩
  rw [show doneR l4 (decX b).2.1 = decE b by rw [H4.out.2.1]; rfl]
  by_cases he : decE b = 0
  · rw [he, errV_zero]
    have HE := Lib.hid he
    clear he
    by_cases hfit : FitB n k
    · obtain ⟨m, hm⟩ : ∃ m, m = (n + 7) / 8 := ⟨_, rfl⟩
      have HF := Lib.hid hfit
      unfold FitB at hfit
      have HM := Lib.hid (show m = (n + 7) / 8 ∧ 1 ≤ m from ⟨hm, by omega⟩)
      go_wp2_with fail
      refine (bnew_any n k w4 (by omega) (by omega)).mono ?_
      rintro e w5 ⟨gf, Af, rfl, hf, hgf, hAf, hk5⟩
      rw [← hm] at hf
      have q2 : w5.cell? ⟨gf, 2, none⟩ = some (.slice Af m m) := by have h := hf.cells.2.2; rwa [List.length_replicate] at h
      have fz := frozen_of_row w5 gf 2 _ _ hf.1
      have H5 := Lib.hid (show Fm w5 gf n k Af m (List.replicate m 0) ∧ w4.heap.size ≤ gf ∧ OwnB 5 w5 A5 c5 x ∧ Keeps [] w w5 ∧ w.heap.size ≤ gf from ⟨hf, hgf, H4.out.2.2.2.1.keeps0 hk5, H4.out.2.2.2.2.2.trans hk5 (by simp), by have := H4.out.2.2.2.2.2.size; omega⟩)
      have FIN := Lib.hid (show decOk b → DecP b w (.returned (.tuple #[.pointer (some ⟨gf, 0, none⟩), .nilIface])) (w5.setCell ⟨gf, 2, none⟩ (.slice A5 x.length c5)) from fun hok => by
        refine .inl ⟨hok, gf, A5, c5, rfl, ?_, H5.out.2.2.2.2, H4.out.2.2.2.2.1, H5.out.2.2.2.1.setCell (.inr H5.out.2.2.2.2) _⟩
        rw [← HN.out, ← HK.out, ← H4.out.2.2.1]
        refine ⟨?_, H5.out.2.2.1.keeps (S := [gf]) ((Keeps.refl [gf] w5).setCell (p := ⟨gf, 2, none⟩) (.inl (by simp)) _) (fun a ha => ?_), fun a ha => ?_⟩
        · rw [heap_setCell_same w5 gf 2 _ _ _ H5.out.1.1]; rfl
        · have := H4.out.2.2.2.1.lt a ha; have := H5.out.2.1; simp; omega
        · have := H4.out.2.2.2.1.lt a ha; have := H5.out.2.1; omega)
      clear hf hgf hAf hk5 hm
      by_cases hlen : x.length = m
      · have hl : ((x.length : Nat) : Int) = (m : Int) := by omega
        have hm1 : 1 ≤ m := HM.out.2
        have hm3 := HM.out.1
        obtain ⟨r, hr⟩ : ∃ r, r = n % 8 := ⟨_, rfl⟩
        have f3 : (n : Int).tmod 8 = (r : Int) := by rw [Int.tmod_eq_emod_of_nonneg (by omega), hr]; simp
        by_cases hr0 : r = 0
        · have hri : (r : Int) = 0 := by omega
          have HOK := Lib.hid (show decOk b from ⟨HE.out, by rw [← HN.out, ← HK.out]; exact HF.out, by rw [← HN.out, ← H4.out.2.2.1, hlen]; exact HM.out.1, .inl (by rw [← HN.out, ← hr]; exact hr0)⟩)
          rw [hri] at f3
          clear hr hr0 hri hlen hm3
          go_wp2_with fail
          go_ret2
          exact FIN.out HOK.out
        · have hri : ¬ (r : Int) = 0 := by omega
          have hr8 : (r : Int) < 8 := by omega
          obtain ⟨j, hj⟩ : ∃ j, j = m - 1 := ⟨_, rfl⟩
          have hjx : j < x.length := by omega
          have dj : (m : Int) - 1 = (j : Int) := by omega
          have hjm : (j : Int) < (m : Int) := by omega
          have hm2 : (m : Int) ≤ 131073 := by omega
          obtain ⟨gx, hgx, hcx, _⟩ := H5.out.2.2.1.at0 (show 0 < x.length by omega)
          have hc := hcx j hjx
          obtain ⟨v, hv⟩ : ∃ v, v = x[j] := ⟨_, rfl⟩
          rw [← hv] at hc
          subst hgx
          have HSP := Lib.hid (show spareK n x = v.toNat / 2 ^ r by
            unfold spareK
            rw [show x.length - 1 = j by omega, List.getD_eq_getElem?_getD, List.getElem?_eq_getElem hjx, Option.getD_some, ← hv, ← hr])
          have hvl := v.toNat_lt
          obtain ⟨q, hq⟩ : ∃ q, q = v.toNat / 2 ^ r := ⟨_, rfl⟩
          have dq : (v.toNat : Int) / 2 ^ r = (q : Int) := by rw [hq]; simp
          have hql : (q : Int) < 256 := by have := Nat.div_le_self v.toNat (2 ^ r); omega
          by_cases hs : q = 0
          · have hqi : (q : Int) = 0 := by omega
            have HOK := Lib.hid (show decOk b from ⟨HE.out, by rw [← HN.out, ← HK.out]; exact HF.out, by rw [← HN.out, ← H4.out.2.2.1, hlen]; exact HM.out.1, .inr (by rw [← HN.out, ← H4.out.2.2.1, HSP.out, ← hq]; exact hs)⟩)
            clear hr hr0 hlen hj hcx hv hq hs hm3
            go_wp2_with fail
            go_ret2
            exact FIN.out HOK.out
          · have hqi : ¬ (q : Int) = 0 := by omega
            have hqb : ((q : Int) != 0) = true := by simpa using hqi
            have hrb : ((r : Int) != 0) = true := by simpa using hri
            have HNO := Lib.hid (show ¬ decOk b from fun h => by
              have h1 := h.2.2.2
              rw [← HN.out, ← H4.out.2.2.1, HSP.out, ← hq, ← hr] at h1
              rcases h1 with h1 | h1
              · exact hr0 h1
              · exact hs h1)
            clear hr hr0 hlen hj hcx hv hq hs hm3
            go_wp2_with fail
            go_ret2
            exact .inr ⟨HNO.out, by rw [E3.out]; rfl, H5.out.2.2.2.1⟩
      · have hl : ¬ ((x.length : Nat) : Int) = (m : Int) := by omega
        have HNO := Lib.hid (show ¬ decOk b from fun h => hlen (by rw [H4.out.2.2.1, h.2.2.1, ← HN.out]; exact HM.out.1.symm))
        clear hlen
        go_wp2_with fail
        go_ret2
        exact .inr ⟨HNO.out, by rw [E3.out]; rfl, H5.out.2.2.2.1⟩
    · have hfit' : ¬ FitB (n : Int) (k : Int) := hfit
      have HNO := Lib.hid (show ¬ decOk b from fun h => hfit (by have := h.2.1; rwa [← HN.out, ← HK.out] at this))
      have HFIT := Lib.hid hfit'
      clear hfit hfit'
      go_wp2_with fail
      refine (bnew_no n k w4 HFIT.out).mono ?_
      rintro e w5 ⟨rfl, hk5⟩
      rw [errV_other (by decide)]
      have HK5 := Lib.hid hk5
      clear hk5
      go_wp2_with fail
      go_ret2
      exact .inr ⟨HNO.out, by rw [E3.out]; rfl, H4.out.2.2.2.2.2.trans HK5.out (by simp)⟩
  · rw [errV_other he]
    go_wp2_with fail
    go_ret2
    exact .inr ⟨fun h => he h.1, by rw [E3.out]; rfl, H4.out.2.2.2.2.2⟩
end Go.Proofs.Ythppbefemfkccaa
