/- The document's bytes that come out: a contract. -/
import Derived.Test.YtomleanoofoejaaDoorKecPad
import Derived.Test.YtomleanoofoejaaDoorKecRounds
namespace Go.Proofs.YtomleanoofoejaaDoor
open Go.RowKit
theorem tr_begin : tr beginK.1 = List.replicate 25 0 := by rfl
attribute [local irreducible] turnK absAll sqzTo endK padK drTo dround dcolsTo dthetaTo dwTo dchiTo diTo dmid tr

/-- A cell of one's own bytes, stored. -/
theorem OwnB.at0 {E : TypeId} {w : World} {A : Option Addr} {c : Nat} {l : List UInt8} (h : OwnB E w A c l) (hl : 0 < l.length) : ∃ g, A = some ⟨g, 0, none⟩ ∧ (∀ (i : Nat) (_ : i < l.length), w.cell? ⟨g, i, none⟩ = some (.int .u8 (l[i].toNat : Int))) ∧ ∀ i, w.frozen? ⟨g, i, none⟩ = false := by
  rcases h.2 with ⟨_, h0⟩ | ⟨g, cap, cur, hv, _, hh, _, _, _, ht⟩
  · omega
  · have hA : A = some ⟨g, 0, none⟩ := by injection hv
    refine ⟨g, hA, fun i hi => ?_, fun i => frozen_of_row w g i _ _ hh⟩
    obtain ⟨ad, e, hc⟩ := (OwnB.rd h).at_ hi
    rw [hA] at e
    obtain rfl := Option.some.inj e
    rw [add_new, Nat.zero_add] at hc
    exact hc
theorem OwnB.set {E : TypeId} {w : World} {g : Nat} {c : Nat} {l : List UInt8} (h : OwnB E w (some ⟨g, 0, none⟩) c l) (i : Nat) (b : UInt8) (_ : i < l.length) : OwnB E (w.setCell ⟨g, i, none⟩ (.int .u8 (b.toNat : Int))) (some ⟨g, 0, none⟩) c (l.set i b) := by
  obtain ⟨h1, h2⟩ := h
  have el : (l.set i b).length = l.length := List.length_set
  unfold OwnB
  rw [el]
  refine ⟨by simp, ?_⟩
  rcases h2 with ⟨e, _⟩ | ⟨g', cap, cur, hv, hb, hh, hn, hm, hs, ht⟩
  · cases e
  · obtain ⟨rfl⟩ : g = g' := by injection hv with e1; simpa using e1
    refine .inr ⟨g, cap, cur.setIfInBounds i (.int .u8 (b.toNat : Int)), hv, hb, heap_setCell_same w g i _ _ _ hh, hn, hm, by simpa using hs, ?_⟩
    rw [Array.toList_setIfInBounds, List.take_set, ht]
    unfold encB
    rw [List.map_set]
theorem u8_xor128 (x : UInt8) : bits .xor .u8 (x.toNat : Int) 128 = ((x ^^^ 128).toNat : Int) := by
  show IntKind.u8.wrap ((BitVec.ofInt 8 (x.toNat : Int) ^^^ BitVec.ofInt 8 ((128 : Nat) : Int)).toNat : Int) = _
  have e : ∀ a : Nat, a < 256 → (BitVec.ofInt 8 (a : Int)).toNat = a := fun a ha => by
    rw [BitVec.ofInt_natCast, BitVec.toNat_ofNat]; exact Nat.mod_eq_of_lt (by omega)
  have hx := x.toNat_lt
  have h2 : x.toNat ^^^ 128 < 2 ^ 8 := Nat.xor_lt_two_pow (by omega) (by decide)
  rw [BitVec.toNat_xor, e _ (by omega), e 128 (by decide), IntKind.wrap_u8, UInt8.toNat_xor]
  show _ = ((x.toNat ^^^ 128 : Nat) : Int)
  omega
theorem padK_of (l : List UInt8) (s : UInt8) (P : List UInt8) (h : P = l ++ [s] ++ List.replicate (padN (l.length + 1)) 0) (m : Nat) (hm : P.length = m + 1) (hm2 : m < P.length) : P.set m (P[m] ^^^ 128) = padK l s := by
  subst h
  unfold padK
  split
  · rename_i h0
    simp only [h0, List.replicate_zero, List.append_nil] at hm ⊢
    simp at hm
    subst hm
    rw [List.set_append_right _ _ (Nat.le_refl _)]
    simp
  · rename_i h0
    obtain ⟨k, hk⟩ : ∃ k, padN (l.length + 1) = k + 1 := ⟨padN (l.length + 1) - 1, by omega⟩
    simp only [hk] at hm ⊢
    have e : l ++ [s] ++ List.replicate (k + 1) (0 : UInt8) = (l ++ s :: List.replicate k 0) ++ [0] := by
      rw [List.replicate_succ']; simp
    simp only [e] at hm ⊢
    simp at hm
    have hm' : m = (l ++ s :: List.replicate k (0 : UInt8)).length := by simp; omega
    subst hm'
    rw [List.set_append_right _ _ (Nat.le_refl _), List.getElem_append_right (Nat.le_refl _)]
    simp
/-- How long a slice is. -/
def lenOf : Value → Nat
  | .slice _ n _ => n
  | _ => 0
theorem absAll_nil (s : List Nat × Nat) : absAll s [] = s := by unfold absAll; rfl
/-- A byte taken in, in the document's order of lanes, no rounds behind it. -/
theorem absK_doc {L : List Nat} (hL : Wf 25 L) (a : Nat) (b : UInt8) (q j v : Nat) (ha : a < 136) (hq : q = a / 8) (hj : j = q % 5 * 5 + q / 5) (hv : v = b.toNat * 2 ^ (8 * (a % 8))) :
    tr (xorB L a b.toNat) = (tr L).set j (ln (tr L) j ^^^ v) := by
  unfold xorB
  rw [tr_set hL.1 _ _ (by omega), hj, tr_ln q (by omega), hq, hv]

set_option maxRecDepth 100000 in
set_option maxHeartbeats 20000000 in
theorem refout_any (A : Option Addr) (l : List UInt8) (c : Nat) (s : UInt8) (n : Nat) (w : World) (hl : l.length ≤ 1000000) (hr : RdB w A l) (hn : n ≤ 1048576) :
    Calls Tryd.prog 19 #[.slice A l.length c, .int .u8 (s.toNat : Int), .int .i64 n] w (NewB 5 (outK (absAll beginK l) s.toNat n) w) := by
  have HR := Lib.hid hr
  clear hr
  have hs : (0 : Int) ≤ (s.toNat : Int) ∧ (s.toNat : Int) < 256 := by have := s.toNat_lt; omega
  go_enter Tryd.func19, Tryd.ntmps19
  go_wp2_with (first
    | (at_builtin; refine wpList_appendB rfl (.tmp 16) (.tmp 18) 35 5 rfl Tryd.underlying35 infoBy A1 c1 l1 rfl (HO1.out.alloc _) (some ⟨w1.heap.size, 0, none⟩) 1 [s] rfl (RdB.lit w1 [s] 5 (0, 0)) (by rw [hl1.out]; simp; omega) ?_; intro A2 c2 w2 l2 hl2 ho2 hk2 hb2; have HO2 := Lib.hid ho2; have HK2 := Lib.hid hk2; have HB2 := Lib.hid hb2; clear ho2 hk2 hb2)
    | (at_builtin; refine wpList_appendB rfl (.tmp 14) (.tmp 15) 35 5 rfl Tryd.underlying35 infoBy none 0 [] rfl (OwnB.nil _ _) A c l rfl HR.out (by simp; omega) ?_; intro A1 c1 w1 l1 hl1 ho1 hk1 hb1; have HO1 := Lib.hid ho1; have HK1 := Lib.hid hk1; have HB1 := Lib.hid hb1; clear ho1 hk1 hb1))
  have hf1 : ∀ a, A1 = some a → w.heap.size ≤ a.block := fun a ha => by
    rcases HB1.out a ha with h | h
    · simp [blk] at h
    · exact h
  have hk1' : Keeps [] w w1 := HK1.out
  have INV := Lib.hid (show OwnB 5 w2 A2 c2 l2 ∧ Keeps [] w w2 ∧ (∀ a, A2 = some a → w.heap.size ≤ a.block) from ⟨HO2.out, (hk1'.alloc _).fresh HK2.out hf1, fresh_append HB2.out hf1 (by have := hk1'.size; simp; omega)⟩)
  have HL2 := Lib.hid (show l2.length = l.length + 1 + 0 by rw [hl2.out, hl1.out]; simp)
  have HP2 := Lib.hid (show l2 = l ++ [s] ++ List.replicate 0 0 by rw [hl2.out, hl1.out]; simp)
  have HPN := Lib.hid (show padN (l.length + 1) ≤ 135 by unfold padN; omega)
  have HS := Lib.hid hs
  clear hf1 hk1' HO1 HO2 HK1 HK2 HB1 HB2 hl1 hl2 hs
  go_loopw [7] (fun al wr => ∃ (k : Nat) (A' : Option Addr) (c' : Nat) (P : List UInt8), k ≤ padN (l.length + 1) ∧ Hid (P.length = l.length + 1 + k) ∧ al = .slice A' P.length c' ∧ Hid (P = l ++ [s] ++ List.replicate k 0) ∧ Hid (OwnB 5 wr A' c' P ∧ Keeps [] w wr ∧ ∀ a, A' = some a → w.heap.size ≤ a.block)) (fun al _ => l.length + 200 - lenOf al)
  case atStart => exact ⟨0, A2, c2, l2, Nat.zero_le _, HL2.out, rfl, HP2.out, INV.out⟩
  case round =>
    clear INV HL2 HP2
    obtain ⟨k, A', c', P, hk, hlen, rfl, hP, hinv⟩ := hrel
    obtain ⟨r, hr⟩ : ∃ r, r = P.length % 136 := ⟨_, rfl⟩
    have d1 : ((P.length : Nat) : Int).tmod 136 = (r : Int) := by rw [Int.tmod_eq_emod_of_nonneg (by omega)]; omega
    have hpl : P.length ≤ 1000200 := by have := hlen.out; have := HPN.out; omega
    by_cases hz : r = 0
    · have e1 : ((r : Int) == 0) = true := by simp [hz]
      have e1' : ((r : Int) != 0) = false := by simp [hz]
      have HKF := Lib.hid (show k = padN (l.length + 1) by have := hlen.out; unfold padN at hk ⊢; omega)
      have HKP := Lib.hid hk
      obtain ⟨m, hm⟩ : ∃ m, P.length = m + 1 := ⟨P.length - 1, by have := hlen.out; omega⟩
      have hml : m < P.length := by omega
      obtain ⟨g, rfl, hcell, hfr⟩ := hinv.out.1.at0 (by omega)
      obtain ⟨x, hx⟩ : ∃ x, x = P[m] := ⟨_, rfl⟩
      have q0 := hcell m hml
      rw [← hx] at q0
      have f0 := hfr m
      have hs1 := hinv.out.1.set m (x ^^^ 128) hml
      have hg0 : g < wr.heap.size := by simpa using hinv.out.1.lt _ rfl
      have x1 := u8_xor128 x
      obtain ⟨y, hy⟩ : ∃ y, y = x ^^^ 128 := ⟨_, rfl⟩
      rw [← hy] at x1 hs1
      obtain ⟨Q, hQ⟩ : ∃ Q, Q = P.set m y := ⟨_, rfl⟩
      have HQL := Lib.hid (show Q.length = P.length by rw [hQ, List.length_set])
      have HQ := Lib.hid (show Q = padK l s by rw [hQ, hy, hx]; exact padK_of l s P (by rw [hP.out, HKF.out]) m hm hml)
      have HK1 := Lib.hid (show Keeps [] w (wr.setCell ⟨g, m, none⟩ (.int .u8 (y.toNat : Int))) from hinv.out.2.1.setCell (.inr (by simpa using hinv.out.2.2 _ rfl)) _)
      have HRD := Lib.hid (show RdB (wr.setCell ⟨g, m, none⟩ (.int .u8 (y.toNat : Int))) (some ⟨g, 0, none⟩) Q by rw [hQ]; exact hs1.rd)
      have HGG := Lib.hid (And.intro (show w.heap.size ≤ g by simpa using hinv.out.2.2 _ rfl) hg0)
      have HZ := Lib.hid zero25
      have d2 : ((P.length : Nat) : Int) - 1 = (m : Int) := by omega
      have hm0 : (0 : Int) ≤ (m : Int) := by omega
      have hmP : (m : Int) < ((P.length : Nat) : Int) := by omega
      have HM := Lib.hid hm
      clear hz hr hk hcell hfr hinv hs1 hx hy hQ hP hm hml hg0
      go_wp2_with fail
      rw [HZ.out]
      obtain ⟨W, hW⟩ : ∃ W, W = (wr.setCell ⟨g, m, none⟩ (.int .u8 (y.toNat : Int))).alloc (.cells (encN (List.replicate 25 0)).toArray 56) := ⟨_, rfl⟩
      rw [← hW]
      obtain ⟨ga, hga⟩ : ∃ ga, ga = wr.heap.size := ⟨_, rfl⟩
      rw [← hga]
      have HGA := Lib.hid (show w.heap.size ≤ g ∧ g < ga ∧ w.heap.size ≤ ga ∧ ga < W.heap.size from ⟨HGG.out.1, by rw [hga]; exact HGG.out.2, by have := HGG.out; omega, by rw [hW, hga]; simp⟩)
      have INV := Lib.hid (show St W ga 56 [] (tr (absAll beginK (Q.take 0)).1) ∧ RdB W (some ⟨g, 0, none⟩) Q ∧ Keeps [] w W from by
        rw [hW]
        refine ⟨?_, HRD.out.alloc _, HK1.out.alloc _⟩
        show _ = _
        rw [List.take_zero, absAll_nil, List.append_nil, hga, tr_begin]
        rw [show wr.heap.size = (wr.setCell ⟨g, m, none⟩ (.int .u8 (y.toNat : Int))).heap.size by simp]
        exact heap_alloc_new _ _)
      have HPL := Lib.hid hpl
      have HMM := Lib.hid hm0
      clear hW hga HK1 HRD HGG d1 d2 e1 e1' q0 f0 x1 hm0 hmP hpl
      go_loopw [9] (fun i wr => ∃ k2 : Nat, k2 ≤ P.length ∧ i = .int .i64 k2 ∧ Hid (St wr ga 56 [] (tr (absAll beginK (Q.take k2)).1) ∧ RdB wr (some ⟨g, 0, none⟩) Q ∧ Keeps [] w wr ∧ ga < wr.heap.size)) (fun i _ => P.length - (intOf i).toNat)
      case atStart => exact ⟨0, Nat.zero_le _, rfl, INV.out.1, INV.out.2.1, INV.out.2.2, HGA.out.2.2.2⟩
      case round =>
        clear INV
        obtain ⟨k2, hk2, rfl, hinv⟩ := hrel
        by_cases hlt : k2 < P.length
        · have hi : (k2 : Int) < ((P.length : Nat) : Int) := by omega
          have HLQ := Lib.hid (show k2 < Q.length by rw [HQL.out]; exact hlt)
          have HK21 := Lib.hid (show k2 + 1 ≤ P.length from hlt)
          have HPL' : P.length ≤ 1000200 := HPL.out
          obtain ⟨b, hb⟩ : ∃ b, b = Q[k2]'(HLQ.out) := ⟨_, rfl⟩
          have HSN := Lib.hid (show absAll beginK (Q.take (k2 + 1)) = absK (absAll beginK (Q.take k2)) b by rw [hb]; exact absAll_snoc beginK Q k2 HLQ.out)
          have hok := absAll_ok beginK_ok (Q.take k2)
          have hat := absAll_at (Q.take k2)
          rw [List.length_take, Nat.min_eq_left (Nat.le_of_lt HLQ.out)] at hat
          obtain ⟨⟨L, a⟩, hM⟩ : ∃ M, M = absAll beginK (Q.take k2) := ⟨_, rfl⟩
          rw [← hM] at HSN hok hat hinv
          simp only at hok hat hinv
          obtain ⟨r, hr⟩ : ∃ r, r = k2 % 136 := ⟨_, rfl⟩
          obtain ⟨q, hq⟩ : ∃ q, q = r / 8 := ⟨_, rfl⟩
          obtain ⟨x5, hx5⟩ : ∃ x, x = q % 5 := ⟨_, rfl⟩
          obtain ⟨y5, hy5⟩ : ∃ x, x = q / 5 := ⟨_, rfl⟩
          obtain ⟨j, hj⟩ : ∃ j, j = x5 * 5 + y5 := ⟨_, rfl⟩
          obtain ⟨m8, hm8⟩ : ∃ x, x = k2 % 8 := ⟨_, rfl⟩
          obtain ⟨sh, hsh⟩ : ∃ x, x = 8 * m8 := ⟨_, rfl⟩
          obtain ⟨v, hv⟩ : ∃ v, v = b.toNat * 2 ^ sh := ⟨_, rfl⟩
          have hbl := b.toNat_lt
          have hvl : v < 18446744073709551616 := by rw [hv, hsh]; exact shl_lt b.toNat m8 (by omega) (by omega)
          have HX := Lib.hid (show tr (xorB L a b.toNat) = (tr L).set j (ln (tr L) j ^^^ v) from absK_doc hok.1 a b q j v hok.2 (by rw [hq, hat, hr]) (by rw [hj, hx5, hy5]) (by rw [hv, hsh, hm8, hat]; congr 3; omega))
          have HAR := Lib.hid (show a = r by rw [hat, hr])
          have HW := Lib.hid (show Wf 25 (xorB L a b.toNat) from hok.1.xorB a _ (by omega))
          have HTW := Lib.hid hok.1.tr
          have HJ := Lib.hid (show j < (tr L).length by rw [tr_len]; omega)
          have tm1 : (k2 : Int).tmod 136 = (r : Int) := by rw [Int.tmod_eq_emod_of_nonneg (by omega)]; omega
          have tq : (r : Int).tdiv 8 = (q : Int) := by rw [Int.tdiv_eq_ediv_of_nonneg (by omega)]; omega
          have tx : (q : Int).tmod 5 = (x5 : Int) := by rw [Int.tmod_eq_emod_of_nonneg (by omega)]; omega
          have ty : (q : Int).tdiv 5 = (y5 : Int) := by rw [Int.tdiv_eq_ediv_of_nonneg (by omega)]; omega
          have t8 : (k2 : Int).tmod 8 = (m8 : Int) := by rw [Int.tmod_eq_emod_of_nonneg (by omega)]; omega
          have wq : IntKind.i64.wrap (q : Int) = (q : Int) := by rw [IntKind.wrap_i64]; omega
          have wy : IntKind.i64.wrap (y5 : Int) = (y5 : Int) := by rw [IntKind.wrap_i64]; omega
          have d4 : IntKind.i64.wrap (8 * (m8 : Int)) = (sh : Int) := by rw [IntKind.wrap_i64]; omega
          have d5 : IntKind.u64.wrap (b.toNat : Int) = (b.toNat : Int) := by rw [IntKind.wrap_u64]; omega
          have d6 : IntKind.u64.wrap ((b.toNat : Int) * 2 ^ sh) = (v : Int) := by
            rw [show (b.toNat : Int) * 2 ^ sh = (v : Int) by rw [hv]; simp, IntKind.wrap_u64]; omega
          have bx : (x5 : Int) < 5 := by omega
          have by5 : (y5 : Int) < 5 := by omega
          have bs : (sh : Int) < 64 := by omega
          have ej : x5 * 5 + y5 = j := hj.symm
          obtain ⟨M, hMM⟩ : ∃ M, M = tr L := ⟨_, rfl⟩
          rw [← hMM] at HX HTW HJ hinv
          have HMM2 := Lib.hid hMM
          have hx1 := u64_xor_nat (ln M j) v (HTW.out.2 _) hvl
          have q1 : ∀ z : World, St z ga 56 [] M ∧ z.cell? ⟨g, k2, none⟩ = some (.int .u8 (b.toNat : Int)) → z.cell? ⟨ga, j, none⟩ = some (.int .u64 (ln M j : Int)) := fun z hz => hz.1.cell j HJ.out
          have q2 : ∀ z : World, St z ga 56 [] M ∧ z.cell? ⟨g, k2, none⟩ = some (.int .u8 (b.toNat : Int)) → z.cell? ⟨g, k2, none⟩ = some (.int .u8 (b.toNat : Int)) := fun z hz => hz.2
          have hcell : wr.cell? ⟨g, k2, none⟩ = some (.int .u8 (b.toNat : Int)) := by
            obtain ⟨ad, e, hc⟩ := hinv.out.2.1.at_ HLQ.out
            obtain rfl := Option.some.inj e
            rw [add_new, Nat.zero_add, ← hb] at hc
            exact hc
          have HCE := Lib.hid hcell
          have HRR := Lib.hid (show r < 136 by omega)
          have HK2 := Lib.hid hk2
          clear hb hok hat hM hr hq hx5 hy5 hj hm8 hsh hv hbl hvl hMM hcell hk2
          go_wp2_with fail
          refine seqz_start (by kernel_rfl) (fun z => St z ga 56 [] M ∧ z.cell? ⟨g, k2, none⟩ = some (.int .u8 (b.toNat : Int))) 23 24 [0, 1, 2, 3, 4, 5, 6, 7, 8, 9, 10, 11, 12, 13, 14, 15, 16, 17, 18, 19, 20, 21, 22, 23] rfl (⟨hinv.out.1, HCE.out⟩) (fun hS => ?_)
          refine seqz_take (v := ?_) rfl (by kernel_rfl) (by kernel_rfl) (by kernel_rfl) (by kernel_rfl) (by kernel_rfl) (by decide) (Or.inl ⟨by rfl, fun w' hSw => ?_⟩) (by assumption) ?_
          rotate_left
          · go_simp
            with_reducible rfl
          simp only [Act.put, List.setIfInBounds_toArray, List.set_cons_zero, List.set_cons_succ]
          refine seqz_take (v := ?_) rfl (by kernel_rfl) (by kernel_rfl) (by kernel_rfl) (by kernel_rfl) (by kernel_rfl) (by decide) (Or.inl ⟨by rfl, fun w' hSw => ?_⟩) (by assumption) ?_
          rotate_left
          · go_simp
            with_reducible rfl
          simp only [Act.put, List.setIfInBounds_toArray, List.set_cons_zero, List.set_cons_succ]
          refine seqz_take (v := ?_) rfl (by kernel_rfl) (by kernel_rfl) (by kernel_rfl) (by kernel_rfl) (by kernel_rfl) (by decide) (Or.inl ⟨by rfl, fun w' hSw => ?_⟩) (by assumption) ?_
          rotate_left
          · go_simp
            with_reducible rfl
          simp only [Act.put, List.setIfInBounds_toArray, List.set_cons_zero, List.set_cons_succ]
          refine seqz_take (v := ?_) rfl (by kernel_rfl) (by kernel_rfl) (by kernel_rfl) (by kernel_rfl) (by kernel_rfl) (by decide) (Or.inl ⟨by rfl, fun w' hSw => ?_⟩) (by assumption) ?_
          rotate_left
          · go_simp
            with_reducible rfl
          simp only [Act.put, List.setIfInBounds_toArray, List.set_cons_zero, List.set_cons_succ]
          refine seqz_take (v := ?_) rfl (by kernel_rfl) (by kernel_rfl) (by kernel_rfl) (by kernel_rfl) (by kernel_rfl) (by decide) (Or.inl ⟨by rfl, fun w' hSw => ?_⟩) (by assumption) ?_
          rotate_left
          · go_simp
            with_reducible rfl
          simp only [Act.put, List.setIfInBounds_toArray, List.set_cons_zero, List.set_cons_succ]
          refine seqz_take (v := ?_) rfl (by kernel_rfl) (by kernel_rfl) (by kernel_rfl) (by kernel_rfl) (by kernel_rfl) (by decide) (Or.inl ⟨by rfl, fun w' hSw => ?_⟩) (by assumption) ?_
          rotate_left
          · go_simp
            with_reducible rfl
          simp only [Act.put, List.setIfInBounds_toArray, List.set_cons_zero, List.set_cons_succ]
          refine seqz_take (v := ?_) rfl (by kernel_rfl) (by kernel_rfl) (by kernel_rfl) (by kernel_rfl) (by kernel_rfl) (by decide) (Or.inl ⟨by rfl, fun w' hSw => ?_⟩) (by assumption) ?_
          rotate_left
          · go_simp
            with_reducible rfl
          simp only [Act.put, List.setIfInBounds_toArray, List.set_cons_zero, List.set_cons_succ]
          refine seqz_take (v := ?_) rfl (by kernel_rfl) (by kernel_rfl) (by kernel_rfl) (by kernel_rfl) (by kernel_rfl) (by decide) (Or.inl ⟨by rfl, fun w' hSw => ?_⟩) (by assumption) ?_
          rotate_left
          · go_simp
            with_reducible rfl
          simp only [Act.put, List.setIfInBounds_toArray, List.set_cons_zero, List.set_cons_succ]
          refine seqz_take (v := ?_) rfl (by kernel_rfl) (by kernel_rfl) (by kernel_rfl) (by kernel_rfl) (by kernel_rfl) (by decide) (Or.inl ⟨by rfl, fun w' hSw => ?_⟩) (by assumption) ?_
          rotate_left
          · go_simp
            with_reducible rfl
          simp only [Act.put, List.setIfInBounds_toArray, List.set_cons_zero, List.set_cons_succ]
          refine seqz_take (v := ?_) rfl (by kernel_rfl) (by kernel_rfl) (by kernel_rfl) (by kernel_rfl) (by kernel_rfl) (by decide) (Or.inl ⟨by rfl, fun w' hSw => ?_⟩) (by assumption) ?_
          rotate_left
          · go_simp
            with_reducible rfl
          simp only [Act.put, List.setIfInBounds_toArray, List.set_cons_zero, List.set_cons_succ]
          refine seqz_take (v := ?_) rfl (by kernel_rfl) (by kernel_rfl) (by kernel_rfl) (by kernel_rfl) (by kernel_rfl) (by decide) (Or.inl ⟨by rfl, fun w' hSw => ?_⟩) (by assumption) ?_
          rotate_left
          · go_simp
            with_reducible rfl
          simp only [Act.put, List.setIfInBounds_toArray, List.set_cons_zero, List.set_cons_succ]
          refine seqz_take (v := ?_) rfl (by kernel_rfl) (by kernel_rfl) (by kernel_rfl) (by kernel_rfl) (by kernel_rfl) (by decide) (Or.inl ⟨by rfl, fun w' hSw => ?_⟩) (by assumption) ?_
          rotate_left
          · go_simp
            with_reducible rfl
          simp only [Act.put, List.setIfInBounds_toArray, List.set_cons_zero, List.set_cons_succ]
          refine seqz_take (v := ?_) rfl (by kernel_rfl) (by kernel_rfl) (by kernel_rfl) (by kernel_rfl) (by kernel_rfl) (by decide) (Or.inl ⟨by rfl, fun w' hSw => ?_⟩) (by assumption) ?_
          rotate_left
          · go_simp
            with_reducible rfl
          simp only [Act.put, List.setIfInBounds_toArray, List.set_cons_zero, List.set_cons_succ]
          refine seqz_take (v := ?_) rfl (by kernel_rfl) (by kernel_rfl) (by kernel_rfl) (by kernel_rfl) (by kernel_rfl) (by decide) (Or.inl ⟨by rfl, fun w' hSw => ?_⟩) (by assumption) ?_
          rotate_left
          · go_simp
            with_reducible rfl
          simp only [Act.put, List.setIfInBounds_toArray, List.set_cons_zero, List.set_cons_succ]
          refine seqz_take (v := ?_) rfl (by kernel_rfl) (by kernel_rfl) (by kernel_rfl) (by kernel_rfl) (by kernel_rfl) (by decide) (Or.inl ⟨by rfl, fun w' hSw => ?_⟩) (by assumption) ?_
          rotate_left
          · go_simp
            with_reducible rfl
          simp only [Act.put, List.setIfInBounds_toArray, List.set_cons_zero, List.set_cons_succ]
          refine seqz_take (v := ?_) rfl (by kernel_rfl) (by kernel_rfl) (by kernel_rfl) (by kernel_rfl) (by kernel_rfl) (by decide) (Or.inl ⟨by rfl, fun w' hSw => ?_⟩) (by assumption) ?_
          rotate_left
          · go_simp
            with_reducible rfl
          simp only [Act.put, List.setIfInBounds_toArray, List.set_cons_zero, List.set_cons_succ]
          refine seqz_take (v := ?_) rfl (by kernel_rfl) (by kernel_rfl) (by kernel_rfl) (by kernel_rfl) (by kernel_rfl) (by decide) (Or.inl ⟨by rfl, fun w' hSw => ?_⟩) (by assumption) ?_
          rotate_left
          · go_simp
            with_reducible rfl
          simp only [Act.put, List.setIfInBounds_toArray, List.set_cons_zero, List.set_cons_succ]
          refine seqz_take (v := ?_) rfl (by kernel_rfl) (by kernel_rfl) (by kernel_rfl) (by kernel_rfl) (by kernel_rfl) (by decide) (Or.inl ⟨by rfl, fun w' hSw => ?_⟩) (by assumption) ?_
          rotate_left
          · go_simp
            with_reducible rfl
          simp only [Act.put, List.setIfInBounds_toArray, List.set_cons_zero, List.set_cons_succ]
          refine seqz_take (v := ?_) rfl (by kernel_rfl) (by kernel_rfl) (by kernel_rfl) (by kernel_rfl) (by kernel_rfl) (by decide) (Or.inl ⟨by rfl, fun w' hSw => ?_⟩) (by assumption) ?_
          rotate_left
          · go_simp
            with_reducible rfl
          simp only [Act.put, List.setIfInBounds_toArray, List.set_cons_zero, List.set_cons_succ]
          refine seqz_take (v := ?_) rfl (by kernel_rfl) (by kernel_rfl) (by kernel_rfl) (by kernel_rfl) (by kernel_rfl) (by decide) (Or.inl ⟨by rfl, fun w' hSw => ?_⟩) (by assumption) ?_
          rotate_left
          · go_simp
            with_reducible rfl
          simp only [Act.put, List.setIfInBounds_toArray, List.set_cons_zero, List.set_cons_succ]
          refine seqz_take (v := ?_) rfl (by kernel_rfl) (by kernel_rfl) (by kernel_rfl) (by kernel_rfl) (by kernel_rfl) (by decide) (Or.inl ⟨by rfl, fun w' hSw => ?_⟩) (by assumption) ?_
          rotate_left
          · go_simp
            with_reducible rfl
          simp only [Act.put, List.setIfInBounds_toArray, List.set_cons_zero, List.set_cons_succ]
          refine seqz_take (v := ?_) rfl (by kernel_rfl) (by kernel_rfl) (by kernel_rfl) (by kernel_rfl) (by kernel_rfl) (by decide) (Or.inl ⟨by rfl, fun w' hSw => ?_⟩) (by assumption) ?_
          rotate_left
          · go_simp
            with_reducible rfl
          simp only [Act.put, List.setIfInBounds_toArray, List.set_cons_zero, List.set_cons_succ]
          refine seqz_take (v := ?_) rfl (by kernel_rfl) (by kernel_rfl) (by kernel_rfl) (by kernel_rfl) (by kernel_rfl) (by decide) (Or.inl ⟨by rfl, fun w' hSw => ?_⟩) (by assumption) ?_
          rotate_left
          · go_simp
            with_reducible rfl
          simp only [Act.put, List.setIfInBounds_toArray, List.set_cons_zero, List.set_cons_succ]
          refine seqz_last rfl (by kernel_rfl) (by rfl) (by kernel_rfl) ?_
          all_goals skip
          have HI := Lib.hid (show St wr.drew ga 56 [] M ∧ RdB wr.drew (some ⟨g, 0, none⟩) Q ∧ Keeps [] w wr.drew ∧ ga < wr.drew.heap.size from ⟨hinv.out.1, hinv.out.2.1, hinv.out.2.2.1.drew, hinv.out.2.2.2⟩)
          clear hinv q1 q2 hS d4 d5 d6 wq wy tx ty t8 tq ej HCE
          generalize wr.drew = V at HI ⊢
          have qa := HI.out.1.cell j HJ.out
          have fa := HI.out.1.frozen j
          obtain ⟨M2, hM2⟩ : ∃ M2, M2 = M.set j (ln M j ^^^ v) := ⟨_, rfl⟩
          have HV := Lib.hid (show St (V.setCell ⟨ga, j, none⟩ (.int .u64 ((ln M j ^^^ v : Nat) : Int))) ga 56 [] M2 ∧ RdB (V.setCell ⟨ga, j, none⟩ (.int .u64 ((ln M j ^^^ v : Nat) : Int))) (some ⟨g, 0, none⟩) Q ∧ Keeps [] w (V.setCell ⟨ga, j, none⟩ (.int .u64 ((ln M j ^^^ v : Nat) : Int))) ∧ ga < (V.setCell ⟨ga, j, none⟩ (.int .u64 ((ln M j ^^^ v : Nat) : Int))).heap.size from by
            have h1 : St (V.setCell ⟨ga, j, none⟩ (.int .u64 ((ln M j ^^^ v : Nat) : Int))) ga 56 [] M2 := by rw [hM2]; exact HI.out.1.set j _ HJ.out
            exact ⟨h1, Rd.keeps HI.out.2.1 (Keeps.at_ _) (fun a ha _ => by cases ha; have := HGA.out.2.1; simp; omega), HI.out.2.2.1.setCell (.inr HGA.out.2.2.1) _, h1.lt⟩)
          have HM2 := Lib.hid (show M2 = tr (xorB L a b.toNat) by rw [HX.out, hM2])
          clear hM2 HI HX
          by_cases hr135 : r = 135
          · have e1 : ((r : Int) == 135) = true := by simp [hr135]
            have HSK := Lib.hid (show (absAll beginK (Q.take (k2 + 1))).1 = turnK (xorB L a b.toNat) by
              rw [HSN.out]; unfold absK; rw [if_pos (by simp only; have := HAR.out; omega)])
            have HWM := Lib.hid (show Wf 25 M2 by rw [HM2.out]; exact HW.out.tr)
            have HC1 := Lib.hid (show (V.setCell ⟨ga, j, none⟩ (.int .u64 ((ln M j ^^^ v : Nat) : Int))).heap[ga]? = some (.cells (encN M2).toArray 56 (0, 0)) by
              have h4 : (V.setCell ⟨ga, j, none⟩ (.int .u64 ((ln M j ^^^ v : Nat) : Int))).heap[ga]? = some (.cells (encN M2 ++ []).toArray 56 (0, 0)) := HV.out.1
              rw [h4, List.append_nil])
            have HI2 := Lib.hid (show (Tryd.prog.info? 56).map (·.size) = some (encN M2).toArray.size by rw [List.size_toArray, length_encN, HWM.out.1]; exact info_ln)
            have HRO := Lib.hid (show (drTo M2 24).1 = tr (turnK (xorB L a b.toNat)) by rw [HM2.out]; exact rounds_tr HW.out)
            obtain ⟨R, hR⟩ : ∃ R, R = tr (turnK (xorB L a b.toNat)) := ⟨_, rfl⟩
            rw [← hR] at HRO
            have HRL := Lib.hid (show R.length = 25 by rw [hR]; exact tr_len _)
            have HRR2 := Lib.hid hR
            have HIR := Lib.hid (show (Tryd.prog.info? 56).map (·.size) = some (encN R).length by rw [length_encN, HRL.out]; exact info_ln)
            clear hr135 hR
            go_wp2_with (refine wpList_load_row rfl 56 (.tmp 8) rfl ga rfl 56 (encN M2).toArray (0, 0) _ HC1.out Tryd.underlying56 rfl HI2.out ?_)
            refine (rounds_any M2 HWM.out _).mono ?_
            rintro e w5 ⟨rfl, hk5⟩
            rw [HRO.out]
            have HV5 := Lib.hid (show w5.heap[ga]? = some (.cells (encN M2).toArray 56 (0, 0)) ∧ RdB w5 (some ⟨g, 0, none⟩) Q ∧ Keeps [] w w5 from ⟨(hk5.block ga HV.out.2.2.2 (by simp)).trans HC1.out, HV.out.2.1.keeps0 hk5, HV.out.2.2.1.trans hk5 (by simp)⟩)
            clear hk5 HC1
            go_wp2_with (refine wpList_store_rowK rfl 56 (.tmp 8) (.tmp 75) rfl ga (encN R) (encN M2) 56 rfl rfl HV5.out.1 (by rw [length_encN, length_encN, HRL.out, HWM.out.1]) HIR.out (encN_one _) ?_; intro w6 h6 hk6)
            go_roundw
            case rel =>
              refine ⟨k2 + 1, HK21.out, by go_num, ?_, HV5.out.2.1.keeps hk6 (fun a ha _ => by cases ha; have := HGA.out.2.1; simp; omega), HV5.out.2.2.trans hk6 (fun t ht => .inr (by simp at ht; have := HGA.out.2.2.1; omega)), lt_of_block h6.out⟩
              rw [HSK.out, ← HRR2.out]
              show _ = _
              rw [List.append_nil]
              exact h6.out
            case measure => have := HK21.out; simp [intOf]; omega
          · have e1 : ((r : Int) == 135) = false := by simp; omega
            have HSK := Lib.hid (show (absAll beginK (Q.take (k2 + 1))).1 = xorB L a b.toNat by
              rw [HSN.out]; unfold absK; rw [if_neg (by simp only; have := HAR.out; omega)])
            clear hr135
            go_wp2_with fail
            go_roundw
            case rel =>
              refine ⟨k2 + 1, HK21.out, by go_num, ?_, HV.out.2.1, HV.out.2.2.1, HV.out.2.2.2⟩
              rw [HSK.out, ← HM2.out]
              exact HV.out.1
            case measure => simp [intOf]; omega
        · have hi : ¬ (k2 : Int) < ((P.length : Nat) : Int) := by omega
          have HKP2 := Lib.hid (show k2 = Q.length by rw [HQL.out]; omega)
          obtain ⟨E, hE⟩ : ∃ E, E = endK (absAll beginK l) s.toNat := ⟨_, rfl⟩
          have HE := Lib.hid (show (absAll beginK (Q.take k2)).1 = E by rw [HKP2.out, List.take_length, HQ.out, padK_end, hE])
          have HL4 := Lib.hid (show Wf 25 E by rw [hE]; exact endK_ok (absAll_ok beginK_ok l) _ (by have := s.toNat_lt; omega))
          have HOUT := Lib.hid (show outK (absAll beginK l) s.toNat n = (sqzTo E n).2 by rw [hE]; rfl)
          have INV := Lib.hid (show St wr ga 56 [] (tr (sqzTo E 0).1) ∧ OwnB 5 wr none 0 [] ∧ Keeps [] w wr ∧ (∀ a, (none : Option Addr) = some a → ga < a.block) ∧ ga < wr.heap.size from by
            have h1 := hinv.out.1
            rw [HE.out] at h1
            exact ⟨by unfold sqzTo; exact h1, OwnB.nil _ _, hinv.out.2.2.1, by simp, hinv.out.2.2.2⟩)
          clear hinv hE hlt hk2
          obtain ⟨wo, rfl⟩ : ∃ wo : World, wo = wr := ⟨_, rfl⟩
          go_wp2_with fail
          go_loopw [11, 12] (fun o i wr => ∃ (k : Nat) (A3 : Option Addr) (c3 : Nat) (x : List UInt8), k ≤ n ∧ Hid (x.length = k) ∧ i = .int .i64 k ∧ o = .slice A3 x.length c3 ∧ Hid (x = (sqzTo E k).2) ∧ Hid (St wr ga 56 [] (tr (sqzTo E k).1) ∧ OwnB 5 wr A3 c3 x ∧ Keeps [] w wr ∧ (∀ a, A3 = some a → ga < a.block) ∧ ga < wr.heap.size)) (fun _ i _ => n - (intOf i).toNat)
          case atStart => exact ⟨0, none, 0, [], Nat.zero_le _, rfl, rfl, rfl, by show _ = _; unfold sqzTo; rfl, INV.out⟩
          case round =>
            clear INV
            obtain ⟨k, A3, c3, x, hk, hlen, rfl, rfl, hl3, hinv⟩ := hrel
            by_cases hlt : k < n
            · have hi : (k : Int) < (n : Int) := by omega
              obtain ⟨M, hM⟩ : ∃ M, M = (sqzTo E k).1 := ⟨_, rfl⟩
              have HM := Lib.hid (show Wf 25 M by rw [hM]; exact sqzTo_ok HL4.out k)
              rw [← hM] at hinv
              obtain ⟨r, hr⟩ : ∃ r, r = k % 136 := ⟨_, rfl⟩
              obtain ⟨q, hq⟩ : ∃ q, q = r / 8 := ⟨_, rfl⟩
              obtain ⟨x5, hx5⟩ : ∃ x, x = q % 5 := ⟨_, rfl⟩
              obtain ⟨y5, hy5⟩ : ∃ x, x = q / 5 := ⟨_, rfl⟩
              obtain ⟨j, hj⟩ : ∃ j, j = x5 * 5 + y5 := ⟨_, rfl⟩
              obtain ⟨m, hm⟩ : ∃ m, m = r % 8 := ⟨_, rfl⟩
              obtain ⟨sh, hsh⟩ : ∃ sh, sh = 8 * m := ⟨_, rfl⟩
              have HSTEP := Lib.hid (show ∀ X, X = sqzL M k → (sqzTo E (k + 1)).1 = X ∧ (sqzTo E (k + 1)).2 = x ++ [UInt8.ofNat (ln X q / 2 ^ sh)] by
                rintro X rfl
                rw [sqzTo_succ, hq, hsh, hm, hr, hl3.out, hM]
                exact ⟨rfl, rfl⟩)
              have HOK := Lib.hid (show Wf 25 (sqzL M k) from sqzL_ok HM.out k)
              have HTR := Lib.hid (show ∀ X : List Nat, (tr X).length = 25 ∧ ln (tr X) j = ln X q from fun X => ⟨tr_len X, by rw [hj, hx5, hy5]; exact tr_ln q (by omega)⟩)
              have tm : (k : Int).tmod 136 = (r : Int) := by rw [Int.tmod_eq_emod_of_nonneg (by omega)]; omega
              have d1 : (r : Int).tdiv 8 = (q : Int) := by rw [Int.tdiv_eq_ediv_of_nonneg (by omega)]; omega
              have tx : (q : Int).tmod 5 = (x5 : Int) := by rw [Int.tmod_eq_emod_of_nonneg (by omega)]; omega
              have ty : (q : Int).tdiv 5 = (y5 : Int) := by rw [Int.tdiv_eq_ediv_of_nonneg (by omega)]; omega
              have d3 : (r : Int).tmod 8 = (m : Int) := by rw [Int.tmod_eq_emod_of_nonneg (by omega)]; omega
              have d4 : IntKind.i64.wrap (8 * (m : Int)) = (sh : Int) := by rw [IntKind.wrap_i64]; omega
              have bx : (x5 : Int) < 5 := by omega
              have by5 : (y5 : Int) < 5 := by omega
              have bq : (q : Int) < 25 := by omega
              have b2 : (sh : Int) < 64 := by omega
              have ej : x5 * 5 + y5 = j := hj.symm
              have HQ := Lib.hid (show j < 25 by omega)
              have hlen' := Lib.hid (And.intro hlen.out hk)
              by_cases hz : r = 0
              · have e1 : ((r : Int) == 0) = true := by simp [hz]
                by_cases hk0 : k = 0
                · have e2 : ¬ (0 < (k : Int)) := by omega
                  have HX := Lib.hid (show M = sqzL M k ∧ Wf 25 M from ⟨by unfold sqzL; rw [if_neg (by omega)], HM.out⟩)
                  have HV := hinv
                  clear hM hl3 hr hq hm hsh hz hk0 hlen hx5 hy5 hj hinv
                  obtain ⟨TX, hTX⟩ : ∃ TX, TX = tr M := ⟨_, rfl⟩
                  have HTX := Lib.hid (show TX.length = 25 ∧ ln TX j = ln M q ∧ TX = tr M from ⟨by rw [hTX]; exact (HTR.out M).1, by rw [hTX]; exact (HTR.out M).2, hTX⟩)
                  rw [← hTX] at HV
                  clear hTX
                  obtain ⟨b, hb⟩ : ∃ b, b = UInt8.ofNat (ln M q / 2 ^ sh) := ⟨_, rfl⟩
                  have dv : ((ln TX j : Nat) : Int) / 2 ^ sh % 256 = ((b.toNat : Nat) : Int) := by rw [HTX.out.2.1, hb]; simp
                  have HB := Lib.hid hb
                  have qc := HV.out.1.cell j (by rw [HTX.out.1]; exact HQ.out)
                  have hlb : x.length ≤ 1048576 := by have := hlen'.out; omega
                  clear hb
                  go_wp2_with (at_builtin; refine wpList_appendB rfl (.tmp 93) (.tmp 107) 35 5 rfl Tryd.underlying35 infoBy A3 c3 x rfl (HV.out.2.1.alloc _) (some ⟨wr.heap.size, 0, none⟩) 1 [b] rfl (RdB.lit wr [b] 5 (0, 0)) (by simp; omega) ?_; intro A4 c4 w4 x4 hx4 ho4 hk4 hb4; have HO4 := Lib.hid ho4; have HK4 := Lib.hid hk4; have HB4 := Lib.hid hb4; clear ho4 hk4 hb4)
                  have HNB := Lib.hid (show ga ∉ blk A3 from fun hm => by
                    obtain ⟨a1, e1, e2⟩ := mem_blk.1 hm
                    have := HV.out.2.2.2.1 a1 e1
                    omega)
                  have HA1 : Keeps (blk A3) wr w4 := ((Keeps.refl _ wr).alloc _).trans HK4.out (fun t ht => .inl ht)
                  have HLL := Lib.hid (show x4.length = k + 1 by rw [hx4.out]; simp [hlen'.out.1])
                  go_roundw
                  case rel =>
                    refine ⟨k + 1, A4, c4, x4, by omega, HLL.out, by go_num, rfl, ?_, ?_, HO4.out, ?_, ?_, ?_⟩
                    · show _ = _
                      rw [hx4.out, (HSTEP.out _ HX.out.1).2, HB.out]
                    · rw [(HSTEP.out _ HX.out.1).1, ← HTX.out.2.2]
                      exact HV.out.1.keeps HA1 HNB.out
                    · exact HV.out.2.2.1.fresh HA1 (fun a ha => by have := HV.out.2.2.2.1 a ha; have := HGA.out.2.2.1; omega)
                    · intro a ha
                      rcases HB4.out a ha with h | h
                      · obtain ⟨a1, e1, e2⟩ := mem_blk.1 h
                        have := HV.out.2.2.2.1 a1 e1
                        omega
                      · have := HV.out.2.2.2.2
                        simp at h
                        omega
                    · have := HA1.size
                      have := HV.out.2.2.2.2
                      omega
                  case measure => simp [intOf]; omega
                · have e2 : 0 < (k : Int) := by omega
                  obtain ⟨X, hX⟩ : ∃ X, X = turnK M := ⟨_, rfl⟩
                  have HX := Lib.hid (show X = sqzL M k ∧ Wf 25 X from ⟨by unfold sqzL; rw [if_pos (by omega), hX], by rw [hX]; exact HM.out.turnK⟩)
                  obtain ⟨TX, hTX⟩ : ∃ TX, TX = tr X := ⟨_, rfl⟩
                  obtain ⟨TM, hTM⟩ : ∃ TM, TM = tr M := ⟨_, rfl⟩
                  have HTX := Lib.hid (show TX.length = 25 ∧ ln TX j = ln X q ∧ TX = tr X from ⟨by rw [hTX]; exact (HTR.out X).1, by rw [hTX]; exact (HTR.out X).2, hTX⟩)
                  have HRO := Lib.hid (show (drTo TM 24).1 = TX by rw [hTM, hTX, hX]; exact rounds_tr HM.out)
                  have HTMW := Lib.hid (show Wf 25 TM by rw [hTM]; exact HM.out.tr)
                  rw [← hTM] at hinv
                  have HC1 := Lib.hid (show wr.heap[ga]? = some (.cells (encN TM).toArray 56 (0, 0)) by
                    have h4 : wr.heap[ga]? = some (.cells (encN TM ++ []).toArray 56 (0, 0)) := hinv.out.1
                    rw [h4, List.append_nil])
                  have HI2 := Lib.hid (show (Tryd.prog.info? 56).map (·.size) = some (encN TM).toArray.size by rw [List.size_toArray, length_encN, HTMW.out.1]; exact info_ln)
                  have HIR := Lib.hid (show (Tryd.prog.info? 56).map (·.size) = some (encN TX).length by rw [length_encN, HTX.out.1]; exact info_ln)
                  clear hM hl3 hr hq hm hsh hz hk0 hlen hx5 hy5 hj hX hTX hTM
                  go_wp2_with (refine wpList_load_row rfl 56 (.tmp 8) rfl ga rfl 56 (encN TM).toArray (0, 0) _ HC1.out Tryd.underlying56 rfl HI2.out ?_)
                  refine (rounds_any TM HTMW.out _).mono ?_
                  rintro e w5 ⟨rfl, hk5⟩
                  rw [HRO.out]
                  have HV5 := Lib.hid (show w5.heap[ga]? = some (.cells (encN TM).toArray 56 (0, 0)) ∧ OwnB 5 w5 A3 c3 x ∧ Keeps [] w w5 from ⟨(hk5.block ga hinv.out.2.2.2.2 (by simp)).trans HC1.out, hinv.out.2.1.keeps0 hk5, hinv.out.2.2.1.trans hk5 (by simp)⟩)
                  have HFR := Lib.hid hinv.out.2.2.2.1
                  clear hk5 HC1 hinv
                  go_wp2_with (first
                    | (refine wpList_store_rowK rfl 56 (.tmp 8) (.tmp 89) rfl ga (encN TX) (encN TM) 56 rfl rfl HV5.out.1 (by rw [length_encN, length_encN, HTX.out.1, HTMW.out.1]) HIR.out (encN_one _) ?_
                       intro w6 h6 hk6
                       have HV := Lib.hid (show St w6 ga 56 [] TX ∧ OwnB 5 w6 A3 c3 x ∧ Keeps [] w w6 ∧ (∀ a, A3 = some a → ga < a.block) ∧ ga < w6.heap.size from
                         ⟨by show _ = _; rw [List.append_nil]; exact h6.out, HV5.out.2.1.keeps hk6 (fun a ha => by have := HFR.out a ha; simp; omega), HV5.out.2.2.trans hk6 (fun t ht => .inr (by simp at ht; have := HGA.out.2.2.1; omega)), HFR.out, lt_of_block h6.out⟩)
                       clear h6 hk6 HV5
                       obtain ⟨b, hb⟩ : ∃ b, b = UInt8.ofNat (ln X q / 2 ^ sh) := ⟨_, rfl⟩
                       have dv : ((ln TX j : Nat) : Int) / 2 ^ sh % 256 = ((b.toNat : Nat) : Int) := by rw [HTX.out.2.1, hb]; simp
                       have HB := Lib.hid hb
                       have qc := HV.out.1.cell j (by rw [HTX.out.1]; exact HQ.out)
                       have hlb : x.length ≤ 1048576 := by have := hlen'.out; omega
                       clear hb)
                    | (at_builtin; refine wpList_appendB rfl (.tmp 93) (.tmp 107) 35 5 rfl Tryd.underlying35 infoBy A3 c3 x rfl (HV.out.2.1.alloc _) (some ⟨w6.heap.size, 0, none⟩) 1 [b] rfl (RdB.lit w6 [b] 5 (0, 0)) (by simp; omega) ?_; intro A4 c4 w4 x4 hx4 ho4 hk4 hb4; have HO4 := Lib.hid ho4; have HK4 := Lib.hid hk4; have HB4 := Lib.hid hb4; clear ho4 hk4 hb4))
                  have HNB := Lib.hid (show ga ∉ blk A3 from fun hm => by
                    obtain ⟨a1, e1, e2⟩ := mem_blk.1 hm
                    have := HV.out.2.2.2.1 a1 e1
                    omega)
                  have HA1 : Keeps (blk A3) w6 w4 := ((Keeps.refl _ w6).alloc _).trans HK4.out (fun t ht => .inl ht)
                  have HLL := Lib.hid (show x4.length = k + 1 by rw [hx4.out]; simp [hlen'.out.1])
                  go_roundw
                  case rel =>
                    refine ⟨k + 1, A4, c4, x4, by omega, HLL.out, by go_num, rfl, ?_, ?_, HO4.out, ?_, ?_, ?_⟩
                    · show _ = _
                      rw [hx4.out, (HSTEP.out _ HX.out.1).2, HB.out]
                    · rw [(HSTEP.out _ HX.out.1).1, ← HTX.out.2.2]
                      exact HV.out.1.keeps HA1 HNB.out
                    · exact HV.out.2.2.1.fresh HA1 (fun a ha => by have := HV.out.2.2.2.1 a ha; have := HGA.out.2.2.1; omega)
                    · intro a ha
                      rcases HB4.out a ha with h | h
                      · obtain ⟨a1, e1, e2⟩ := mem_blk.1 h
                        have := HV.out.2.2.2.1 a1 e1
                        omega
                      · have := HV.out.2.2.2.2
                        simp at h
                        omega
                    · have := HA1.size
                      have := HV.out.2.2.2.2
                      omega
                  case measure => simp [intOf]; omega
              · have e1 : ((r : Int) == 0) = false := by simp [hz]
                have e2 : 0 < (k : Int) := by omega
                have HX := Lib.hid (show M = sqzL M k ∧ Wf 25 M from ⟨by unfold sqzL; rw [if_neg (by omega)], HM.out⟩)
                have HV := hinv
                clear hM hl3 hr hq hm hsh hz hlen hx5 hy5 hj hinv
                obtain ⟨TX, hTX⟩ : ∃ TX, TX = tr M := ⟨_, rfl⟩
                have HTX := Lib.hid (show TX.length = 25 ∧ ln TX j = ln M q ∧ TX = tr M from ⟨by rw [hTX]; exact (HTR.out M).1, by rw [hTX]; exact (HTR.out M).2, hTX⟩)
                rw [← hTX] at HV
                clear hTX
                obtain ⟨b, hb⟩ : ∃ b, b = UInt8.ofNat (ln M q / 2 ^ sh) := ⟨_, rfl⟩
                have dv : ((ln TX j : Nat) : Int) / 2 ^ sh % 256 = ((b.toNat : Nat) : Int) := by rw [HTX.out.2.1, hb]; simp
                have HB := Lib.hid hb
                have qc := HV.out.1.cell j (by rw [HTX.out.1]; exact HQ.out)
                have hlb : x.length ≤ 1048576 := by have := hlen'.out; omega
                clear hb
                go_wp2_with (at_builtin; refine wpList_appendB rfl (.tmp 93) (.tmp 107) 35 5 rfl Tryd.underlying35 infoBy A3 c3 x rfl (HV.out.2.1.alloc _) (some ⟨wr.heap.size, 0, none⟩) 1 [b] rfl (RdB.lit wr [b] 5 (0, 0)) (by simp; omega) ?_; intro A4 c4 w4 x4 hx4 ho4 hk4 hb4; have HO4 := Lib.hid ho4; have HK4 := Lib.hid hk4; have HB4 := Lib.hid hb4; clear ho4 hk4 hb4)
                have HNB := Lib.hid (show ga ∉ blk A3 from fun hm => by
                  obtain ⟨a1, e1, e2⟩ := mem_blk.1 hm
                  have := HV.out.2.2.2.1 a1 e1
                  omega)
                have HA1 : Keeps (blk A3) wr w4 := ((Keeps.refl _ wr).alloc _).trans HK4.out (fun t ht => .inl ht)
                have HLL := Lib.hid (show x4.length = k + 1 by rw [hx4.out]; simp [hlen'.out.1])
                go_roundw
                case rel =>
                  refine ⟨k + 1, A4, c4, x4, by omega, HLL.out, by go_num, rfl, ?_, ?_, HO4.out, ?_, ?_, ?_⟩
                  · show _ = _
                    rw [hx4.out, (HSTEP.out _ HX.out.1).2, HB.out]
                  · rw [(HSTEP.out _ HX.out.1).1, ← HTX.out.2.2]
                    exact HV.out.1.keeps HA1 HNB.out
                  · exact HV.out.2.2.1.fresh HA1 (fun a ha => by have := HV.out.2.2.2.1 a ha; have := HGA.out.2.2.1; omega)
                  · intro a ha
                    rcases HB4.out a ha with h | h
                    · obtain ⟨a1, e1, e2⟩ := mem_blk.1 h
                      have := HV.out.2.2.2.1 a1 e1
                      omega
                    · have := HV.out.2.2.2.2
                      simp at h
                      omega
                  · have := HA1.size
                    have := HV.out.2.2.2.2
                    omega
                case measure => simp [intOf]; omega
            · have hi : ¬ (k : Int) < (n : Int) := by omega
              have HKN := Lib.hid (show k = n by omega)
              clear hlt
              go_wp2_with fail
              go_ret
              obtain ⟨_, h2, h3, h4, _⟩ := hinv.out
              refine ⟨A3, c3, x, ?_, rfl, h2, fun a ha => by have := h4 a ha; have := HGA.out.2.2.1; omega, h3⟩
              show _ = _
              rw [HOUT.out, hl3.out, HKN.out]
    · have e1 : ((r : Int) == 0) = false := by simp [hz]
      have e1' : ((r : Int) != 0) = true := by simp [hz]
      have HKN := Lib.hid (show k < padN (l.length + 1) by have := hlen.out; unfold padN at hk ⊢; omega)
      clear hz hr hk
      go_wp2_with (at_builtin; refine wpList_appendB rfl (.tmp 24) (.tmp 25) 35 5 rfl Tryd.underlying35 infoBy A' c' P rfl (hinv.out.1.alloc _) (some ⟨wr.heap.size, 0, none⟩) 1 [0] rfl (RdB.lit wr [0] 5 (0, 0)) (by simp; omega) ?_; intro A3 c3 w3 P3 hP3 ho3 hk3 hb3; have HO3 := Lib.hid ho3; have HK3 := Lib.hid hk3; have HB3 := Lib.hid hb3; clear ho3 hk3 hb3)
      have HP3 := Lib.hid (show P3.length = l.length + 1 + (k + 1) by rw [hP3.out, List.length_append, hlen.out]; rfl)
      have HA1 : Keeps (blk A') wr w3 := ((Keeps.refl _ wr).alloc _).trans HK3.out (fun t ht => .inl ht)
      go_roundw
      case rel =>
        refine ⟨k + 1, A3, c3, P3, HKN.out, HP3.out, rfl, ?_, HO3.out, hinv.out.2.1.fresh HA1 hinv.out.2.2, fresh_append HB3.out hinv.out.2.2 (by have := hinv.out.2.1.size; simp; omega)⟩
        show _ = _
        rw [hP3.out, hP.out, List.replicate_succ']; simp
      case measure => simp [lenOf]; have := HP3.out; have := hlen.out; have := HKN.out; have := HPN.out; omega
end Go.Proofs.YtomleanoofoejaaDoor
