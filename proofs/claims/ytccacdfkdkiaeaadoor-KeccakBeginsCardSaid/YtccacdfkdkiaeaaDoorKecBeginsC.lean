/- The law on begins: called with any bytes and any two numbers it answers true. -/
import Derived.Test.YtccacdfkdkiaeaaDoorKecSureC
import Derived.Test.YtccacdfkdkiaeaaDoorSec
namespace Go.Proofs.YtccacdfkdkiaeaaDoor
open Go.RowKit
attribute [local irreducible] turnK outK absAll hexAll endK

theorem sqzTo_begin (L : List Nat) (n k : Nat) : ∃ t, (sqzTo L (n + k)).2 = (sqzTo L n).2 ++ t := by
  induction k with
  | zero => exact ⟨[], by simp⟩
  | succ k ih =>
    obtain ⟨t, ht⟩ := ih
    refine ⟨t ++ [byteK (sqzL (sqzTo L (n + k)).1 (n + k)) ((n + k) % 136)], ?_⟩
    rw [← Nat.add_assoc, sqzTo_succ]
    show (sqzTo L (n + k)).2 ++ _ = _
    rw [ht, List.append_assoc]
theorem outK_begin (s : List Nat × Nat) (kind n k : Nat) : (outK s kind (n + k)).take n = outK s kind n := by
  unfold outK
  obtain ⟨t, ht⟩ := sqzTo_begin (endK s kind) n k
  rw [ht, List.take_append_of_le_length (by rw [sqzTo_len]; exact Nat.le_refl _), List.take_of_length_le (by rw [sqzTo_len]; exact Nat.le_refl _)]
theorem infoBs : (Tryd.prog.info? 5).map (·.size) = some 1 := by kernel_rfl
theorem OwnB.cap {E : TypeId} {w : World} {A : Option Addr} {c : Nat} {l : List UInt8} (h : OwnB E w A c l) : l.length ≤ c := by
  rcases h.2 with ⟨h1, h0⟩ | ⟨g, cap, cur, h1, hle, hh, hnc, hcm, hcs, _⟩
  · rw [h0]; exact Nat.zero_le _
  · injection h1 with e1 e2 e3
    subst e3
    first | exact hle | exact hnc
theorem cut500 (n : Int) :
    ∃ i : Nat, i < 500 ∧ wrap64 ((IntKind.u64.wrap n).tmod 500) = (i : Int) := by
  have hw : IntKind.u64.wrap n = n % 18446744073709551616 := IntKind.wrap_u64 n
  rw [hw, IntWalk.rem_in _ _ (by omega)]
  have : 0 ≤ n % 18446744073709551616 % 500 ∧ n % 18446744073709551616 % 500 < 500 := by omega
  refine ⟨(n % 18446744073709551616 % 500).toNat, by omega, ?_⟩
  rw [IntWalk.wrap64_in _ (by omega)]
  omega
theorem shakeK_nat (l : List UInt8) (i : Nat) (h : i ≤ 1048576) : shakeK l i = (outK (absAll beginK l) 31 i, 0) := by
  unfold shakeK
  rw [if_neg (by omega), if_neg (by omega)]
  rfl

set_option maxHeartbeats 1000000 in
theorem law_any (A : Option Addr) (l : List UInt8) (c : Nat) (n m : Int) (w : World) (hc : Con w) (hl : l.length ≤ 140737488351232) (hr : RdB w A l) (hA : ∀ a, A = some a → 0 < l.length → a.block < w.heap.size) :
    Calls Tryd.prog 6 #[.slice A l.length c, .int .i64 n, .int .i64 m] w fun e w' => e = .returned (.bool true) ∧ Keeps [] w w' := by
  obtain ⟨i, hi, hi'⟩ := cut500 n
  obtain ⟨k, hk, hk'⟩ := cut500 m
  have HC := Lib.hid hc
  have HR := Lib.hid hr
  have HA := Lib.hid hA
  have HKN := Lib.hid (And.intro hi hk)
  clear hc hr hA
  by_cases hbig : 2000 < l.length
  · have hb : (2000 : Int) < (l.length : Int) := by omega
    go_enter Tryd.func6, Tryd.ntmps6
    go_wp2_with fail
    refine (sure_any w HC.out).mono ?_
    rintro e w1 ⟨rfl, hk1⟩
    go_wp2_with fail
    go_ret
    exact ⟨rfl, hk1⟩
  · have hb : ¬ (2000 : Int) < (l.length : Int) := by omega
    go_enter Tryd.func6, Tryd.ntmps6
    go_wp2_with fail
    refine (kshake_any A l c i w HC.out hl HR.out HA.out).mono ?_
    rw [shakeK_nat l i (by omega)]
    rintro e w1 ⟨A1, c1, x, hx, rfl, ho1, hn1, hk1⟩
    rw [errV_zero]
    have H1 := Lib.hid (And.intro ho1 (And.intro hn1 hk1))
    clear ho1 hn1 hk1
    go_wp2_with fail
    refine (kshake_any A l c ((i + k : Nat) : Int) w1 (HC.out.keeps H1.out.2.2 (by simp)) hl (HR.out.keeps0 H1.out.2.2) (fun a ha hp => Nat.lt_of_lt_of_le (HA.out a ha hp) H1.out.2.2.size)).mono ?_
    rw [shakeK_nat l (i + k) (by omega)]
    rintro e w2 ⟨A2, c2, y, hy, rfl, ho2, hn2, hk2⟩
    rw [errV_zero]
    have HXL := Lib.hid (show x.length = i by rw [hx.out]; exact outK_len _ _ _)
    have HYL := Lib.hid (show y.length = i + k by rw [hy.out]; exact outK_len _ _ _)
    have HXY := Lib.hid (show y.take i = x by rw [hx.out, hy.out]; exact outK_begin _ _ _ _)
    have H2 := Lib.hid (And.intro ho2.rd (And.intro (H1.out.1.rd.keeps0 hk2) (H1.out.2.2.trans hk2 (by simp))))
    have hcap := ho2.cap
    clear ho2 hn2 hk2
    have b1 : (x.length : Int) = (i : Int) := by rw [HXL.out]
    have b2 : (y.length : Int) = (i : Int) + (k : Int) := by rw [HYL.out]; simp
    have HCAP := Lib.hid hcap
    clear hcap
    have HRH := Lib.hid (show RdB w2 A2 x by have h0 := H2.out.1.head i (by rw [HYL.out]; omega); rwa [HXY.out] at h0)
    have F1 := conv_keeps (P := Tryd.prog) (dst := 9) Tryd.underlying22 Tryd.underlying5 Tryd.underlying9 H2.out.2.1 c1
    have F2 := conv_keeps (P := Tryd.prog) (dst := 9) Tryd.underlying22 Tryd.underlying5 Tryd.underlying9 HRH.out c2
    go_wp2_with fail
    have b4 : IntKind.i64.wrap ((i : Int) + (k : Int)) = (i : Int) + (k : Int) := by rw [IntKind.wrap_i64]; omega
    refine seq_start (by kernel_rfl) (fun z => Keeps [] w2 z) 33 [0, 1, 2, 3, 4, 5, 6, 7, 8, 9, 10, 11, 12, 13, 14, 15, 16, 17, 18, 19, 20, 21, 22, 23, 24, 25, 26, 27, 28, 29, 30, 31, 32] rfl ((Keeps.refl [] w2).drew) (fun hS => ?_)
    have HI := Lib.hid (show Keeps [] w w2.drew ∧ Keeps [] w2 w2.drew from ⟨H2.out.2.2.drew, (Keeps.refl [] w2).drew⟩)
    generalize w2.drew = V at HI hS ⊢
    refine seq_take (v := ?_) rfl (by kernel_rfl) (by kernel_rfl) (by kernel_rfl) (Or.inl ⟨by rfl, fun w' hSw => ?_⟩) (by assumption) ?_
    rotate_left
    · go_simp
      with_reducible rfl
    simp only [Act.put, List.setIfInBounds_toArray, List.set_cons_zero, List.set_cons_succ]
    refine seq_take (v := ?_) rfl (by kernel_rfl) (by kernel_rfl) (by kernel_rfl) (Or.inl ⟨by rfl, fun w' hSw => ?_⟩) (by assumption) ?_
    rotate_left
    · go_simp
      with_reducible rfl
    simp only [Act.put, List.setIfInBounds_toArray, List.set_cons_zero, List.set_cons_succ]
    refine seq_take (v := ?_) rfl (by kernel_rfl) (by kernel_rfl) (by kernel_rfl) (Or.inl ⟨by rfl, fun w' hSw => ?_⟩) (by assumption) ?_
    rotate_left
    · go_simp
      with_reducible rfl
    simp only [Act.put, List.setIfInBounds_toArray, List.set_cons_zero, List.set_cons_succ]
    refine seq_take (v := ?_) rfl (by kernel_rfl) (by kernel_rfl) (by kernel_rfl) (Or.inl ⟨by rfl, fun w' hSw => ?_⟩) (by assumption) ?_
    rotate_left
    · go_simp
      with_reducible rfl
    simp only [Act.put, List.setIfInBounds_toArray, List.set_cons_zero, List.set_cons_succ]
    refine seq_take (v := ?_) rfl (by kernel_rfl) (by kernel_rfl) (by kernel_rfl) (Or.inl ⟨by rfl, fun w' hSw => ?_⟩) (by assumption) ?_
    rotate_left
    · go_simp
      with_reducible rfl
    simp only [Act.put, List.setIfInBounds_toArray, List.set_cons_zero, List.set_cons_succ]
    refine seq_take (v := ?_) rfl (by kernel_rfl) (by kernel_rfl) (by kernel_rfl) (Or.inl ⟨by rfl, fun w' hSw => ?_⟩) (by assumption) ?_
    rotate_left
    · go_simp
      with_reducible rfl
    simp only [Act.put, List.setIfInBounds_toArray, List.set_cons_zero, List.set_cons_succ]
    refine seq_take (v := ?_) rfl (by kernel_rfl) (by kernel_rfl) (by kernel_rfl) (Or.inl ⟨by rfl, fun w' hSw => ?_⟩) (by assumption) ?_
    rotate_left
    · go_simp
      with_reducible rfl
    simp only [Act.put, List.setIfInBounds_toArray, List.set_cons_zero, List.set_cons_succ]
    refine seq_take (v := ?_) rfl (by kernel_rfl) (by kernel_rfl) (by kernel_rfl) (Or.inl ⟨by rfl, fun w' hSw => ?_⟩) (by assumption) ?_
    rotate_left
    · go_simp
      with_reducible rfl
    simp only [Act.put, List.setIfInBounds_toArray, List.set_cons_zero, List.set_cons_succ]
    refine seq_take (v := ?_) rfl (by kernel_rfl) (by kernel_rfl) (by kernel_rfl) (Or.inl ⟨by rfl, fun w' hSw => ?_⟩) (by assumption) ?_
    rotate_left
    · go_simp
      with_reducible rfl
    simp only [Act.put, List.setIfInBounds_toArray, List.set_cons_zero, List.set_cons_succ]
    refine seq_take (v := ?_) rfl (by kernel_rfl) (by kernel_rfl) (by kernel_rfl) (Or.inl ⟨by rfl, fun w' hSw => ?_⟩) (by assumption) ?_
    rotate_left
    · go_simp
      with_reducible rfl
    simp only [Act.put, List.setIfInBounds_toArray, List.set_cons_zero, List.set_cons_succ]
    refine seq_take (v := ?_) rfl (by kernel_rfl) (by kernel_rfl) (by kernel_rfl) (Or.inl ⟨by rfl, fun w' hSw => ?_⟩) (by assumption) ?_
    rotate_left
    · go_simp
      with_reducible rfl
    simp only [Act.put, List.setIfInBounds_toArray, List.set_cons_zero, List.set_cons_succ]
    refine seq_take (v := ?_) rfl (by kernel_rfl) (by kernel_rfl) (by kernel_rfl) (Or.inl ⟨by rfl, fun w' hSw => ?_⟩) (by assumption) ?_
    rotate_left
    · go_simp
      with_reducible rfl
    simp only [Act.put, List.setIfInBounds_toArray, List.set_cons_zero, List.set_cons_succ]
    refine seq_take (v := ?_) rfl (by kernel_rfl) (by kernel_rfl) (by kernel_rfl) (Or.inl ⟨by rfl, fun w' hSw => ?_⟩) (by assumption) ?_
    rotate_left
    · go_simp
      with_reducible rfl
    simp only [Act.put, List.setIfInBounds_toArray, List.set_cons_zero, List.set_cons_succ]
    refine seq_take (v := ?_) rfl (by kernel_rfl) (by kernel_rfl) (by kernel_rfl) (Or.inl ⟨by rfl, fun w' hSw => ?_⟩) (by assumption) ?_
    rotate_left
    · go_simp
      with_reducible rfl
    simp only [Act.put, List.setIfInBounds_toArray, List.set_cons_zero, List.set_cons_succ]
    refine seq_take (v := ?_) rfl (by kernel_rfl) (by kernel_rfl) (by kernel_rfl) (Or.inl ⟨by rfl, fun w' hSw => ?_⟩) (by assumption) ?_
    rotate_left
    · go_simp
      with_reducible rfl
    simp only [Act.put, List.setIfInBounds_toArray, List.set_cons_zero, List.set_cons_succ]
    refine seq_take (v := ?_) rfl (by kernel_rfl) (by kernel_rfl) (by kernel_rfl) (Or.inl ⟨by rfl, fun w' hSw => ?_⟩) (by assumption) ?_
    rotate_left
    · go_simp
      with_reducible rfl
    simp only [Act.put, List.setIfInBounds_toArray, List.set_cons_zero, List.set_cons_succ]
    refine seq_take (v := ?_) rfl (by kernel_rfl) (by kernel_rfl) (by kernel_rfl) (Or.inl ⟨by rfl, fun w' hSw => ?_⟩) (by assumption) ?_
    rotate_left
    · go_simp
      with_reducible rfl
    simp only [Act.put, List.setIfInBounds_toArray, List.set_cons_zero, List.set_cons_succ]
    refine seq_take (v := ?_) rfl (by kernel_rfl) (by kernel_rfl) (by kernel_rfl) (Or.inl ⟨by rfl, fun w' hSw => ?_⟩) (by assumption) ?_
    rotate_left
    · go_simp
      with_reducible rfl
    simp only [Act.put, List.setIfInBounds_toArray, List.set_cons_zero, List.set_cons_succ]
    refine seq_take (v := ?_) rfl (by kernel_rfl) (by kernel_rfl) (by kernel_rfl) (Or.inl ⟨by rfl, fun w' hSw => ?_⟩) (by assumption) ?_
    rotate_left
    · go_simp
      with_reducible rfl
    simp only [Act.put, List.setIfInBounds_toArray, List.set_cons_zero, List.set_cons_succ]
    refine seq_take (v := ?_) rfl (by kernel_rfl) (by kernel_rfl) (by kernel_rfl) (Or.inl ⟨by rfl, fun w' hSw => ?_⟩) (by assumption) ?_
    rotate_left
    · go_simp
      with_reducible rfl
    simp only [Act.put, List.setIfInBounds_toArray, List.set_cons_zero, List.set_cons_succ]
    refine seq_take (v := ?_) rfl (by kernel_rfl) (by kernel_rfl) (by kernel_rfl) (Or.inl ⟨by rfl, fun w' hSw => ?_⟩) (by assumption) ?_
    rotate_left
    · go_simp
      with_reducible rfl
    simp only [Act.put, List.setIfInBounds_toArray, List.set_cons_zero, List.set_cons_succ]
    refine seq_take (v := ?_) rfl (by kernel_rfl) (by kernel_rfl) (by kernel_rfl) (Or.inl ⟨by rfl, fun w' hSw => ?_⟩) (by assumption) ?_
    rotate_left
    · go_simp
      with_reducible rfl
    simp only [Act.put, List.setIfInBounds_toArray, List.set_cons_zero, List.set_cons_succ]
    refine seq_take (v := ?_) rfl (by kernel_rfl) (by kernel_rfl) (by kernel_rfl) (Or.inl ⟨by rfl, fun w' hSw => ?_⟩) (by assumption) ?_
    rotate_left
    · go_simp
      with_reducible rfl
    simp only [Act.put, List.setIfInBounds_toArray, List.set_cons_zero, List.set_cons_succ]
    refine seq_take (v := .slice A2 x.length c2) rfl (by kernel_rfl) (by kernel_rfl) (by kernel_rfl) ?_ (by assumption) ?_
    · exact yieldsIf_sec (by rfl) 22 (.tmp 60) _ _ _ (by rfl) Tryd.underlying22 infoBs A2 y.length c2 0 i c2 (by rfl) .no (.at_ (k := .i64) (by rfl)) .no (Nat.zero_le _) (by have := HCAP.out; have := HYL.out; omega) (Nat.le_refl _) (by simp) _ (by rw [secA_zero, HXL.out]; rfl)
    simp only [Act.put, List.setIfInBounds_toArray, List.set_cons_zero, List.set_cons_succ]
    refine seq_take (v := ?_) rfl (by kernel_rfl) (by kernel_rfl) (by kernel_rfl) (Or.inl ⟨by rfl, fun w' hSw => ?_⟩) (by assumption) ?_
    rotate_left
    · go_simp
      with_reducible rfl
    simp only [Act.put, List.setIfInBounds_toArray, List.set_cons_zero, List.set_cons_succ]
    refine seq_take (v := ?_) rfl (by kernel_rfl) (by kernel_rfl) (by kernel_rfl) (Or.inl ⟨by rfl, fun w' hSw => ?_⟩) (by assumption) ?_
    rotate_left
    · go_simp
      with_reducible rfl
    simp only [Act.put, List.setIfInBounds_toArray, List.set_cons_zero, List.set_cons_succ]
    refine seq_take (v := ?_) rfl (by kernel_rfl) (by kernel_rfl) (by kernel_rfl) (Or.inl ⟨by rfl, fun w' hSw => ?_⟩) (by assumption) ?_
    rotate_left
    · go_simp
      with_reducible rfl
    simp only [Act.put, List.setIfInBounds_toArray, List.set_cons_zero, List.set_cons_succ]
    refine seq_take (v := ?_) rfl (by kernel_rfl) (by kernel_rfl) (by kernel_rfl) (Or.inl ⟨by rfl, fun w' hSw => ?_⟩) (by assumption) ?_
    rotate_left
    · go_simp
      with_reducible rfl
    simp only [Act.put, List.setIfInBounds_toArray, List.set_cons_zero, List.set_cons_succ]
    refine seq_take (v := ?_) rfl (by kernel_rfl) (by kernel_rfl) (by kernel_rfl) (Or.inl ⟨by rfl, fun w' hSw => ?_⟩) (by assumption) ?_
    rotate_left
    · go_simp
      with_reducible rfl
    simp only [Act.put, List.setIfInBounds_toArray, List.set_cons_zero, List.set_cons_succ]
    refine seq_take (v := ?_) rfl (by kernel_rfl) (by kernel_rfl) (by kernel_rfl) (Or.inl ⟨by rfl, fun w' hSw => ?_⟩) (by assumption) ?_
    rotate_left
    · go_simp
      with_reducible rfl
    simp only [Act.put, List.setIfInBounds_toArray, List.set_cons_zero, List.set_cons_succ]
    refine seq_do rfl (by kernel_rfl) (by rfl) (fun K hK => ?_)
    go_simp
    refine (sure_any V (HC.out.keeps HI.out.1 (by simp))).mono ?_
    rintro e w3 ⟨rfl, hk3⟩
    refine hK.out (fun z => Keeps [] w2 z) _ _ (fun _ h => h) (HI.out.2.trans hk3 (by simp)) (fun hS => ?_)
    refine seq_take (v := ?_) rfl (by kernel_rfl) (by kernel_rfl) (by kernel_rfl) (Or.inl ⟨by rfl, fun w' hSw => ?_⟩) (by assumption) ?_
    rotate_left
    · go_simp
      with_reducible rfl
    simp only [Act.put, List.setIfInBounds_toArray, List.set_cons_zero, List.set_cons_succ]
    refine seq_take (v := ?_) rfl (by kernel_rfl) (by kernel_rfl) (by kernel_rfl) (Or.inl ⟨by rfl, fun w' hSw => ?_⟩) (by assumption) ?_
    rotate_left
    · go_simp
      with_reducible rfl
    simp only [Act.put, List.setIfInBounds_toArray, List.set_cons_zero, List.set_cons_succ]
    refine seq_done (by kernel_rfl) ?_
    all_goals skip
    go_wp2_with fail
    go_ret
    exact ⟨rfl, HI.out.1.trans hk3 (by simp)⟩
theorem law_row (A : Option Addr) (l : List UInt8) (c : Nat) (n m : Int) (w : World) (hc : Con w) (hl : l.length ≤ 140737488351232) (hr : RdB w A l) :
    Calls Tryd.prog 6 #[.slice A l.length c, .int .i64 n, .int .i64 m] w fun e w' => e = .returned (.bool true) ∧ Below w.heap.size w w' :=
  (law_any A l c n m w hc hl hr (fun a ha hp => Rd.lt hr (by simpa using hp) ha)).mono fun _ _ h => ⟨h.1, h.2.below (Nat.le_refl _) (by simp)⟩
end Go.Proofs.YtccacdfkdkiaeaaDoor
