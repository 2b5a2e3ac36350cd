/- What the document's reader does with a number: contracts. -/
import Derived.Test.YtljinghhalcnnaaDoorQDeltaReads8
import Derived.Test.YtljinghhalcnnaaDoorQDeltaReads16
import Derived.Test.YtljinghhalcnnaaDoorQDeltaReads9
import Derived.Test.YtljinghhalcnnaaDoorQDeltaReads2
namespace Go.Proofs.YtljinghhalcnnaaDoor
open Go.RowKit

/-! ## The number that bytes begin with -/
theorem lead_step (b : UInt8) (k : Nat) (hk : k < 8) : (256 - 2 ^ (8 - (k + 1)) ≤ b.toNat) ↔ k < lead b := by
  have : ∀ b : Fin 256, ∀ k : Fin 8, (256 - 2 ^ (8 - (k.val + 1)) ≤ b.val) ↔ k.val < 8 - Lib.bitLen (255 - b.val) := by decide +kernel
  exact this ⟨b.toNat, b.toNat_lt⟩ ⟨k, hk⟩
theorem bh_acc (b : UInt8) (t : List UInt8) : bh (acc (tail b) (t.take (lead b))) ≤ lead b := by
  have h8 := lead_le b
  by_cases h : lead b < 8
  · have h1 := acc_lt (tail b) (t.take (lead b)) (2 ^ (7 - lead b)) (lead_tail b h)
    have h2 : 2 ^ (7 - lead b) * 256 ^ (t.take (lead b)).length ≤ 2 ^ (7 * lead b + 7) := by
      have e : (256 : Nat) ^ (t.take (lead b)).length = 2 ^ (8 * (t.take (lead b)).length) := by rw [Nat.pow_mul]
      rw [e, ← Nat.pow_add]
      exact Nat.pow_le_pow_right (by omega) (by simp; omega)
    rcases Nat.lt_or_ge (lead b) (bh (acc (tail b) (t.take (lead b)))) with h3 | h3
    · exfalso
      have h4 := (bh_spec (acc (tail b) (t.take (lead b)))).2 (by omega)
      have h5 : (2 : Nat) ^ (7 * lead b + 7) ≤ 2 ^ (7 * bh (acc (tail b) (t.take (lead b)))) := Nat.pow_le_pow_right (by omega) (by omega)
      omega
    · exact h3
  · have := bh_le (acc (tail b) (t.take (lead b)))
    omega

/-- The document's: a number, how many bytes it has, an error. -/
def RNumP (r : Nat × Nat × Int) (w : World) (e : Ending) (w' : World) : Prop := e = .returned (.tuple #[.int .u64 r.1, .int .i64 r.2.1, .int .i64 r.2.2]) ∧ Keeps [] w w'

theorem refnumber_nil (A : Option Addr) (c : Nat) (w : World) : Calls Tryd.prog 47 #[.slice A 0 c] w (RNumP (numB []) w) := by
  go_enter Tryd.func47, Tryd.ntmps47
  go_wp2_with fail
  refine bodyPost_ret (v := .tuple #[.int .u64 0, .int .i64 0, .int .i64 12]) (by simp [results, Tryd.results47, go_sem]) rfl ⟨rfl, Keeps.refl [] w⟩

set_option maxHeartbeats 2000000 in
theorem refnumber_cons (A : Option Addr) (b : UInt8) (t : List UInt8) (c : Nat) (w : World) (hl : t.length + 1 ≤ 140737488355328) (hr : RdB w A (b :: t)) :
    Calls Tryd.prog 47 #[.slice A (t.length + 1) c] w (RNumP (numB (b :: t)) w) := by
  obtain ⟨g, o, rfl, hcell⟩ := hr.form (by simp)
  have q0 : w.cell? ⟨g, o, none⟩ = some (.int .u8 (b.toNat : Int)) := hcell 0 (by simp)
  have h8 := lead_le b
  have HC := Lib.hid hcell
  have HQ := Lib.hid q0
  clear hcell hr q0
  have hz0 : (((t.length : Int) + 1) == 0) = false := by rw [beq_eq_false_iff_ne]; omega
  go_enter Tryd.func47, Tryd.ntmps47
  go_wp2_with fail
  go_loopw [5] (fun i wr => ∃ k : Nat, k ≤ lead b ∧ i = .int .i64 k ∧ Hid (Keeps [] w wr)) (fun i _ => 8 - (intOf i).toNat)
  case atStart => exact ⟨0, Nat.zero_le _, rfl, Keeps.refl [] w⟩
  case round =>
    obtain ⟨k, hk, rfl, hkr⟩ := hrel
    have hq : ∀ w', Keeps [] wr w' → w'.cell? ⟨g, o, none⟩ = some (.int .u8 (b.toNat : Int)) := fun w' h => (hkr.out.trans h (by simp)).cell HQ.out (by simp)
    by_cases hk8 : k < 8
    · have hk8' : (k : Int) < 8 := by omega
      have hw1 : IntKind.i64.wrap ((k : Int) + 1) = (k : Int) + 1 := by rw [IntKind.wrap_i64]; omega
      have hst := lead_step b k hk8
      obtain ⟨O, hO⟩ : ∃ O, O = 256 - 2 ^ (8 - (k + 1)) := ⟨_, rfl⟩
      rw [← hO] at hst
      have HO := Lib.hid hO
      have HST := Lib.hid hst
      clear hst hO
      by_cases hlt : k < lead b
      · have hge : (O : Int) ≤ (b.toNat : Int) := by have := HST.out.2 hlt; omega
        go_wp2_with fail
        refine seq_start (by kernel_rfl) (fun x => Keeps [] wr x) 11 [0, 1, 2, 3, 4, 5, 6, 7, 8, 9, 10] rfl ((Keeps.refl [] wr).drew) (fun hS => ?_)
        refine seq_take (v := ?_) rfl (by kernel_rfl) (by kernel_rfl) (by kernel_rfl) (Or.inl ⟨by rfl, fun w' hSw => ?_⟩) (by assumption) ?_
        rotate_left
        · go_simp
          with_reducible rfl
        simp only [Act.put, List.setIfInBounds_toArray, List.set_cons_zero, List.set_cons_succ]
        refine seq_take (v := ?_) rfl (by kernel_rfl) (by kernel_rfl) (by kernel_rfl) (Or.inl ⟨by rfl, fun w' hSw => ?_⟩) (by assumption) ?_
        rotate_left
        · go_simp
          with_reducible rfl
        simp only [Act.put, List.setIfInBounds_toArray, List.set_cons_zero, List.set_cons_succ]
        refine seq_take (v := ?_) rfl (by kernel_rfl) (by kernel_rfl) (by kernel_rfl) (Or.inl ⟨by rfl, fun w' hSw => ?_⟩) (by assumption) ?_
        rotate_left
        · go_simp
          with_reducible rfl
        simp only [Act.put, List.setIfInBounds_toArray, List.set_cons_zero, List.set_cons_succ]
        refine seq_take (v := ?_) rfl (by kernel_rfl) (by kernel_rfl) (by kernel_rfl) (Or.inl ⟨by rfl, fun w' hSw => ?_⟩) (by assumption) ?_
        rotate_left
        · go_simp
          with_reducible rfl
        simp only [Act.put, List.setIfInBounds_toArray, List.set_cons_zero, List.set_cons_succ]
        refine seq_take (v := ?_) rfl (by kernel_rfl) (by kernel_rfl) (by kernel_rfl) (Or.inl ⟨by rfl, fun w' hSw => ?_⟩) (by assumption) ?_
        rotate_left
        · go_simp
          with_reducible rfl
        simp only [Act.put, List.setIfInBounds_toArray, List.set_cons_zero, List.set_cons_succ]
        refine seq_take (v := ?_) rfl (by kernel_rfl) (by kernel_rfl) (by kernel_rfl) (Or.inl ⟨by rfl, fun w' hSw => ?_⟩) (by assumption) ?_
        rotate_left
        · go_simp
          with_reducible rfl
        simp only [Act.put, List.setIfInBounds_toArray, List.set_cons_zero, List.set_cons_succ]
        refine seq_take (v := ?_) rfl (by kernel_rfl) (by kernel_rfl) (by kernel_rfl) (Or.inl ⟨by rfl, fun w' hSw => ?_⟩) (by assumption) ?_
        rotate_left
        · go_simp
          with_reducible rfl
        simp only [Act.put, List.setIfInBounds_toArray, List.set_cons_zero, List.set_cons_succ]
        refine seq_take (v := ?_) rfl (by kernel_rfl) (by kernel_rfl) (by kernel_rfl) (Or.inl ⟨by rfl, fun w' hSw => ?_⟩) (by assumption) ?_
        rotate_left
        · go_simp
          with_reducible rfl
        simp only [Act.put, List.setIfInBounds_toArray, List.set_cons_zero, List.set_cons_succ]
        refine seq_do rfl (by kernel_rfl) (by rfl) (fun K hK => ?_)
        go_simp
        have := pkones_any (k + 1) wr.drew (by omega)
        rw [← HO.out, show ((k + 1 : Nat) : Int) = (k : Int) + 1 by omega] at this
        refine this.mono ?_
        rintro e w' ⟨rfl, rfl⟩
        clear this
        refine hK.out (fun x => Keeps [] wr x) _ _ (fun x h => h) (Keeps.refl [] wr).drew (fun hS => ?_)
        refine seq_take (v := ?_) rfl (by kernel_rfl) (by kernel_rfl) (by kernel_rfl) (Or.inl ⟨by rfl, fun w' hSw => ?_⟩) (by assumption) ?_
        rotate_left
        · go_simp
          with_reducible rfl
        simp only [Act.put, List.setIfInBounds_toArray, List.set_cons_zero, List.set_cons_succ]
        refine seq_take (v := ?_) rfl (by kernel_rfl) (by kernel_rfl) (by kernel_rfl) (Or.inl ⟨by rfl, fun w' hSw => ?_⟩) (by assumption) ?_
        rotate_left
        · go_simp
          with_reducible rfl
        simp only [Act.put, List.setIfInBounds_toArray, List.set_cons_zero, List.set_cons_succ]
        refine seq_done (by kernel_rfl) ?_
        all_goals skip
        clear hq hS
        go_wp2_with fail
        go_roundw
        case rel => exact ⟨k + 1, by omega, by go_num, hkr.out.drew⟩
        case measure => simp [intOf]; omega
      · have hge : ¬ (O : Int) ≤ (b.toNat : Int) := by intro h; exact hlt (HST.out.1 (by omega))
        have hkl : k = lead b := by omega
        have HKL := Lib.hid hkl
        clear hkl hlt
        go_wp2_with fail
        refine seq_start (by kernel_rfl) (fun x => Keeps [] wr x) 11 [0, 1, 2, 3, 4, 5, 6, 7, 8, 9, 10] rfl ((Keeps.refl [] wr).drew) (fun hS => ?_)
        refine seq_take (v := ?_) rfl (by kernel_rfl) (by kernel_rfl) (by kernel_rfl) (Or.inl ⟨by rfl, fun w' hSw => ?_⟩) (by assumption) ?_
        rotate_left
        · go_simp
          with_reducible rfl
        simp only [Act.put, List.setIfInBounds_toArray, List.set_cons_zero, List.set_cons_succ]
        refine seq_take (v := ?_) rfl (by kernel_rfl) (by kernel_rfl) (by kernel_rfl) (Or.inl ⟨by rfl, fun w' hSw => ?_⟩) (by assumption) ?_
        rotate_left
        · go_simp
          with_reducible rfl
        simp only [Act.put, List.setIfInBounds_toArray, List.set_cons_zero, List.set_cons_succ]
        refine seq_take (v := ?_) rfl (by kernel_rfl) (by kernel_rfl) (by kernel_rfl) (Or.inl ⟨by rfl, fun w' hSw => ?_⟩) (by assumption) ?_
        rotate_left
        · go_simp
          with_reducible rfl
        simp only [Act.put, List.setIfInBounds_toArray, List.set_cons_zero, List.set_cons_succ]
        refine seq_take (v := ?_) rfl (by kernel_rfl) (by kernel_rfl) (by kernel_rfl) (Or.inl ⟨by rfl, fun w' hSw => ?_⟩) (by assumption) ?_
        rotate_left
        · go_simp
          with_reducible rfl
        simp only [Act.put, List.setIfInBounds_toArray, List.set_cons_zero, List.set_cons_succ]
        refine seq_take (v := ?_) rfl (by kernel_rfl) (by kernel_rfl) (by kernel_rfl) (Or.inl ⟨by rfl, fun w' hSw => ?_⟩) (by assumption) ?_
        rotate_left
        · go_simp
          with_reducible rfl
        simp only [Act.put, List.setIfInBounds_toArray, List.set_cons_zero, List.set_cons_succ]
        refine seq_take (v := ?_) rfl (by kernel_rfl) (by kernel_rfl) (by kernel_rfl) (Or.inl ⟨by rfl, fun w' hSw => ?_⟩) (by assumption) ?_
        rotate_left
        · go_simp
          with_reducible rfl
        simp only [Act.put, List.setIfInBounds_toArray, List.set_cons_zero, List.set_cons_succ]
        refine seq_take (v := ?_) rfl (by kernel_rfl) (by kernel_rfl) (by kernel_rfl) (Or.inl ⟨by rfl, fun w' hSw => ?_⟩) (by assumption) ?_
        rotate_left
        · go_simp
          with_reducible rfl
        simp only [Act.put, List.setIfInBounds_toArray, List.set_cons_zero, List.set_cons_succ]
        refine seq_take (v := ?_) rfl (by kernel_rfl) (by kernel_rfl) (by kernel_rfl) (Or.inl ⟨by rfl, fun w' hSw => ?_⟩) (by assumption) ?_
        rotate_left
        · go_simp
          with_reducible rfl
        simp only [Act.put, List.setIfInBounds_toArray, List.set_cons_zero, List.set_cons_succ]
        refine seq_do rfl (by kernel_rfl) (by rfl) (fun K hK => ?_)
        go_simp
        have := pkones_any (k + 1) wr.drew (by omega)
        rw [← HO.out, show ((k + 1 : Nat) : Int) = (k : Int) + 1 by omega] at this
        refine this.mono ?_
        rintro e w' ⟨rfl, rfl⟩
        clear this
        refine hK.out (fun x => Keeps [] wr x) _ _ (fun x h => h) (Keeps.refl [] wr).drew (fun hS => ?_)
        refine seq_take (v := ?_) rfl (by kernel_rfl) (by kernel_rfl) (by kernel_rfl) (Or.inl ⟨by rfl, fun w' hSw => ?_⟩) (by assumption) ?_
        rotate_left
        · go_simp
          with_reducible rfl
        simp only [Act.put, List.setIfInBounds_toArray, List.set_cons_zero, List.set_cons_succ]
        refine seq_take (v := ?_) rfl (by kernel_rfl) (by kernel_rfl) (by kernel_rfl) (Or.inl ⟨by rfl, fun w' hSw => ?_⟩) (by assumption) ?_
        rotate_left
        · go_simp
          with_reducible rfl
        simp only [Act.put, List.setIfInBounds_toArray, List.set_cons_zero, List.set_cons_succ]
        refine seq_done (by kernel_rfl) ?_
        all_goals skip
        have hgeN : ¬ O ≤ b.toNat := by omega
        clear hq hS
        by_cases hsh : t.length < k
        · have hs' : (t.length : Int) + 1 < (k : Int) + 1 := by omega
          have hw1 : IntKind.i64.wrap ((k : Int) + 1) = (k : Int) + 1 := by rw [IntKind.wrap_i64]; omega
          have HSH := Lib.hid hsh
          clear hsh
          go_wp2_with fail
          refine bodyPost_ret (v := .tuple #[.int .u64 0, .int .i64 0, .int .i64 12]) (by simp [results, Tryd.results47, go_sem]) rfl ⟨?_, hkr.out.drew⟩
          rw [numB_cons, if_pos (by rw [← HKL.out]; exact HSH.out)]; rfl
        · have hs' : ¬ (t.length : Int) + 1 < (k : Int) + 1 := by omega
          have hkt : k ≤ t.length := by omega
          have hb := b.toNat_lt
          have hhead := lead_head b
          rw [← HKL.out] at hhead
          obtain ⟨O2, hO2⟩ : ∃ O, O = 256 - 2 ^ (8 - k) := ⟨_, rfl⟩
          rw [← hO2] at hhead
          have htl : b.toNat - O2 = tail b := by unfold tail; rw [← HKL.out, hO2]
          have hsub : IntKind.u8.wrap ((b.toNat : Int) - (O2 : Int)) = ((tail b : Nat) : Int) := by rw [IntKind.wrap_u8]; omega
          have hw0 : IntKind.u64.wrap ((tail b : Nat) : Int) = ((tail b : Nat) : Int) := by rw [IntKind.wrap_u64]; omega
          have HO2 := Lib.hid hO2
          clear hO2 htl hhead hb
          have hq : ∀ w', Keeps [] wr w' → w'.cell? ⟨g, o, none⟩ = some (.int .u8 (b.toNat : Int)) := fun w' h => (hkr.out.trans h (by simp)).cell HQ.out (by simp)
          go_wp2_with fail
          refine seq_start (by kernel_rfl) (fun x => Keeps [] wr x) 8 [0, 1, 2, 3, 4, 5, 6, 7] rfl (((Keeps.refl [] wr).drew).drew) (fun hS => ?_)
          refine seq_take (v := ?_) rfl (by kernel_rfl) (by kernel_rfl) (by kernel_rfl) (Or.inl ⟨by rfl, fun w' hSw => ?_⟩) (by assumption) ?_
          rotate_left
          · go_simp
            with_reducible rfl
          simp only [Act.put, List.setIfInBounds_toArray, List.set_cons_zero, List.set_cons_succ]
          refine seq_take (v := ?_) rfl (by kernel_rfl) (by kernel_rfl) (by kernel_rfl) (Or.inl ⟨by rfl, fun w' hSw => ?_⟩) (by assumption) ?_
          rotate_left
          · go_simp
            with_reducible rfl
          simp only [Act.put, List.setIfInBounds_toArray, List.set_cons_zero, List.set_cons_succ]
          refine seq_take (v := ?_) rfl (by kernel_rfl) (by kernel_rfl) (by kernel_rfl) (Or.inl ⟨by rfl, fun w' hSw => ?_⟩) (by assumption) ?_
          rotate_left
          · go_simp
            with_reducible rfl
          simp only [Act.put, List.setIfInBounds_toArray, List.set_cons_zero, List.set_cons_succ]
          refine seq_take (v := ?_) rfl (by kernel_rfl) (by kernel_rfl) (by kernel_rfl) (Or.inl ⟨by rfl, fun w' hSw => ?_⟩) (by assumption) ?_
          rotate_left
          · go_simp
            with_reducible rfl
          simp only [Act.put, List.setIfInBounds_toArray, List.set_cons_zero, List.set_cons_succ]
          refine seq_do rfl (by kernel_rfl) (by rfl) (fun K hK => ?_)
          go_simp
          have := pkones_any k wr.drew.drew (by omega)
          rw [← HO2.out] at this
          refine this.mono ?_
          rintro e w' ⟨rfl, rfl⟩
          clear this
          refine hK.out (fun x => Keeps [] wr x) _ _ (fun x h => h) ((Keeps.refl [] wr).drew).drew (fun hS => ?_)
          refine seq_take (v := ?_) rfl (by kernel_rfl) (by kernel_rfl) (by kernel_rfl) (Or.inl ⟨by rfl, fun w' hSw => ?_⟩) (by assumption) ?_
          rotate_left
          · go_simp
            with_reducible rfl
          simp only [Act.put, List.setIfInBounds_toArray, List.set_cons_zero, List.set_cons_succ]
          refine seq_take (v := ?_) rfl (by kernel_rfl) (by kernel_rfl) (by kernel_rfl) (Or.inl ⟨by rfl, fun w' hSw => ?_⟩) (by assumption) ?_
          rotate_left
          · go_simp
            with_reducible rfl
          simp only [Act.put, List.setIfInBounds_toArray, List.set_cons_zero, List.set_cons_succ]
          refine seq_take (v := ?_) rfl (by kernel_rfl) (by kernel_rfl) (by kernel_rfl) (Or.inl ⟨by rfl, fun w' hSw => ?_⟩) (by assumption) ?_
          rotate_left
          · go_simp
            with_reducible rfl
          simp only [Act.put, List.setIfInBounds_toArray, List.set_cons_zero, List.set_cons_succ]
          refine seq_done (by kernel_rfl) ?_
          all_goals skip
          have HS := Lib.hid (hkr.out.trans hS (by simp))
          clear hq hS hsub
          go_wp2_with fail
          go_loop [6, 7] (fun n i => ∃ m : Nat, 1 ≤ m ∧ m ≤ k + 1 ∧ i = .int .i64 m ∧ n = .int .u64 (acc (tail b) (t.take (m - 1)) : Nat)) (fun _ i => k + 1 - (intOf i).toNat)
          case atStart => exact ⟨1, by omega, by omega, rfl, rfl⟩
          case round =>
            obtain ⟨m, hm1, hm, rfl, rfl⟩ := hrel
            by_cases hlt : m ≤ k
            · have hmt : m - 1 < t.length := by omega
              have hcm : wr.drew.drew.cell? ⟨g, o + m, none⟩ = some (.int .u8 (t[m - 1].toNat : Int)) := by
                have h0 := HC.out m (by simp; omega)
                have e : (b :: t)[m]'(by simp; omega) = t[m - 1] := by
                  obtain ⟨m', rfl⟩ : ∃ m', m = m' + 1 := ⟨m - 1, by omega⟩
                  simp
                rw [e] at h0
                exact HS.out.cell h0 (by simp)
              have hsm := acc_small b t (m - 1) (by have := HKL.out; omega)
              have hsn := Lib.hid (show acc (tail b) (t.take (m - 1)) * 256 + t[m - 1].toNat = acc (tail b) (t.take (m + 1 - 1)) by
                have h1 := List.take_succ_eq_append_getElem hmt
                rw [show m - 1 + 1 = m by omega] at h1
                rw [show m + 1 - 1 = m by omega, h1, acc_snoc])
              have hbj := t[m - 1].toNat_lt
              obtain ⟨Y, hY⟩ : ∃ Y, Y = acc (tail b) (t.take (m - 1)) := ⟨_, rfl⟩
              rw [← hY] at hsm ⊢
              have HY := Lib.hid hY
              obtain ⟨C, hC⟩ : ∃ C, C = t[m - 1].toNat := ⟨_, rfl⟩
              rw [← hC] at hcm hbj
              have HCC := Lib.hid hC
              have hY' : (Y : Int) < 72057594037927936 := by omega
              have hC' : (C : Int) ≤ 255 := by omega
              have hmc : (m : Int) < (t.length : Int) + 1 := by omega
              clear hY hC hsm hbj
              go_wp2_with fail
              go_round
              case rel => exact ⟨m + 1, by omega, by omega, by go_num, by rw [← hsn.out, ← HY.out, ← HCC.out, Int.natCast_add, Int.natCast_mul, Int.mul_comm]; rfl⟩
              case measure => simp [intOf]; omega
            · have hmk : m = k + 1 := by omega
              have hall := acc_all b t (by have := HKL.out; omega)
              have hba := bh_acc b t
              rw [← HKL.out] at hall hba
              have HM := Lib.hid (show acc (tail b) (t.take (m - 1)) = acc (tail b) (t.take k) by rw [hmk]; rfl)
              have hmi : ¬ (m : Int) ≤ (k : Int) := by omega
              rw [HM.out]
              obtain ⟨Y, hY⟩ : ∃ Y, Y = acc (tail b) (t.take k) := ⟨_, rfl⟩
              rw [← hY] at hall hba ⊢
              have HY := Lib.hid hY
              have hw1 : IntKind.i64.wrap ((k : Int) + 1) = (k : Int) + 1 := by rw [IntKind.wrap_i64]; omega
              clear hmk hlt hY
              go_wp2_with fail
              refine (pkmore_any Y _).mono ?_
              rintro e w' ⟨rfl, rfl⟩
              obtain ⟨Z, hZ⟩ : ∃ Z, Z = bh Y := ⟨_, rfl⟩
              rw [← hZ] at hba ⊢
              have HZ := Lib.hid hZ
              clear hZ
              by_cases hzk : Z < k
              · have hzk' : (Z : Int) < (k : Int) := by omega
                have HZK := Lib.hid hzk
                clear hzk
                go_wp2_with fail
                refine bodyPost_ret (v := .tuple #[.int .u64 0, .int .i64 0, .int .i64 3]) (by simp [results, Tryd.results47, go_sem]) rfl ⟨?_, HS.out⟩
                rw [numB_cons, ← HKL.out, ← HY.out, ← HZ.out, if_neg (by omega), if_neg (by have := HZK.out; omega)]; rfl
              · have hzk' : ¬ (Z : Int) < (k : Int) := by omega
                have HZK := Lib.hid hzk
                clear hzk
                go_wp2_with fail
                refine bodyPost_ret (v := .tuple #[.int .u64 (Y : Nat), .int .i64 ((k : Int) + 1), .int .i64 0]) (by simp [results, Tryd.results47, go_sem]) rfl ⟨?_, HS.out⟩
                rw [numB_cons, ← HKL.out, ← HY.out, ← HZ.out, if_neg (by omega), if_pos (by have := HZK.out; omega)]; simp only [Int.natCast_add, Int.natCast_one]
    · have hk8e : k = 8 := by omega
      have HKL := Lib.hid (show k = lead b by omega)
      have hk8' : ¬ (k : Int) < 8 := by omega
      have hd8 : decide ((k : Int) < 8) = false := by simp; omega
      clear hk8e hk8
      go_wp2_with fail
      refine seq_start (by kernel_rfl) (fun x => Keeps [] wr x) 11 [0, 1, 2, 3, 4, 5, 6, 7, 8, 9, 10] rfl ((Keeps.refl [] wr).drew) (fun hS => ?_)
      refine seq_take (v := ?_) rfl (by kernel_rfl) (by kernel_rfl) (by kernel_rfl) (Or.inl ⟨by rfl, fun w' hSw => ?_⟩) (by assumption) ?_
      rotate_left
      · go_simp
        with_reducible rfl
      simp only [Act.put, List.setIfInBounds_toArray, List.set_cons_zero, List.set_cons_succ]
      refine seq_take (v := ?_) rfl (by kernel_rfl) (by kernel_rfl) (by kernel_rfl) (Or.inl ⟨by rfl, fun w' hSw => ?_⟩) (by assumption) ?_
      rotate_left
      · go_simp
        with_reducible rfl
      simp only [Act.put, List.setIfInBounds_toArray, List.set_cons_zero, List.set_cons_succ]
      refine seq_take (v := ?_) rfl (by kernel_rfl) (by kernel_rfl) (by kernel_rfl) (Or.inl ⟨by rfl, fun w' hSw => ?_⟩) (by assumption) ?_
      rotate_left
      · go_simp
        with_reducible rfl
      simp only [Act.put, List.setIfInBounds_toArray, List.set_cons_zero, List.set_cons_succ]
      refine seq_take (v := undef) rfl (by kernel_rfl) (by kernel_rfl) (by kernel_rfl) (Or.inr ⟨by rfl, rfl⟩) (by assumption) ?_
      simp only [Act.put, List.setIfInBounds_toArray, List.set_cons_zero, List.set_cons_succ]
      refine seq_take (v := undef) rfl (by kernel_rfl) (by kernel_rfl) (by kernel_rfl) (Or.inr ⟨by rfl, rfl⟩) (by assumption) ?_
      simp only [Act.put, List.setIfInBounds_toArray, List.set_cons_zero, List.set_cons_succ]
      refine seq_take (v := undef) rfl (by kernel_rfl) (by kernel_rfl) (by kernel_rfl) (Or.inr ⟨by rfl, rfl⟩) (by assumption) ?_
      simp only [Act.put, List.setIfInBounds_toArray, List.set_cons_zero, List.set_cons_succ]
      refine seq_take (v := undef) rfl (by kernel_rfl) (by kernel_rfl) (by kernel_rfl) (Or.inr ⟨by rfl, rfl⟩) (by assumption) ?_
      simp only [Act.put, List.setIfInBounds_toArray, List.set_cons_zero, List.set_cons_succ]
      refine seq_take (v := undef) rfl (by kernel_rfl) (by kernel_rfl) (by kernel_rfl) (Or.inr ⟨by rfl, rfl⟩) (by assumption) ?_
      simp only [Act.put, List.setIfInBounds_toArray, List.set_cons_zero, List.set_cons_succ]
      refine seq_take (v := undef) rfl (by kernel_rfl) (by kernel_rfl) (by kernel_rfl) (Or.inr ⟨by rfl, rfl⟩) (by assumption) ?_
      simp only [Act.put, List.setIfInBounds_toArray, List.set_cons_zero, List.set_cons_succ]
      refine seq_take (v := undef) rfl (by kernel_rfl) (by kernel_rfl) (by kernel_rfl) (Or.inr ⟨by rfl, rfl⟩) (by assumption) ?_
      simp only [Act.put, List.setIfInBounds_toArray, List.set_cons_zero, List.set_cons_succ]
      refine seq_take (v := ?_) rfl (by kernel_rfl) (by kernel_rfl) (by kernel_rfl) (Or.inl ⟨by rfl, fun w' hSw => ?_⟩) (by assumption) ?_
      rotate_left
      · go_simp
        with_reducible rfl
      simp only [Act.put, List.setIfInBounds_toArray, List.set_cons_zero, List.set_cons_succ]
      refine seq_done (by kernel_rfl) ?_
      all_goals skip
      clear hq hS
      by_cases hsh : t.length < k
      · have hs' : (t.length : Int) + 1 < (k : Int) + 1 := by omega
        have hw1 : IntKind.i64.wrap ((k : Int) + 1) = (k : Int) + 1 := by rw [IntKind.wrap_i64]; omega
        have HSH := Lib.hid hsh
        clear hsh
        go_wp2_with fail
        refine bodyPost_ret (v := .tuple #[.int .u64 0, .int .i64 0, .int .i64 12]) (by simp [results, Tryd.results47, go_sem]) rfl ⟨?_, hkr.out.drew⟩
        rw [numB_cons, if_pos (by rw [← HKL.out]; exact HSH.out)]; rfl
      · have hs' : ¬ (t.length : Int) + 1 < (k : Int) + 1 := by omega
        have hkt : k ≤ t.length := by omega
        have hb := b.toNat_lt
        have hhead := lead_head b
        rw [← HKL.out] at hhead
        obtain ⟨O2, hO2⟩ : ∃ O, O = 256 - 2 ^ (8 - k) := ⟨_, rfl⟩
        rw [← hO2] at hhead
        have htl : b.toNat - O2 = tail b := by unfold tail; rw [← HKL.out, hO2]
        have hsub : IntKind.u8.wrap ((b.toNat : Int) - (O2 : Int)) = ((tail b : Nat) : Int) := by rw [IntKind.wrap_u8]; omega
        have hw0 : IntKind.u64.wrap ((tail b : Nat) : Int) = ((tail b : Nat) : Int) := by rw [IntKind.wrap_u64]; omega
        have HO2 := Lib.hid hO2
        clear hO2 htl hhead hb
        have hq : ∀ w', Keeps [] wr w' → w'.cell? ⟨g, o, none⟩ = some (.int .u8 (b.toNat : Int)) := fun w' h => (hkr.out.trans h (by simp)).cell HQ.out (by simp)
        go_wp2_with fail
        refine seq_start (by kernel_rfl) (fun x => Keeps [] wr x) 8 [0, 1, 2, 3, 4, 5, 6, 7] rfl (((Keeps.refl [] wr).drew).drew) (fun hS => ?_)
        refine seq_take (v := ?_) rfl (by kernel_rfl) (by kernel_rfl) (by kernel_rfl) (Or.inl ⟨by rfl, fun w' hSw => ?_⟩) (by assumption) ?_
        rotate_left
        · go_simp
          with_reducible rfl
        simp only [Act.put, List.setIfInBounds_toArray, List.set_cons_zero, List.set_cons_succ]
        refine seq_take (v := ?_) rfl (by kernel_rfl) (by kernel_rfl) (by kernel_rfl) (Or.inl ⟨by rfl, fun w' hSw => ?_⟩) (by assumption) ?_
        rotate_left
        · go_simp
          with_reducible rfl
        simp only [Act.put, List.setIfInBounds_toArray, List.set_cons_zero, List.set_cons_succ]
        refine seq_take (v := ?_) rfl (by kernel_rfl) (by kernel_rfl) (by kernel_rfl) (Or.inl ⟨by rfl, fun w' hSw => ?_⟩) (by assumption) ?_
        rotate_left
        · go_simp
          with_reducible rfl
        simp only [Act.put, List.setIfInBounds_toArray, List.set_cons_zero, List.set_cons_succ]
        refine seq_take (v := ?_) rfl (by kernel_rfl) (by kernel_rfl) (by kernel_rfl) (Or.inl ⟨by rfl, fun w' hSw => ?_⟩) (by assumption) ?_
        rotate_left
        · go_simp
          with_reducible rfl
        simp only [Act.put, List.setIfInBounds_toArray, List.set_cons_zero, List.set_cons_succ]
        refine seq_do rfl (by kernel_rfl) (by rfl) (fun K hK => ?_)
        go_simp
        have := pkones_any k wr.drew.drew (by omega)
        rw [← HO2.out] at this
        refine this.mono ?_
        rintro e w' ⟨rfl, rfl⟩
        clear this
        refine hK.out (fun x => Keeps [] wr x) _ _ (fun x h => h) ((Keeps.refl [] wr).drew).drew (fun hS => ?_)
        refine seq_take (v := ?_) rfl (by kernel_rfl) (by kernel_rfl) (by kernel_rfl) (Or.inl ⟨by rfl, fun w' hSw => ?_⟩) (by assumption) ?_
        rotate_left
        · go_simp
          with_reducible rfl
        simp only [Act.put, List.setIfInBounds_toArray, List.set_cons_zero, List.set_cons_succ]
        refine seq_take (v := ?_) rfl (by kernel_rfl) (by kernel_rfl) (by kernel_rfl) (Or.inl ⟨by rfl, fun w' hSw => ?_⟩) (by assumption) ?_
        rotate_left
        · go_simp
          with_reducible rfl
        simp only [Act.put, List.setIfInBounds_toArray, List.set_cons_zero, List.set_cons_succ]
        refine seq_take (v := ?_) rfl (by kernel_rfl) (by kernel_rfl) (by kernel_rfl) (Or.inl ⟨by rfl, fun w' hSw => ?_⟩) (by assumption) ?_
        rotate_left
        · go_simp
          with_reducible rfl
        simp only [Act.put, List.setIfInBounds_toArray, List.set_cons_zero, List.set_cons_succ]
        refine seq_done (by kernel_rfl) ?_
        all_goals skip
        have HS := Lib.hid (hkr.out.trans hS (by simp))
        clear hq hS hsub
        go_wp2_with fail
        go_loop [6, 7] (fun n i => ∃ m : Nat, 1 ≤ m ∧ m ≤ k + 1 ∧ i = .int .i64 m ∧ n = .int .u64 (acc (tail b) (t.take (m - 1)) : Nat)) (fun _ i => k + 1 - (intOf i).toNat)
        case atStart => exact ⟨1, by omega, by omega, rfl, rfl⟩
        case round =>
          obtain ⟨m, hm1, hm, rfl, rfl⟩ := hrel
          by_cases hlt : m ≤ k
          · have hmt : m - 1 < t.length := by omega
            have hcm : wr.drew.drew.cell? ⟨g, o + m, none⟩ = some (.int .u8 (t[m - 1].toNat : Int)) := by
              have h0 := HC.out m (by simp; omega)
              have e : (b :: t)[m]'(by simp; omega) = t[m - 1] := by
                obtain ⟨m', rfl⟩ : ∃ m', m = m' + 1 := ⟨m - 1, by omega⟩
                simp
              rw [e] at h0
              exact HS.out.cell h0 (by simp)
            have hsm := acc_small b t (m - 1) (by have := HKL.out; omega)
            have hsn := Lib.hid (show acc (tail b) (t.take (m - 1)) * 256 + t[m - 1].toNat = acc (tail b) (t.take (m + 1 - 1)) by
              have h1 := List.take_succ_eq_append_getElem hmt
              rw [show m - 1 + 1 = m by omega] at h1
              rw [show m + 1 - 1 = m by omega, h1, acc_snoc])
            have hbj := t[m - 1].toNat_lt
            obtain ⟨Y, hY⟩ : ∃ Y, Y = acc (tail b) (t.take (m - 1)) := ⟨_, rfl⟩
            rw [← hY] at hsm ⊢
            have HY := Lib.hid hY
            obtain ⟨C, hC⟩ : ∃ C, C = t[m - 1].toNat := ⟨_, rfl⟩
            rw [← hC] at hcm hbj
            have HCC := Lib.hid hC
            have hY' : (Y : Int) < 72057594037927936 := by omega
            have hC' : (C : Int) ≤ 255 := by omega
            have hmc : (m : Int) < (t.length : Int) + 1 := by omega
            clear hY hC hsm hbj
            go_wp2_with fail
            go_round
            case rel => exact ⟨m + 1, by omega, by omega, by go_num, by rw [← hsn.out, ← HY.out, ← HCC.out, Int.natCast_add, Int.natCast_mul, Int.mul_comm]; rfl⟩
            case measure => simp [intOf]; omega
          · have hmk : m = k + 1 := by omega
            have hall := acc_all b t (by have := HKL.out; omega)
            have hba := bh_acc b t
            rw [← HKL.out] at hall hba
            have HM := Lib.hid (show acc (tail b) (t.take (m - 1)) = acc (tail b) (t.take k) by rw [hmk]; rfl)
            have hmi : ¬ (m : Int) ≤ (k : Int) := by omega
            rw [HM.out]
            obtain ⟨Y, hY⟩ : ∃ Y, Y = acc (tail b) (t.take k) := ⟨_, rfl⟩
            rw [← hY] at hall hba ⊢
            have HY := Lib.hid hY
            have hw1 : IntKind.i64.wrap ((k : Int) + 1) = (k : Int) + 1 := by rw [IntKind.wrap_i64]; omega
            clear hmk hlt hY
            go_wp2_with fail
            refine (pkmore_any Y _).mono ?_
            rintro e w' ⟨rfl, rfl⟩
            obtain ⟨Z, hZ⟩ : ∃ Z, Z = bh Y := ⟨_, rfl⟩
            rw [← hZ] at hba ⊢
            have HZ := Lib.hid hZ
            clear hZ
            by_cases hzk : Z < k
            · have hzk' : (Z : Int) < (k : Int) := by omega
              have HZK := Lib.hid hzk
              clear hzk
              go_wp2_with fail
              refine bodyPost_ret (v := .tuple #[.int .u64 0, .int .i64 0, .int .i64 3]) (by simp [results, Tryd.results47, go_sem]) rfl ⟨?_, HS.out⟩
              rw [numB_cons, ← HKL.out, ← HY.out, ← HZ.out, if_neg (by omega), if_neg (by have := HZK.out; omega)]; rfl
            · have hzk' : ¬ (Z : Int) < (k : Int) := by omega
              have HZK := Lib.hid hzk
              clear hzk
              go_wp2_with fail
              refine bodyPost_ret (v := .tuple #[.int .u64 (Y : Nat), .int .i64 ((k : Int) + 1), .int .i64 0]) (by simp [results, Tryd.results47, go_sem]) rfl ⟨?_, HS.out⟩
              rw [numB_cons, ← HKL.out, ← HY.out, ← HZ.out, if_neg (by omega), if_pos (by have := HZK.out; omega)]; simp only [Int.natCast_add, Int.natCast_one]
end Go.Proofs.YtljinghhalcnnaaDoor
