/- What the program's reader does: contracts. -/
import Derived.Test.YthppbefemfkccaaPackW
import Derived.Test.YthppbefemfkccaaPackRPlain
import Derived.Test.YthppbefemfkccaaErrV
import Derived.Test.YthppbefemfkccaaRegion
namespace Go.Proofs.Ythppbefemfkccaa
open Go.RowKit

theorem rbyte_lt (b : UInt8) : (b.toNat : Int) < 256 := by have := b.toNat_lt; omega
/-- A number, how many bytes it has, an error. -/
def NumP (r : Nat × Nat × Int) (w : World) (e : Ending) (w' : World) : Prop := e = .returned (.tuple #[.int .u64 r.1, .int .i64 r.2.1, errV r.2.2]) ∧ Keeps [] w w'

theorem number_nil (A : Option Addr) (c : Nat) (w : World) : Calls Try.prog 33 #[.slice A 0 c] w (NumP (numB []) w) := by
  go_enter Try.func33, Try.ntmps33
  go_wp2_with fail
  refine bodyPost_ret (v := .tuple #[.int .u64 0, .int .i64 0, .iface 39 (.int .i64 12)]) (by simp [results, Try.results33, go_sem]) rfl ⟨rfl, Keeps.refl [] w⟩

theorem shift8 (n : Nat) (c : UInt8) (hn : n < 2 ^ 56) : bits .or .u64 ((n : Int) * 256) (c.toNat : Int) = ((n * 256 + c.toNat : Nat) : Int) := by
  have hc := c.toNat_lt
  have : ((n : Int) * 256) = ((n * 256 : Nat) : Int) := by simp
  rw [this, u64_or_nat _ _ (by omega) (by omega), nat_join 8 _ _ (by omega) (by omega)]

theorem lz_any (b : UInt8) (w : World) : Calls Try.prog 34 #[.int .u8 ((255 - b.toNat : Nat) : Int)] w fun e w' => e = .returned (.int .i64 (lead b : Nat)) ∧ w = w' := by
  have hb := b.toNat_lt
  refine (Try.bits_LeadingZeros8 _ _ (by omega) (by omega)).mono ?_
  rintro e w' ⟨rfl, rfl⟩
  refine ⟨?_, rfl⟩
  rw [show ((255 - b.toNat : Nat) : Int).toNat = 255 - b.toNat by simp, lead_bit]
theorem number_end (A : Option Addr) (b : UInt8) (t : List UInt8) (c : Nat) (w : World) (hl : t.length + 1 ≤ 140737488355328) (hr : RdB w A (b :: t)) (ht : t.length < lead b) :
    Calls Try.prog 33 #[.slice A (t.length + 1) c] w (NumP (numB (b :: t)) w) := by
  obtain ⟨g, o, rfl, hcell⟩ := hr.form (by simp)
  have q0 : w.cell? ⟨g, o, none⟩ = some (.int .u8 (b.toNat : Int)) := hcell 0 (by simp)
  have hn := not_byte b
  have hb := b.toNat_lt
  have h8 := lead_le b
  clear hcell hr
  go_enter Try.func33, Try.ntmps33
  go_wp2_with fail
  refine (lz_any b _).mono ?_
  rintro e w' ⟨rfl, rfl⟩
  have hk8 : (lead b : Int) ≤ 8 := by omega
  have ht' : (t.length : Int) + 1 ≤ (lead b : Int) := by omega
  go_wp2_with fail
  refine bodyPost_ret (v := .tuple #[.int .u64 0, .int .i64 0, .iface 39 (.int .i64 12)]) (by simp [results, Try.results33, go_sem]) rfl ⟨?_, Keeps.refl [] _⟩
  rw [numB_cons, if_pos ht]; rfl

set_option maxHeartbeats 1000000 in
theorem number_one (A : Option Addr) (b : UInt8) (w : World) (hr : RdB w A [b]) (h0 : lead b = 0) :
    Calls Try.prog 33 #[.slice A 1 1] w (NumP (numB [b]) w) := by
  obtain ⟨g, o, rfl, hcell⟩ := hr.form (by simp)
  have q0 : w.cell? ⟨g, o, none⟩ = some (.int .u8 (b.toNat : Int)) := hcell 0 (by simp)
  have hn := not_byte b
  have hb := b.toNat_lt
  have LA := Lib.hid (lead_andNot b)
  have H0 := Lib.hid h0
  clear hcell hr h0
  go_enter Try.func33, Try.ntmps33
  go_wp2_with fail
  refine (lz_any b _).mono ?_
  rintro e w' ⟨rfl, rfl⟩
  rw [H0.out]
  go_wp2_with fail
  have hq : ∀ w', Keeps [] w w' → w'.cell? ⟨g, o, none⟩ = some (.int .u8 (b.toNat : Int)) := fun w' h => h.cell q0 (by simp)
  refine seq_start (by kernel_rfl) (fun x => Keeps [] w x) 8 [0, 1, 2, 3, 4, 5, 6, 7] rfl ((Keeps.refl [] w).drew) (fun hS => ?_)
  refine seq_take (v := ?_) rfl (by kernel_rfl) (by kernel_rfl) (by kernel_rfl) (Or.inl ⟨by rfl, fun w' hSw => ?_⟩) (by assumption) ?_
  rotate_left
  · go_simp
    with_reducible rfl
  simp only [Act.put, List.setIfInBounds_toArray, List.set_cons_zero, List.set_cons_succ]
  refine seq_take (v := ?_) rfl (by kernel_rfl) (by kernel_rfl) (by kernel_rfl) (Or.inl ⟨by rfl, fun w' hSw => ?_⟩) (by assumption) ?_
  rotate_left
  · go_simp
    with_reducible rfl
  simp only [Act.put, List.setIfInBounds_toArray, List.set_cons_zero, List.set_cons_succ]
  refine seq_take (v := ?_) rfl (by kernel_rfl) (by kernel_rfl) (by kernel_rfl) (Or.inl ⟨by rfl, fun w' hSw => ?_⟩) (by assumption) ?_
  rotate_left
  · go_simp
    with_reducible rfl
  simp only [Act.put, List.setIfInBounds_toArray, List.set_cons_zero, List.set_cons_succ]
  refine seq_take (v := ?_) rfl (by kernel_rfl) (by kernel_rfl) (by kernel_rfl) (Or.inl ⟨by rfl, fun w' hSw => ?_⟩) (by assumption) ?_
  rotate_left
  · go_simp
    with_reducible rfl
  simp only [Act.put, List.setIfInBounds_toArray, List.set_cons_zero, List.set_cons_succ]
  refine seq_do rfl (by kernel_rfl) (by rfl) (fun K hK => ?_)
  go_simp
  refine (head_any 0 _ (by omega)).mono ?_
  rintro e w' ⟨rfl, rfl⟩
  have la : bits .andNot .u8 (b.toNat : Int) 0 = ((tail b : Nat) : Int) := by have := LA.out; rw [H0.out] at this; unfold tail; rw [H0.out]; exact this
  have ht0 : tail b < 256 := by unfold tail; omega
  have hw0 : IntKind.u64.wrap ((tail b : Nat) : Int) = ((tail b : Nat) : Int) := by rw [IntKind.wrap_u64]; omega
  refine hK.out (fun x => Keeps [] w x) _ _ (fun x h => h) hS (fun hS => ?_)
  refine seq_take (v := ?_) rfl (by kernel_rfl) (by kernel_rfl) (by kernel_rfl) (Or.inl ⟨by rfl, fun w' hSw => ?_⟩) (by assumption) ?_
  rotate_left
  · go_simp
    with_reducible rfl
  simp only [Act.put, List.setIfInBounds_toArray, List.set_cons_zero, List.set_cons_succ]
  refine seq_take (v := ?_) rfl (by kernel_rfl) (by kernel_rfl) (by kernel_rfl) (Or.inl ⟨by rfl, fun w' hSw => ?_⟩) (by assumption) ?_
  rotate_left
  · go_simp
    with_reducible rfl
  simp only [Act.put, List.setIfInBounds_toArray, List.set_cons_zero, List.set_cons_succ]
  refine seq_take (v := ?_) rfl (by kernel_rfl) (by kernel_rfl) (by kernel_rfl) (Or.inl ⟨by rfl, fun w' hSw => ?_⟩) (by assumption) ?_
  rotate_left
  · go_simp
    with_reducible rfl
  simp only [Act.put, List.setIfInBounds_toArray, List.set_cons_zero, List.set_cons_succ]
  refine seq_done (by kernel_rfl) ?_
  all_goals skip
  clear q0 la
  have HS := Lib.hid hS
  have ht2 : tail b < 18446744073709551616 := by omega
  clear hS
  go_wp2_with fail
  refine wp_loop_rounds 1 ?_
  rw [rounds_succ]
  go_wp2_with fail
  refine (behind_any (tail b) _ ht2).mono ?_
  rintro e w' ⟨rfl, rfl⟩
  have e1 : numB [b] = if bh (tail b) = 0 then (tail b, 1, 0) else (0, 0, 3) := by rw [numB_cons, H0.out]; rfl
  by_cases hbk : bh (tail b) = 0
  · rw [hbk]
    go_wp2_with fail
    refine bodyPost_ret (v := .tuple #[.int .u64 (tail b : Nat), .int .i64 1, .nilIface]) (by simp [results, Try.results33, go_sem]) rfl ⟨?_, HS.out⟩
    rw [e1, if_pos hbk]; rfl
  · have hbk' : ((bh (tail b) : Nat) : Int) ≠ 0 := by omega
    go_wp2_with fail
    refine bodyPost_ret (v := .tuple #[.int .u64 0, .int .i64 0, .iface 39 (.int .i64 3)]) (by simp [results, Try.results33, go_sem]) rfl ⟨?_, HS.out⟩
    rw [e1, if_neg hbk]; rfl

set_option maxHeartbeats 1000000 in
theorem number_all (A : Option Addr) (b : UInt8) (t : List UInt8) (c : Nat) (w : World) (hl : t.length + 1 ≤ 140737488355328) (hc : t.length + 1 ≤ c) (hc1 : ¬ c = 1) (hr : RdB w A (b :: t)) (ht : ¬ t.length < lead b) :
    Calls Try.prog 33 #[.slice A (t.length + 1) c] w (NumP (numB (b :: t)) w) := by
  obtain ⟨g, o, rfl, hcell⟩ := hr.form (by simp)
  have q0 : w.cell? ⟨g, o, none⟩ = some (.int .u8 (b.toNat : Int)) := hcell 0 (by simp)
  have hn := not_byte b
  have hb := b.toNat_lt
  have h8 := lead_le b
  have LA := Lib.hid (lead_andNot b)
  have HC := Lib.hid hcell
  clear hcell hr
  go_enter Try.func33, Try.ntmps33
  go_wp2_with fail
  refine (lz_any b _).mono ?_
  rintro e w' ⟨rfl, rfl⟩
  have hk8 : (lead b : Int) ≤ 8 := by omega
  have ht' : ¬ ((t.length : Int) + 1 ≤ (lead b : Int)) := by omega
  go_wp2_with fail
  have hq : ∀ w', Keeps [] w w' → w'.cell? ⟨g, o, none⟩ = some (.int .u8 (b.toNat : Int)) := fun w' h => h.cell q0 (by simp)
  refine seq_start (by kernel_rfl) (fun x => Keeps [] w x) 8 [0, 1, 2, 3, 4, 5, 6, 7] rfl ((Keeps.refl [] w).drew) (fun hS => ?_)
  refine seq_take (v := ?_) rfl (by kernel_rfl) (by kernel_rfl) (by kernel_rfl) (Or.inl ⟨by rfl, fun w' hSw => ?_⟩) (by assumption) ?_
  rotate_left
  · go_simp
    with_reducible rfl
  simp only [Act.put, List.setIfInBounds_toArray, List.set_cons_zero, List.set_cons_succ]
  refine seq_take (v := ?_) rfl (by kernel_rfl) (by kernel_rfl) (by kernel_rfl) (Or.inl ⟨by rfl, fun w' hSw => ?_⟩) (by assumption) ?_
  rotate_left
  · go_simp
    with_reducible rfl
  simp only [Act.put, List.setIfInBounds_toArray, List.set_cons_zero, List.set_cons_succ]
  refine seq_take (v := ?_) rfl (by kernel_rfl) (by kernel_rfl) (by kernel_rfl) (Or.inl ⟨by rfl, fun w' hSw => ?_⟩) (by assumption) ?_
  rotate_left
  · go_simp
    with_reducible rfl
  simp only [Act.put, List.setIfInBounds_toArray, List.set_cons_zero, List.set_cons_succ]
  refine seq_take (v := ?_) rfl (by kernel_rfl) (by kernel_rfl) (by kernel_rfl) (Or.inl ⟨by rfl, fun w' hSw => ?_⟩) (by assumption) ?_
  rotate_left
  · go_simp
    with_reducible rfl
  simp only [Act.put, List.setIfInBounds_toArray, List.set_cons_zero, List.set_cons_succ]
  refine seq_do rfl (by kernel_rfl) (by rfl) (fun K hK => ?_)
  go_simp
  refine (head_any (lead b) _ (by omega)).mono ?_
  rintro e w' ⟨rfl, rfl⟩
  have la : bits .andNot .u8 (b.toNat : Int) ((256 - 2 ^ (8 - lead b) : Nat) : Int) = ((tail b : Nat) : Int) := LA.out
  have ht0 : tail b < 256 := by unfold tail; omega
  have hw0 : IntKind.u64.wrap ((tail b : Nat) : Int) = ((tail b : Nat) : Int) := by rw [IntKind.wrap_u64]; omega
  refine hK.out (fun x => Keeps [] w x) _ _ (fun x h => h) hS (fun hS => ?_)
  refine seq_take (v := ?_) rfl (by kernel_rfl) (by kernel_rfl) (by kernel_rfl) (Or.inl ⟨by rfl, fun w' hSw => ?_⟩) (by assumption) ?_
  rotate_left
  · go_simp
    with_reducible rfl
  simp only [Act.put, List.setIfInBounds_toArray, List.set_cons_zero, List.set_cons_succ]
  refine seq_take (v := ?_) rfl (by kernel_rfl) (by kernel_rfl) (by kernel_rfl) (Or.inl ⟨by rfl, fun w' hSw => ?_⟩) (by assumption) ?_
  rotate_left
  · go_simp
    with_reducible rfl
  simp only [Act.put, List.setIfInBounds_toArray, List.set_cons_zero, List.set_cons_succ]
  refine seq_take (v := ?_) rfl (by kernel_rfl) (by kernel_rfl) (by kernel_rfl) (Or.inl ⟨by rfl, fun w' hSw => ?_⟩) (by assumption) ?_
  rotate_left
  · go_simp
    with_reducible rfl
  simp only [Act.put, List.setIfInBounds_toArray, List.set_cons_zero, List.set_cons_succ]
  refine seq_done (by kernel_rfl) ?_
  all_goals skip
  clear q0 la
  have HS := Lib.hid hS
  clear hS
  have hkt : lead b ≤ t.length := by omega
  have i1 : (1 : Int) ≤ (lead b : Int) + 1 := by omega
  have i2 : (lead b : Int) + 1 ≤ (c : Int) := by omega
  go_wp2_with fail
  go_loop [6, 35] (fun n i => ∃ j : Nat, j ≤ lead b ∧ i = .int .i64 j ∧ n = .int .u64 (acc (tail b) (t.take j) : Nat)) (fun _ i => lead b - (intOf i).toNat)
  case atStart => exact ⟨0, Nat.zero_le _, rfl, rfl⟩
  case round =>
    obtain ⟨j, hj, rfl, rfl⟩ := hrel
    by_cases hlt : j < lead b
    · have hjt : j < t.length := by omega
      have hcj : w.drew.cell? ⟨g, o + 1 + j, none⟩ = some (.int .u8 (t[j].toNat : Int)) := by
        have := HC.out (j + 1) (by simp; omega)
        rw [List.getElem_cons_succ] at this
        rw [show o + 1 + j = o + (j + 1) by omega]; exact this
      have hs := shift8 (acc (tail b) (t.take j)) t[j] (acc_small b t j hlt)
      have hsn := Lib.hid (show acc (tail b) (t.take j) * 256 + t[j].toNat = acc (tail b) (t.take (j + 1)) by rw [List.take_succ_eq_append_getElem hjt, acc_snoc])
      have hsm := acc_small b t j hlt
      have hsm' : ((acc (tail b) (t.take j) : Nat) : Int) < 72057594037927936 := by omega
      have hbj := rbyte_lt t[j]
      go_wp2_with fail
      go_round
      case rel => exact ⟨j + 1, by omega, by go_num, by rw [← hsn.out, Int.natCast_add, Int.natCast_mul]; rfl⟩
      case measure => simp [intOf]; omega
    · obtain rfl : j = lead b := by omega
      have hall := acc_all b t hkt
      have hall' : ((acc (tail b) (t.take (lead b)) : Nat) : Int) < 18446744073709551616 := by omega
      go_wp2_with fail
      refine (behind_any (acc (tail b) (t.take (lead b))) _ hall).mono ?_
      rintro e w' ⟨rfl, rfl⟩
      by_cases hbk : bh (acc (tail b) (t.take (lead b))) = lead b
      · rw [hbk]
        go_wp2_with fail
        refine bodyPost_ret (v := .tuple #[.int .u64 (acc (tail b) (t.take (lead b)) : Nat), .int .i64 ((lead b : Int) + 1), .nilIface]) (by simp [results, Try.results33, go_sem]) rfl ⟨?_, HS.out⟩
        rw [numB_cons, if_neg ht, if_pos hbk, errV_zero]; simp only [Int.natCast_add, Int.natCast_one]
      · obtain ⟨m, hm⟩ : ∃ m, m = bh (acc (tail b) (t.take (lead b))) := ⟨_, rfl⟩
        rw [← hm]
        have hbk' : ¬ (m : Int) = (lead b : Int) := by omega
        have HM := Lib.hid hm
        have HBK := Lib.hid hbk
        clear hm hbk hall hall'
        go_wp2_with fail
        refine bodyPost_ret (v := .tuple #[.int .u64 0, .int .i64 0, .iface 39 (.int .i64 3)]) (by simp [results, Try.results33, go_sem]) rfl ⟨?_, HS.out⟩
        rw [numB_cons, if_neg ht, if_neg HBK.out]; rfl

theorem number_any (A : Option Addr) (l : List UInt8) (c : Nat) (w : World) (hl : l.length ≤ 140737488355328) (hc : l.length ≤ c) (hr : RdB w A l) :
    Calls Try.prog 33 #[.slice A l.length c] w (NumP (numB l) w) := by
  rcases l with _ | ⟨b, t⟩
  · exact number_nil A c w
  · have hl' : t.length + 1 ≤ 140737488355328 := by simpa using hl
    have hc' : t.length + 1 ≤ c := by simpa using hc
    by_cases ht : t.length < lead b
    · exact number_end A b t c w hl' hr ht
    · by_cases h1 : c = 1
      · subst h1
        have h0 : t = [] := List.eq_nil_of_length_eq_zero (by omega)
        subst h0
        exact number_one A b w hr (by simpa using ht)
      · exact number_all A b t c w hl' hc' h1 hr ht
end Go.Proofs.Ythppbefemfkccaa
