/- What the program's reader does: contracts. The reader's state, and what takes things off it: contracts. What is left, the first error: contracts. A number up to a bound: contracts. Numbers taken off: contracts. -/
import Derived.Test.YtljinghhalcnnaaDoorQDeltaReads7
import Derived.Test.YtljinghhalcnnaaDoorQDeltaReads8
import Derived.Test.YtljinghhalcnnaaDoorQDeltaReads2
namespace Go.Proofs.YtljinghhalcnnaaDoor
open Go.RowKit

theorem rbyte_lt (b : UInt8) : (b.toNat : Int) < 256 := by have := b.toNat_lt; omega
/-- A number, how many bytes it has, an error. -/
def NumP (r : Nat × Nat × Int) (w : World) (e : Ending) (w' : World) : Prop := e = .returned (.tuple #[.int .u64 r.1, .int .i64 r.2.1, errV r.2.2]) ∧ Keeps [] w w'

theorem number_nil (A : Option Addr) (c : Nat) (w : World) : Calls Tryd.prog 59 #[.slice A 0 c] w (NumP (numB []) w) := by
  go_enter Tryd.func59, Tryd.ntmps59
  go_wp2_with fail
  refine bodyPost_ret (v := .tuple #[.int .u64 0, .int .i64 0, .iface 58 (.int .i64 12)]) (by simp [results, Tryd.results59, go_sem]) rfl ⟨rfl, Keeps.refl [] w⟩

theorem shift8 (n : Nat) (c : UInt8) (hn : n < 2 ^ 56) : bits .or .u64 ((n : Int) * 256) (c.toNat : Int) = ((n * 256 + c.toNat : Nat) : Int) := by
  have hc := c.toNat_lt
  have : ((n : Int) * 256) = ((n * 256 : Nat) : Int) := by simp
  rw [this, u64_or_nat _ _ (by omega) (by omega), nat_join 8 _ _ (by omega) (by omega)]

theorem lz_any (b : UInt8) (w : World) : Calls Tryd.prog 65 #[.int .u8 ((255 - b.toNat : Nat) : Int)] w fun e w' => e = .returned (.int .i64 (lead b : Nat)) ∧ w = w' := by
  have hb := b.toNat_lt
  refine (Tryd.bits_LeadingZeros8 _ _ (by omega) (by omega)).mono ?_
  rintro e w' ⟨rfl, rfl⟩
  refine ⟨?_, rfl⟩
  rw [show ((255 - b.toNat : Nat) : Int).toNat = 255 - b.toNat by simp, lead_bit]
theorem number_end (A : Option Addr) (b : UInt8) (t : List UInt8) (c : Nat) (w : World) (hl : t.length + 1 ≤ 140737488355328) (hr : RdB w A (b :: t)) (ht : t.length < lead b) :
    Calls Tryd.prog 59 #[.slice A (t.length + 1) c] w (NumP (numB (b :: t)) w) := by
  obtain ⟨g, o, rfl, hcell⟩ := hr.form (by simp)
  have q0 : w.cell? ⟨g, o, none⟩ = some (.int .u8 (b.toNat : Int)) := hcell 0 (by simp)
  have hn := not_byte b
  have hb := b.toNat_lt
  have h8 := lead_le b
  clear hcell hr
  go_enter Tryd.func59, Tryd.ntmps59
  go_wp2_with fail
  refine (lz_any b _).mono ?_
  rintro e w' ⟨rfl, rfl⟩
  have hk8 : (lead b : Int) ≤ 8 := by omega
  have ht' : (t.length : Int) + 1 ≤ (lead b : Int) := by omega
  go_wp2_with fail
  refine bodyPost_ret (v := .tuple #[.int .u64 0, .int .i64 0, .iface 58 (.int .i64 12)]) (by simp [results, Tryd.results59, go_sem]) rfl ⟨?_, Keeps.refl [] _⟩
  rw [numB_cons, if_pos ht]; rfl

set_option maxHeartbeats 1000000 in
theorem number_one (A : Option Addr) (b : UInt8) (w : World) (hr : RdB w A [b]) (h0 : lead b = 0) :
    Calls Tryd.prog 59 #[.slice A 1 1] w (NumP (numB [b]) w) := by
  obtain ⟨g, o, rfl, hcell⟩ := hr.form (by simp)
  have q0 : w.cell? ⟨g, o, none⟩ = some (.int .u8 (b.toNat : Int)) := hcell 0 (by simp)
  have hn := not_byte b
  have hb := b.toNat_lt
  have LA := Lib.hid (lead_andNot b)
  have H0 := Lib.hid h0
  clear hcell hr h0
  go_enter Tryd.func59, Tryd.ntmps59
  go_wp2_with fail
  refine (lz_any b _).mono ?_
  rintro e w' ⟨rfl, rfl⟩
  rw [H0.out]
  go_wp2_with fail
  have hq : ∀ w', Keeps [] w w' → w'.cell? ⟨g, o, none⟩ = some (.int .u8 (b.toNat : Int)) := fun w' h => h.cell q0 (by simp)
  refine seq_start (by kernel_rfl) (fun x => Keeps [] w x) 8 [0, 1, 2, 3, 4, 5, 6, 7] rfl ((Keeps.refl [] w).drew) (fun hS => ?_)
  refine seq_take (v := ?_) rfl (by kernel_rfl) (by kernel_rfl) (by kernel_rfl) (Or.inl ⟨by rfl, fun w' hSw => ?_⟩) (by assumption) ?_
  rotate_left
  · go_simp
    with_reducible rfl
  simp only [Act.put, List.setIfInBounds_toArray, List.set_cons_zero, List.set_cons_succ]
  refine seq_take (v := ?_) rfl (by kernel_rfl) (by kernel_rfl) (by kernel_rfl) (Or.inl ⟨by rfl, fun w' hSw => ?_⟩) (by assumption) ?_
  rotate_left
  · go_simp
    with_reducible rfl
  simp only [Act.put, List.setIfInBounds_toArray, List.set_cons_zero, List.set_cons_succ]
  refine seq_take (v := ?_) rfl (by kernel_rfl) (by kernel_rfl) (by kernel_rfl) (Or.inl ⟨by rfl, fun w' hSw => ?_⟩) (by assumption) ?_
  rotate_left
  · go_simp
    with_reducible rfl
  simp only [Act.put, List.setIfInBounds_toArray, List.set_cons_zero, List.set_cons_succ]
  refine seq_take (v := ?_) rfl (by kernel_rfl) (by kernel_rfl) (by kernel_rfl) (Or.inl ⟨by rfl, fun w' hSw => ?_⟩) (by assumption) ?_
  rotate_left
  · go_simp
    with_reducible rfl
  simp only [Act.put, List.setIfInBounds_toArray, List.set_cons_zero, List.set_cons_succ]
  refine seq_do rfl (by kernel_rfl) (by rfl) (fun K hK => ?_)
  go_simp
  refine (head_any 0 _ (by omega)).mono ?_
  rintro e w' ⟨rfl, rfl⟩
  have la : bits .andNot .u8 (b.toNat : Int) 0 = ((tail b : Nat) : Int) := by have := LA.out; rw [H0.out] at this; unfold tail; rw [H0.out]; exact this
  have ht0 : tail b < 256 := by unfold tail; omega
  have hw0 : IntKind.u64.wrap ((tail b : Nat) : Int) = ((tail b : Nat) : Int) := by rw [IntKind.wrap_u64]; omega
  refine hK.out (fun x => Keeps [] w x) _ _ (fun x h => h) hS (fun hS => ?_)
  refine seq_take (v := ?_) rfl (by kernel_rfl) (by kernel_rfl) (by kernel_rfl) (Or.inl ⟨by rfl, fun w' hSw => ?_⟩) (by assumption) ?_
  rotate_left
  · go_simp
    with_reducible rfl
  simp only [Act.put, List.setIfInBounds_toArray, List.set_cons_zero, List.set_cons_succ]
  refine seq_take (v := ?_) rfl (by kernel_rfl) (by kernel_rfl) (by kernel_rfl) (Or.inl ⟨by rfl, fun w' hSw => ?_⟩) (by assumption) ?_
  rotate_left
  · go_simp
    with_reducible rfl
  simp only [Act.put, List.setIfInBounds_toArray, List.set_cons_zero, List.set_cons_succ]
  refine seq_take (v := ?_) rfl (by kernel_rfl) (by kernel_rfl) (by kernel_rfl) (Or.inl ⟨by rfl, fun w' hSw => ?_⟩) (by assumption) ?_
  rotate_left
  · go_simp
    with_reducible rfl
  simp only [Act.put, List.setIfInBounds_toArray, List.set_cons_zero, List.set_cons_succ]
  refine seq_done (by kernel_rfl) ?_
  all_goals skip
  clear q0 la
  have HS := Lib.hid hS
  have ht2 : tail b < 18446744073709551616 := by omega
  clear hS
  go_wp2_with fail
  refine wp_loop_rounds 1 ?_
  rw [rounds_succ]
  go_wp2_with fail
  refine (behind_any (tail b) _ ht2).mono ?_
  rintro e w' ⟨rfl, rfl⟩
  have e1 : numB [b] = if bh (tail b) = 0 then (tail b, 1, 0) else (0, 0, 3) := by rw [numB_cons, H0.out]; rfl
  by_cases hbk : bh (tail b) = 0
  · rw [hbk]
    go_wp2_with fail
    refine bodyPost_ret (v := .tuple #[.int .u64 (tail b : Nat), .int .i64 1, .nilIface]) (by simp [results, Tryd.results59, go_sem]) rfl ⟨?_, HS.out⟩
    rw [e1, if_pos hbk]; rfl
  · have hbk' : ((bh (tail b) : Nat) : Int) ≠ 0 := by omega
    go_wp2_with fail
    refine bodyPost_ret (v := .tuple #[.int .u64 0, .int .i64 0, .iface 58 (.int .i64 3)]) (by simp [results, Tryd.results59, go_sem]) rfl ⟨?_, HS.out⟩
    rw [e1, if_neg hbk]; rfl

set_option maxHeartbeats 1000000 in
theorem number_all (A : Option Addr) (b : UInt8) (t : List UInt8) (c : Nat) (w : World) (hl : t.length + 1 ≤ 140737488355328) (hc : t.length + 1 ≤ c) (hc1 : ¬ c = 1) (hr : RdB w A (b :: t)) (ht : ¬ t.length < lead b) :
    Calls Tryd.prog 59 #[.slice A (t.length + 1) c] w (NumP (numB (b :: t)) w) := by
  obtain ⟨g, o, rfl, hcell⟩ := hr.form (by simp)
  have q0 : w.cell? ⟨g, o, none⟩ = some (.int .u8 (b.toNat : Int)) := hcell 0 (by simp)
  have hn := not_byte b
  have hb := b.toNat_lt
  have h8 := lead_le b
  have LA := Lib.hid (lead_andNot b)
  have HC := Lib.hid hcell
  clear hcell hr
  go_enter Tryd.func59, Tryd.ntmps59
  go_wp2_with fail
  refine (lz_any b _).mono ?_
  rintro e w' ⟨rfl, rfl⟩
  have hk8 : (lead b : Int) ≤ 8 := by omega
  have ht' : ¬ ((t.length : Int) + 1 ≤ (lead b : Int)) := by omega
  go_wp2_with fail
  have hq : ∀ w', Keeps [] w w' → w'.cell? ⟨g, o, none⟩ = some (.int .u8 (b.toNat : Int)) := fun w' h => h.cell q0 (by simp)
  refine seq_start (by kernel_rfl) (fun x => Keeps [] w x) 8 [0, 1, 2, 3, 4, 5, 6, 7] rfl ((Keeps.refl [] w).drew) (fun hS => ?_)
  refine seq_take (v := ?_) rfl (by kernel_rfl) (by kernel_rfl) (by kernel_rfl) (Or.inl ⟨by rfl, fun w' hSw => ?_⟩) (by assumption) ?_
  rotate_left
  · go_simp
    with_reducible rfl
  simp only [Act.put, List.setIfInBounds_toArray, List.set_cons_zero, List.set_cons_succ]
  refine seq_take (v := ?_) rfl (by kernel_rfl) (by kernel_rfl) (by kernel_rfl) (Or.inl ⟨by rfl, fun w' hSw => ?_⟩) (by assumption) ?_
  rotate_left
  · go_simp
    with_reducible rfl
  simp only [Act.put, List.setIfInBounds_toArray, List.set_cons_zero, List.set_cons_succ]
  refine seq_take (v := ?_) rfl (by kernel_rfl) (by kernel_rfl) (by kernel_rfl) (Or.inl ⟨by rfl, fun w' hSw => ?_⟩) (by assumption) ?_
  rotate_left
  · go_simp
    with_reducible rfl
  simp only [Act.put, List.setIfInBounds_toArray, List.set_cons_zero, List.set_cons_succ]
  refine seq_take (v := ?_) rfl (by kernel_rfl) (by kernel_rfl) (by kernel_rfl) (Or.inl ⟨by rfl, fun w' hSw => ?_⟩) (by assumption) ?_
  rotate_left
  · go_simp
    with_reducible rfl
  simp only [Act.put, List.setIfInBounds_toArray, List.set_cons_zero, List.set_cons_succ]
  refine seq_do rfl (by kernel_rfl) (by rfl) (fun K hK => ?_)
  go_simp
  refine (head_any (lead b) _ (by omega)).mono ?_
  rintro e w' ⟨rfl, rfl⟩
  have la : bits .andNot .u8 (b.toNat : Int) ((256 - 2 ^ (8 - lead b) : Nat) : Int) = ((tail b : Nat) : Int) := LA.out
  have ht0 : tail b < 256 := by unfold tail; omega
  have hw0 : IntKind.u64.wrap ((tail b : Nat) : Int) = ((tail b : Nat) : Int) := by rw [IntKind.wrap_u64]; omega
  refine hK.out (fun x => Keeps [] w x) _ _ (fun x h => h) hS (fun hS => ?_)
  refine seq_take (v := ?_) rfl (by kernel_rfl) (by kernel_rfl) (by kernel_rfl) (Or.inl ⟨by rfl, fun w' hSw => ?_⟩) (by assumption) ?_
  rotate_left
  · go_simp
    with_reducible rfl
  simp only [Act.put, List.setIfInBounds_toArray, List.set_cons_zero, List.set_cons_succ]
  refine seq_take (v := ?_) rfl (by kernel_rfl) (by kernel_rfl) (by kernel_rfl) (Or.inl ⟨by rfl, fun w' hSw => ?_⟩) (by assumption) ?_
  rotate_left
  · go_simp
    with_reducible rfl
  simp only [Act.put, List.setIfInBounds_toArray, List.set_cons_zero, List.set_cons_succ]
  refine seq_take (v := ?_) rfl (by kernel_rfl) (by kernel_rfl) (by kernel_rfl) (Or.inl ⟨by rfl, fun w' hSw => ?_⟩) (by assumption) ?_
  rotate_left
  · go_simp
    with_reducible rfl
  simp only [Act.put, List.setIfInBounds_toArray, List.set_cons_zero, List.set_cons_succ]
  refine seq_done (by kernel_rfl) ?_
  all_goals skip
  clear q0 la
  have HS := Lib.hid hS
  clear hS
  have hkt : lead b ≤ t.length := by omega
  have i1 : (1 : Int) ≤ (lead b : Int) + 1 := by omega
  have i2 : (lead b : Int) + 1 ≤ (c : Int) := by omega
  go_wp2_with fail
  go_loop [6, 35] (fun n i => ∃ j : Nat, j ≤ lead b ∧ i = .int .i64 j ∧ n = .int .u64 (acc (tail b) (t.take j) : Nat)) (fun _ i => lead b - (intOf i).toNat)
  case atStart => exact ⟨0, Nat.zero_le _, rfl, rfl⟩
  case round =>
    obtain ⟨j, hj, rfl, rfl⟩ := hrel
    by_cases hlt : j < lead b
    · have hjt : j < t.length := by omega
      have hcj : w.drew.cell? ⟨g, o + 1 + j, none⟩ = some (.int .u8 (t[j].toNat : Int)) := by
        have := HC.out (j + 1) (by simp; omega)
        rw [List.getElem_cons_succ] at this
        rw [show o + 1 + j = o + (j + 1) by omega]; exact this
      have hs := shift8 (acc (tail b) (t.take j)) t[j] (acc_small b t j hlt)
      have hsn := Lib.hid (show acc (tail b) (t.take j) * 256 + t[j].toNat = acc (tail b) (t.take (j + 1)) by rw [List.take_succ_eq_append_getElem hjt, acc_snoc])
      have hsm := acc_small b t j hlt
      have hsm' : ((acc (tail b) (t.take j) : Nat) : Int) < 72057594037927936 := by omega
      have hbj := rbyte_lt t[j]
      go_wp2_with fail
      go_round
      case rel => exact ⟨j + 1, by omega, by go_num, by rw [← hsn.out, Int.natCast_add, Int.natCast_mul]; rfl⟩
      case measure => simp [intOf]; omega
    · obtain rfl : j = lead b := by omega
      have hall := acc_all b t hkt
      have hall' : ((acc (tail b) (t.take (lead b)) : Nat) : Int) < 18446744073709551616 := by omega
      go_wp2_with fail
      refine (behind_any (acc (tail b) (t.take (lead b))) _ hall).mono ?_
      rintro e w' ⟨rfl, rfl⟩
      by_cases hbk : bh (acc (tail b) (t.take (lead b))) = lead b
      · rw [hbk]
        go_wp2_with fail
        refine bodyPost_ret (v := .tuple #[.int .u64 (acc (tail b) (t.take (lead b)) : Nat), .int .i64 ((lead b : Int) + 1), .nilIface]) (by simp [results, Tryd.results59, go_sem]) rfl ⟨?_, HS.out⟩
        rw [numB_cons, if_neg ht, if_pos hbk, errV_zero]; simp only [Int.natCast_add, Int.natCast_one]
      · obtain ⟨m, hm⟩ : ∃ m, m = bh (acc (tail b) (t.take (lead b))) := ⟨_, rfl⟩
        rw [← hm]
        have hbk' : ¬ (m : Int) = (lead b : Int) := by omega
        have HM := Lib.hid hm
        have HBK := Lib.hid hbk
        clear hm hbk hall hall'
        go_wp2_with fail
        refine bodyPost_ret (v := .tuple #[.int .u64 0, .int .i64 0, .iface 58 (.int .i64 3)]) (by simp [results, Tryd.results59, go_sem]) rfl ⟨?_, HS.out⟩
        rw [numB_cons, if_neg ht, if_neg HBK.out]; rfl

theorem number_any (A : Option Addr) (l : List UInt8) (c : Nat) (w : World) (hl : l.length ≤ 140737488355328) (hc : l.length ≤ c) (hr : RdB w A l) :
    Calls Tryd.prog 59 #[.slice A l.length c] w (NumP (numB l) w) := by
  rcases l with _ | ⟨b, t⟩
  · exact number_nil A c w
  · have hl' : t.length + 1 ≤ 140737488355328 := by simpa using hl
    have hc' : t.length + 1 ≤ c := by simpa using hc
    by_cases ht : t.length < lead b
    · exact number_end A b t c w hl' hr ht
    · by_cases h1 : c = 1
      · subst h1
        have h0 : t = [] := List.eq_nil_of_length_eq_zero (by omega)
        subst h0
        exact number_one A b w hr (by simpa using ht)
      · exact number_all A b t c w hl' hc' h1 hr ht
end Go.Proofs.YtljinghhalcnnaaDoor
namespace Go.Proofs.YtljinghhalcnnaaDoor
open Go.RowKit

/-- A reader: its block, the bytes that are left, the first error. -/
def Rdr (w : World) (g : Nat) (A : Option Addr) (c : Nat) (l : List UInt8) (e : Int) : Prop :=
  w.heap[g]? = some (.cells #[.slice A l.length c, errV e] 88 (0, 0)) ∧ RdB w A l ∧ l.length ≤ c ∧ l.length ≤ 140737488351232 ∧ (∀ a, A = some a → 0 < l.length → a.block ≠ g)
theorem Rdr.lt {w : World} {g : Nat} {A : Option Addr} {c : Nat} {l : List UInt8} {e : Int} (h : Rdr w g A c l e) : g < w.heap.size := lt_of_block h.1
theorem Rdr.keeps {S : List Nat} {w w' : World} {g : Nat} {A : Option Addr} {c : Nat} {l : List UInt8} {e : Int} (h : Rdr w g A c l e) (hk : Keeps S w w') (hg : g ∉ S) (hA : ∀ a, A = some a → 0 < l.length → a.block ∉ S) : Rdr w' g A c l e :=
  ⟨(hk.block g h.lt hg).trans h.1, h.2.1.keeps hk hA, h.2.2.1, h.2.2.2.1, h.2.2.2.2⟩
theorem Rdr.keeps0 {w w' : World} {g : Nat} {A : Option Addr} {c : Nat} {l : List UInt8} {e : Int} (h : Rdr w g A c l e) (hk : Keeps [] w w') : Rdr w' g A c l e := h.keeps hk (by simp) (by simp)
theorem Rdr.c0 {w : World} {g : Nat} {A : Option Addr} {c : Nat} {l : List UInt8} {e : Int} (h : Rdr w g A c l e) : w.cell? ⟨g, 0, none⟩ = some (.slice A l.length c) := by rw [cell_of_row _ _ _ _ _ _ h.1]; rfl
theorem Rdr.c1 {w : World} {g : Nat} {A : Option Addr} {c : Nat} {l : List UInt8} {e : Int} (h : Rdr w g A c l e) : w.cell? ⟨g, 1, none⟩ = some (errV e) := by rw [cell_of_row _ _ _ _ _ _ h.1]; rfl
theorem Rdr.f0 {w : World} {g : Nat} {A : Option Addr} {c : Nat} {l : List UInt8} {e : Int} (h : Rdr w g A c l e) : w.frozen? ⟨g, 0, none⟩ = false := frozen_of_row w g 0 _ _ h.1
theorem Rdr.f1 {w : World} {g : Nat} {A : Option Addr} {c : Nat} {l : List UInt8} {e : Int} (h : Rdr w g A c l e) : w.frozen? ⟨g, 1, none⟩ = false := frozen_of_row w g 1 _ _ h.1
theorem Rdr.bad {w : World} {g : Nat} {A : Option Addr} {c : Nat} {l : List UInt8} {e : Int} (h : Rdr w g A c l e) (e' : Int) : Rdr (w.setCell ⟨g, 1, none⟩ (errV e')) g A c l e' :=
  ⟨by rw [heap_setCell_same w g 1 _ _ _ h.1]; rfl, h.2.1.keeps (Keeps.setCell (S := [g]) (p := ⟨g, 1, none⟩) (Keeps.refl [g] w) (.inl (by simp)) _) (fun a ha hl => by simpa using h.2.2.2.2 a ha hl), h.2.2⟩
theorem Rdr.took {w : World} {g : Nat} {A : Option Addr} {c : Nat} {l : List UInt8} {e : Int} (h : Rdr w g A c l e) (A' : Option Addr) (c' : Nat) (l' : List UInt8) (hr : RdB w A' l') (hc : l'.length ≤ c') (hl : l'.length ≤ 140737488351232)
    (hA : ∀ a, A' = some a → 0 < l'.length → a.block ≠ g) : Rdr (w.setCell ⟨g, 0, none⟩ (.slice A' l'.length c')) g A' c' l' e :=
  ⟨by rw [heap_setCell_same w g 0 _ _ _ h.1]; rfl, hr.keeps (Keeps.setCell (S := [g]) (p := ⟨g, 0, none⟩) (Keeps.refl [g] w) (.inl (by simp)) _) (fun a ha hl => by simpa using hA a ha hl), hc, hl, hA⟩
/-- The slice behind the first k of a slice. -/
theorem RdB.behind {w : World} {g o : Nat} {l : List UInt8} (h : RdB w (some ⟨g, o, none⟩) l) (k : Nat) (hk : k ≤ l.length) (A' : Option Addr) (hA : 0 < l.length - k → A' = some ⟨g, o + k, none⟩) : RdB w A' (l.drop k) := by
  have := h.part k (l.length - k) (by omega) (A' := A') (fun hm ad e => by rw [hA hm, ← Option.some.inj e, add_new])
  rwa [List.take_of_length_le (by simp)] at this
theorem RdB.front {w : World} {g o : Nat} {l : List UInt8} (h : RdB w (some ⟨g, o, none⟩) l) (k : Nat) (hk : k ≤ l.length) (A' : Option Addr) (hA : 0 < k → A' = some ⟨g, o, none⟩) : RdB w A' (l.take k) := by
  have := h.part 0 k (by omega) (A' := A') (fun hm ad e => by rw [hA hm, ← Option.some.inj e, add_new]; rfl)
  simpa using this

/-- A reader's call: what is left, the error, the value. -/
def RdPost (g : Nat) (A : Option Addr) (l : List UInt8) (e : Int) (v : Value) (w : World) (en : Ending) (w' : World) : Prop :=
  ∃ A' c' l', Hid (l' = l) ∧ en = .returned v ∧ Rdr w' g A' c' l' e ∧ Keeps [g] w w' ∧ (∀ a, A' = some a → a.block ∈ blk A)
theorem Rdr.post {w : World} {g : Nat} {A : Option Addr} {c : Nat} {l : List UInt8} {e : Int} (h : Rdr w g A c l e) (v : Value) : RdPost g A l e v w (.returned v) w := ⟨A, c, l, rfl, rfl, h, Keeps.refl _ _, fun a ha => mem_blk.2 ⟨a, ha, rfl⟩⟩
theorem RdPost.before {w w1 w' : World} {g : Nat} {A : Option Addr} {l : List UInt8} {e : Int} {v : Value} {en : Ending} (hk : Keeps [g] w w1) (h : RdPost g A l e v w1 en w') : RdPost g A l e v w en w' := by
  obtain ⟨A', c', l', hl, he, hr, hk1, ha⟩ := h
  exact ⟨A', c', l', hl, he, hr, hk.trans hk1 (fun t ht => .inl ht), ha⟩
theorem RdPost.block {w w' : World} {g : Nat} {A B : Option Addr} {l : List UInt8} {e : Int} {v : Value} {en : Ending} (hB : ∀ a, B = some a → a.block ∈ blk A) (h : RdPost g B l e v w en w') : RdPost g A l e v w en w' := by
  obtain ⟨A', c', l', hl, he, hr, hk1, ha⟩ := h
  refine ⟨A', c', l', hl, he, hr, hk1, fun a h1 => ?_⟩
  obtain ⟨b, e1, e2⟩ := mem_blk.1 (ha a h1)
  rw [← e2]; exact hB b e1

theorem read_any (A : Option Addr) (l : List UInt8) (c : Nat) (w : World) (hl : l.length ≤ 140737488351232) (hc : l.length ≤ c) (hr : RdB w A l) (hA : ∀ a, A = some a → 0 < l.length → a.block < w.heap.size) :
    Calls Tryd.prog 19 #[.slice A l.length c] w fun e w' => e = .returned (.pointer (some ⟨w.heap.size, 0, none⟩)) ∧ Rdr w' w.heap.size A c l 0 ∧ Keeps [] w w' := by
  have HR := Lib.hid hr
  clear hr
  go_enter Tryd.func19, Tryd.ntmps19
  go_wp2_with fail
  go_ret
  exact ⟨rfl, ⟨heap_alloc_new _ _, HR.out.alloc _, hc, hl, fun a ha h => Nat.ne_of_lt (hA a ha h)⟩, (Keeps.refl [] w).alloc _⟩

theorem stuck_nil (w : World) : Calls Tryd.prog 42 #[.pointer none] w fun e w' => e = .returned (.bool true) ∧ w = w' := by
  go_enter Tryd.func42, Tryd.ntmps42
  go_wp2_with fail
  go_ret
  exact ⟨rfl, rfl⟩
theorem stuck_any (g : Nat) (A : Option Addr) (c : Nat) (l : List UInt8) (e : Int) (w : World) (h : Rdr w g A c l e) : Calls Tryd.prog 42 #[.pointer (some ⟨g, 0, none⟩)] w fun en w' => en = .returned (.bool (decide (e ≠ 0))) ∧ w = w' := by
  have c1 := h.c1
  clear h
  by_cases he : e = 0
  · subst he
    rw [errV_zero] at c1
    go_enter Tryd.func42, Tryd.ntmps42
    go_wp2_with fail
    go_ret
    exact ⟨rfl, rfl⟩
  · rw [errV_other he] at c1
    go_enter Tryd.func42, Tryd.ntmps42
    go_wp2_with fail
    go_ret
    exact ⟨by simp [he], rfl⟩
end Go.Proofs.YtljinghhalcnnaaDoor
namespace Go.Proofs.YtljinghhalcnnaaDoor
open Go.RowKit
theorem OwnB.cap {E : TypeId} {w : World} {A : Option Addr} {c : Nat} {l : List UInt8} (h : OwnB E w A c l) : l.length ≤ c := by
  rcases h.2 with ⟨h1, h2⟩ | ⟨g, cap, cur, h1, _, _, h2, _⟩
  · rw [h2]; exact Nat.zero_le _
  · injection h1 with _ _ h3; rw [h3]; exact h2
theorem errof_any (g : Nat) (A : Option Addr) (c : Nat) (l : List UInt8) (e : Int) (w : World) (h : Rdr w g A c l e) :
    Calls Tryd.prog 45 #[.pointer (some ⟨g, 0, none⟩)] w fun en w' => en = .returned (errV e) ∧ w = w' := by
  have c1 := h.c1
  clear h
  go_enter Tryd.func45, Tryd.ntmps45
  go_wp2_with fail
  go_ret
  exact ⟨rfl, rfl⟩
/-- The first error, or that bytes are left. -/
def doneR (l : List UInt8) (e : Int) : Int := if e ≠ 0 then e else if l.length = 0 then 0 else 3
theorem rddone_any (g : Nat) (A : Option Addr) (c : Nat) (l : List UInt8) (e : Int) (w : World) (h : Rdr w g A c l e) :
    Calls Tryd.prog 24 #[.pointer (some ⟨g, 0, none⟩)] w fun en w' => en = .returned (errV (doneR l e)) ∧ w = w' := by
  have H := Lib.hid h
  have c0 := h.c0
  clear h
  by_cases he : e = 0
  · subst he
    by_cases hl : l.length = 0
    · have e1 : doneR l 0 = 0 := by unfold doneR; rw [if_neg (by simp), if_pos hl]
      rw [e1, errV_zero]
      rw [hl] at c0
      go_enter Tryd.func24, Tryd.ntmps24
      go_wp2_with fail
      refine (errof_any g A c l 0 _ H.out).mono ?_
      rintro en w' ⟨rfl, rfl⟩
      rw [errV_zero]
      go_wp2_with fail
      go_ret
      exact ⟨rfl, rfl⟩
    · have e1 : doneR l 0 = 3 := by unfold doneR; rw [if_neg (by simp), if_neg hl]
      rw [e1, errV_other (by decide)]
      have hl' : ¬ (l.length : Int) = 0 := by omega
      go_enter Tryd.func24, Tryd.ntmps24
      go_wp2_with fail
      refine (errof_any g A c l 0 _ H.out).mono ?_
      rintro en w' ⟨rfl, rfl⟩
      rw [errV_zero]
      go_wp2_with fail
      go_ret
      exact ⟨rfl, rfl⟩
  · have e1 : doneR l e = e := by unfold doneR; rw [if_pos he]
    rw [e1, errV_other he]
    go_enter Tryd.func24, Tryd.ntmps24
    go_wp2_with fail
    refine (errof_any g A c l e _ H.out).mono ?_
    rintro en w' ⟨rfl, rfl⟩
    rw [errV_other he]
    go_wp2_with fail
    go_ret
    exact ⟨rfl, rfl⟩
end Go.Proofs.YtljinghhalcnnaaDoor
namespace Go.Proofs.YtljinghhalcnnaaDoor
open Go.RowKit

theorem Rdr.took_n {w : World} {g : Nat} {A : Option Addr} {c : Nat} {l : List UInt8} {e : Int} (h : Rdr w g A c l e) (A' : Option Addr) (n c' : Nat) (l' : List UInt8) (hn : l'.length = n) (hr : RdB w A' l') (hc : n ≤ c') (hl : n ≤ 140737488351232)
    (hA : ∀ a, A' = some a → 0 < n → a.block ≠ g) : Rdr (w.setCell ⟨g, 0, none⟩ (.slice A' n c')) g A' c' l' e := by
  subst hn
  exact h.took A' c' l' hr hc hl hA
/-- A number up to a bound: what is left, the error, the number. -/
def bnd (most : Nat) (above left : Int) (l : List UInt8) : List UInt8 × Int × Nat :=
  if (numB l).2.2 ≠ 0 then (l, (numB l).2.2, 0)
  else if most < (numB l).1 then (l, above, 0)
  else if l.length - (numB l).2.1 < (numB l).1 ∧ left ≠ 0 then (l, left, 0)
  else (l.drop (numB l).2.1, 0, (numB l).1)
def RdV (g : Nat) (A : Option Addr) (r : List UInt8 × Int × Nat) (w : World) (en : Ending) (w' : World) : Prop := RdPost g A r.1 r.2.1 (.int .u64 (r.2.2 : Nat)) w en w'
theorem numB_ok {l : List UInt8} {n k : Nat} (h : numB l = (n, k, 0)) : 0 < l.length := by
  cases l with
  | nil => simp [numB] at h
  | cons b t => simp

theorem bounded_bad (g : Nat) (A : Option Addr) (c : Nat) (l : List UInt8) (e : Int) (w : World) (h : Rdr w g A c l e) (he : e ≠ 0) (most : Nat) (v1 v2 : Value) :
    Calls Tryd.prog 41 #[.pointer (some ⟨g, 0, none⟩), .agg #[.int .u64 most, v1, v2]] w (RdV g A (l, e, 0) w) := by
  have H := Lib.hid h
  have hd : decide (e ≠ 0) = true := by simp [he]
  clear h
  go_enter Tryd.func41, Tryd.ntmps41
  go_wp2_with fail
  refine (stuck_any g A c l e _ (H.out.keeps0 ((Keeps.refl [] w).alloc _))).mono ?_
  rintro en w' ⟨rfl, rfl⟩
  rw [hd]
  go_wp2_with fail
  go_ret
  exact RdPost.before ((Keeps.refl [g] w).alloc _) ((H.out.keeps0 ((Keeps.refl [] w).alloc _)).post _)

set_option maxHeartbeats 2000000 in
theorem bounded_any (g : Nat) (A : Option Addr) (c : Nat) (l : List UInt8) (w : World) (h : Rdr w g A c l 0) (most : Nat) (above left : Int) (ha : above ≠ 0) :
    Calls Tryd.prog 41 #[.pointer (some ⟨g, 0, none⟩), .agg #[.int .u64 most, errV above, errV left]] w (RdV g A (bnd most above left l) w) := by
  have H := Lib.hid h
  obtain ⟨⟨n, k, er⟩, hnb⟩ : ∃ r, r = numB l := ⟨_, rfl⟩
  have hlt := numB_lt l
  rw [← hnb] at hlt
  obtain ⟨h1, h2, h3, h4⟩ := hlt
  simp only at h1 h2 h3 h4
  have h64 := h.2.2.2.1
  have hcl := h.2.2.1
  have HNB := Lib.hid hnb
  rw [errV_other ha]
  have HA := Lib.hid ha
  clear h ha
  by_cases her : er = 0
  · subst her
    have hpos := numB_ok hnb.symm
    obtain ⟨gA, oA, rfl, _⟩ := H.out.2.1.form hpos
    by_cases hmost : most < n
    · have hmost' : (most : Int) < (n : Int) := by omega
      have hd : decide ((0 : Int) ≠ 0) = false := by simp
      clear hnb
      go_enter Tryd.func41, Tryd.ntmps41
      go_wp2_with fail
      refine (stuck_any g _ c l 0 _ (H.out.keeps0 ((Keeps.refl [] w).alloc _))).mono ?_
      rintro en w' ⟨rfl, rfl⟩
      rw [hd]
      have c0 := (H.out.keeps0 ((Keeps.refl [] w).alloc (.cells #[.int .u64 most, .iface 58 (.int .i64 above), errV left] 91))).c0
      go_wp2_with fail
      refine (number_any _ l c _ (by omega) hcl (H.out.2.1.alloc _)).mono ?_
      rintro en w2 ⟨rfl, hk2⟩
      rw [← HNB.out, errV_zero]
      have b0 : w2.cell? ⟨w.heap.size, 0, none⟩ = some (.int .u64 most) := hk2.cell (by simp) (by simp)
      have b1 : w2.cell? ⟨w.heap.size, 1, none⟩ = some (.iface 58 (.int .i64 above)) := hk2.cell (by simp) (by simp)
      have b2 : w2.cell? ⟨w.heap.size, 2, none⟩ = some (errV left) := hk2.cell (by simp) (by simp)
      have K2 := Lib.hid (((Keeps.refl [] w).alloc _).trans hk2 (by simp))
      have H2 := Lib.hid (H.out.keeps0 K2.out)
      have f1 := H2.out.f1
      have f0 := H2.out.f0
      have c0 := H2.out.c0
      have c1 := H2.out.c1
      rw [errV_zero] at c1
      clear hk2
      go_wp2_with fail
      go_ret
      have e1 : bnd most above left l = (l, above, 0) := by unfold bnd; rw [← HNB.out, if_neg (by simp), if_pos hmost]
      rw [e1]
      refine RdPost.before (K2.out.mono (by simp)) (RdPost.before ?_ ((errV_other (n := above) (by first | exact her | exact HA.out | exact hl0) ▸ H2.out.bad above).post _))
      exact Keeps.setCell (p := ⟨g, 1, none⟩) (Keeps.refl [g] w2) (.inl (by simp)) _
    · have hmost' : ¬ (most : Int) < (n : Int) := by omega
      have hk0 : (0 : Int) ≤ (k : Int) := by omega
      have hkl : (k : Int) ≤ (l.length : Int) := by omega
      have hkc : (k : Int) ≤ (c : Int) := by omega
      have hwr : IntKind.u64.wrap ((l.length : Int) - (k : Int)) = (l.length : Int) - (k : Int) := by rw [IntKind.wrap_u64]; omega
      by_cases hleft : l.length - k < n
      · have hleft' : (l.length : Int) - (k : Int) < (n : Int) := by omega
        by_cases hl0 : left = 0
        · subst hl0
          have hd : decide ((0 : Int) ≠ 0) = false := by simp
          clear hnb
          go_enter Tryd.func41, Tryd.ntmps41
          go_wp2_with fail
          refine (stuck_any g _ c l 0 _ (H.out.keeps0 ((Keeps.refl [] w).alloc _))).mono ?_
          rintro en w' ⟨rfl, rfl⟩
          rw [hd]
          have c0 := (H.out.keeps0 ((Keeps.refl [] w).alloc (.cells #[.int .u64 most, .iface 58 (.int .i64 above), errV 0] 91))).c0
          go_wp2_with fail
          refine (number_any _ l c _ (by omega) hcl (H.out.2.1.alloc _)).mono ?_
          rintro en w2 ⟨rfl, hk2⟩
          rw [← HNB.out, errV_zero]
          have b0 : w2.cell? ⟨w.heap.size, 0, none⟩ = some (.int .u64 most) := hk2.cell (by simp) (by simp)
          have b1 : w2.cell? ⟨w.heap.size, 1, none⟩ = some (.iface 58 (.int .i64 above)) := hk2.cell (by simp) (by simp)
          have b2 : w2.cell? ⟨w.heap.size, 2, none⟩ = some .nilIface := hk2.cell (by simp [errV_zero]) (by simp)
          have K2 := Lib.hid (((Keeps.refl [] w).alloc _).trans hk2 (by simp))
          have H2 := Lib.hid (H.out.keeps0 K2.out)
          have f1 := H2.out.f1
          have f0 := H2.out.f0
          have c0 := H2.out.c0
          have c1 := H2.out.c1
          rw [errV_zero] at c1
          clear hk2
          go_wp2_with fail
          all_goals
            go_ret
            have e1 : bnd most above 0 l = (l.drop k, 0, n) := by unfold bnd; rw [← HNB.out, if_neg (by simp), if_neg hmost, if_neg (by simp)]
            rw [e1]
            refine RdPost.before (K2.out.mono (by simp)) ?_
            exact ⟨_, _, _, rfl, rfl, Rdr.took_n H2.out _ _ _ _ (by simp) (RdB.behind H2.out.2.1 k h3 _ (by intro hq; first | rfl | omega)) (by omega) (by omega) (fun a ha hl => by first | (exfalso; omega) | (rw [← Option.some.inj ha]; exact H2.out.2.2.2.2 ⟨gA, oA, none⟩ rfl (by omega))), Keeps.setCell (p := ⟨g, 0, none⟩) (Keeps.refl [g] w2) (.inl (by simp)) _, fun a ha => by rw [← Option.some.inj ha]; exact mem_blk.2 ⟨_, rfl, rfl⟩⟩
        · rw [errV_other hl0]
          have hd : decide ((0 : Int) ≠ 0) = false := by simp
          clear hnb
          go_enter Tryd.func41, Tryd.ntmps41
          go_wp2_with fail
          refine (stuck_any g _ c l 0 _ (H.out.keeps0 ((Keeps.refl [] w).alloc _))).mono ?_
          rintro en w' ⟨rfl, rfl⟩
          rw [hd]
          have c0 := (H.out.keeps0 ((Keeps.refl [] w).alloc (.cells #[.int .u64 most, .iface 58 (.int .i64 above), .iface 58 (.int .i64 left)] 91))).c0
          go_wp2_with fail
          refine (number_any _ l c _ (by omega) hcl (H.out.2.1.alloc _)).mono ?_
          rintro en w2 ⟨rfl, hk2⟩
          rw [← HNB.out, errV_zero]
          have b0 : w2.cell? ⟨w.heap.size, 0, none⟩ = some (.int .u64 most) := hk2.cell (by simp) (by simp)
          have b1 : w2.cell? ⟨w.heap.size, 1, none⟩ = some (.iface 58 (.int .i64 above)) := hk2.cell (by simp) (by simp)
          have b2 : w2.cell? ⟨w.heap.size, 2, none⟩ = some (.iface 58 (.int .i64 left)) := hk2.cell (by simp) (by simp)
          have K2 := Lib.hid (((Keeps.refl [] w).alloc _).trans hk2 (by simp))
          have H2 := Lib.hid (H.out.keeps0 K2.out)
          have f1 := H2.out.f1
          have f0 := H2.out.f0
          have c0 := H2.out.c0
          have c1 := H2.out.c1
          rw [errV_zero] at c1
          clear hk2
          go_wp2_with fail
          go_ret
          have e1 : bnd most above left l = (l, left, 0) := by unfold bnd; rw [← HNB.out, if_neg (by simp), if_neg hmost, if_pos ⟨hleft, hl0⟩]
          rw [e1]
          refine RdPost.before (K2.out.mono (by simp)) (RdPost.before ?_ ((errV_other (n := left) (by first | exact her | exact HA.out | exact hl0) ▸ H2.out.bad left).post _))
          exact Keeps.setCell (p := ⟨g, 1, none⟩) (Keeps.refl [g] w2) (.inl (by simp)) _
      · have hleft' : ¬ (l.length : Int) - (k : Int) < (n : Int) := by omega
        have hd : decide ((0 : Int) ≠ 0) = false := by simp
        clear hnb
        go_enter Tryd.func41, Tryd.ntmps41
        go_wp2_with fail
        refine (stuck_any g _ c l 0 _ (H.out.keeps0 ((Keeps.refl [] w).alloc _))).mono ?_
        rintro en w' ⟨rfl, rfl⟩
        rw [hd]
        have c0 := (H.out.keeps0 ((Keeps.refl [] w).alloc (.cells #[.int .u64 most, .iface 58 (.int .i64 above), errV left] 91))).c0
        go_wp2_with fail
        refine (number_any _ l c _ (by omega) hcl (H.out.2.1.alloc _)).mono ?_
        rintro en w2 ⟨rfl, hk2⟩
        rw [← HNB.out, errV_zero]
        have b0 : w2.cell? ⟨w.heap.size, 0, none⟩ = some (.int .u64 most) := hk2.cell (by simp) (by simp)
        have b1 : w2.cell? ⟨w.heap.size, 1, none⟩ = some (.iface 58 (.int .i64 above)) := hk2.cell (by simp) (by simp)
        have b2 : w2.cell? ⟨w.heap.size, 2, none⟩ = some (errV left) := hk2.cell (by simp) (by simp)
        have K2 := Lib.hid (((Keeps.refl [] w).alloc _).trans hk2 (by simp))
        have H2 := Lib.hid (H.out.keeps0 K2.out)
        have f1 := H2.out.f1
        have f0 := H2.out.f0
        have c0 := H2.out.c0
        have c1 := H2.out.c1
        rw [errV_zero] at c1
        clear hk2
        go_wp2_with fail
        all_goals
          go_ret
          have e1 : bnd most above left l = (l.drop k, 0, n) := by unfold bnd; rw [← HNB.out, if_neg (by simp), if_neg hmost, if_neg (fun h => hleft h.1)]
          rw [e1]
          refine RdPost.before (K2.out.mono (by simp)) ?_
          exact ⟨_, _, _, rfl, rfl, Rdr.took_n H2.out _ _ _ _ (by simp) (RdB.behind H2.out.2.1 k h3 _ (by intro hq; first | rfl | omega)) (by omega) (by omega) (fun a ha hl => by first | (exfalso; omega) | (rw [← Option.some.inj ha]; exact H2.out.2.2.2.2 ⟨gA, oA, none⟩ rfl (by omega))), Keeps.setCell (p := ⟨g, 0, none⟩) (Keeps.refl [g] w2) (.inl (by simp)) _, fun a ha => by rw [← Option.some.inj ha]; exact mem_blk.2 ⟨_, rfl, rfl⟩⟩
  · have hd : decide ((0 : Int) ≠ 0) = false := by simp
    clear hnb
    go_enter Tryd.func41, Tryd.ntmps41
    go_wp2_with fail
    refine (stuck_any g _ c l 0 _ (H.out.keeps0 ((Keeps.refl [] w).alloc _))).mono ?_
    rintro en w' ⟨rfl, rfl⟩
    rw [hd]
    have c0 := (H.out.keeps0 ((Keeps.refl [] w).alloc (.cells #[.int .u64 most, .iface 58 (.int .i64 above), errV left] 91))).c0
    go_wp2_with fail
    refine (number_any _ l c _ (by omega) hcl (H.out.2.1.alloc _)).mono ?_
    rintro en w2 ⟨rfl, hk2⟩
    rw [← HNB.out, errV_other her]
    have K2 := Lib.hid (((Keeps.refl [] w).alloc _).trans hk2 (by simp))
    have H2 := Lib.hid (H.out.keeps0 K2.out)
    have f1 := H2.out.f1
    have f0 := H2.out.f0
    have c0 := H2.out.c0
    have c1 := H2.out.c1
    rw [errV_zero] at c1
    clear hk2
    go_wp2_with fail
    go_ret
    have e1 : bnd most above left l = (l, er, 0) := by unfold bnd; rw [← HNB.out, if_pos her]
    rw [e1]
    refine RdPost.before (K2.out.mono (by simp)) (RdPost.before ?_ ((errV_other (n := er) (by first | exact her | exact HA.out | exact hl0) ▸ H2.out.bad er).post _))
    exact Keeps.setCell (p := ⟨g, 1, none⟩) (Keeps.refl [g] w2) (.inl (by simp)) _
end Go.Proofs.YtljinghhalcnnaaDoor
namespace Go.Proofs.YtljinghhalcnnaaDoor
open Go.RowKit

/-- A number from 0 on. -/
def uintR (most : Nat) (l : List UInt8) (e : Int) : List UInt8 × Int × Nat := if e ≠ 0 then (l, e, 0) else bnd most 4 0 l
theorem bnd_ok {most : Nat} {above left : Int} {l : List UInt8} (ha : above ≠ 0) (h : (bnd most above left l).2.1 = 0) : (bnd most above left l).2.2 ≤ most ∧ (bnd most above left l).2.2 < 2 ^ 64 := by
  have hl := numB_lt l
  unfold bnd at h ⊢
  split at h
  · rename_i h1; exact absurd h h1
  · rename_i h1
    rw [if_neg h1]
    split at h
    · exact absurd h ha
    · rename_i h2
      rw [if_neg h2]
      split at h
      · rename_i h3; exact absurd h h3.2
      · rename_i h3
        rw [if_neg h3]
        exact ⟨by show (numB l).1 ≤ most; omega, hl.1⟩
theorem bnd_len (most : Nat) (above left : Int) (l : List UInt8) : (bnd most above left l).2.2 < 2 ^ 64 := by
  have hl := numB_lt l
  unfold bnd
  repeat' split
  all_goals first | exact hl.1 | (show 0 < 2 ^ 64; decide)

theorem rduint_any (g : Nat) (A : Option Addr) (c : Nat) (l : List UInt8) (e : Int) (w : World) (h : Rdr w g A c l e) (most : Nat) :
    Calls Tryd.prog 22 #[.pointer (some ⟨g, 0, none⟩), .int .u64 most] w (RdV g A (uintR most l e) w) := by
  have H := Lib.hid h
  clear h
  have call : Calls Tryd.prog 41 #[.pointer (some ⟨g, 0, none⟩), .agg #[.int .u64 most, .iface 58 (.int .i64 4), .nilIface]] w (RdV g A (uintR most l e) w) := by
    by_cases he : e = 0
    · subst he
      have := bounded_any g A c l w H.out most 4 0 (by decide)
      rw [errV_zero, errV_other (by decide)] at this
      unfold uintR
      rw [if_neg (by simp)]
      exact this
    · unfold uintR
      rw [if_pos he]
      exact bounded_bad g A c l e w H.out he most _ _
  have HC := Lib.hid call
  clear call
  go_enter Tryd.func22, Tryd.ntmps22
  go_wp2_with fail
  refine HC.out.mono ?_
  rintro en w' ⟨A', c', l', hl, rfl, hr, hk, hb⟩
  have HP := Lib.hid (And.intro hr (And.intro hk hb))
  clear hr hk hb
  go_wp2_with fail
  go_ret
  exact ⟨A', c', l', hl, rfl, HP.out.1, HP.out.2⟩

/-- A number. -/
def intR (l : List UInt8) (e : Int) : List UInt8 × Int × Int :=
  if e ≠ 0 then (l, e, 0) else match l with
  | [] => ([], 12, 0)
  | b :: t => if 1 < b.toNat then (b :: t, 3, 0) else
    if (bnd 9223372036854775807 4 0 t).2.1 ≠ 0 then (b :: t, (bnd 9223372036854775807 4 0 t).2.1, 0)
    else ((bnd 9223372036854775807 4 0 t).1, 0, if b.toNat = 1 then -(((bnd 9223372036854775807 4 0 t).2.2 : Nat) + 1 : Int) else ((bnd 9223372036854775807 4 0 t).2.2 : Nat))
def RdI (g : Nat) (A : Option Addr) (r : List UInt8 × Int × Int) (w : World) (en : Ending) (w' : World) : Prop := RdPost g A r.1 r.2.1 (.int .i64 r.2.2) w en w'

end Go.Proofs.YtljinghhalcnnaaDoor
