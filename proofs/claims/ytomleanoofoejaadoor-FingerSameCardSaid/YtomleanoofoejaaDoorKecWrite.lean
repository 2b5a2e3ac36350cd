/- Bytes laid behind, and a sum begun: contracts. -/
import Derived.Test.YtomleanoofoejaaDoorKecXor
namespace Go.Proofs.YtomleanoofoejaaDoor
open Go.RowKit

theorem Wf.turnK {L : List Nat} (h : Wf 25 L) : Wf 25 (turnK L) := h.turnTo 24
attribute [local irreducible] turnK
/-- A byte behind: lanes, and how many bytes since the last turn. -/
def absK (s : List Nat × Nat) (b : UInt8) : List Nat × Nat := if s.2 + 1 = 136 then (turnK (xorB s.1 s.2 b.toNat), 0) else (xorB s.1 s.2 b.toNat, s.2 + 1)
def absAll (s : List Nat × Nat) (l : List UInt8) : List Nat × Nat := l.foldl absK s
theorem absAll_append (s : List Nat × Nat) (a b : List UInt8) : absAll s (a ++ b) = absAll (absAll s a) b := List.foldl_append
theorem absAll_snoc (s : List Nat × Nat) (l : List UInt8) (k : Nat) (h : k < l.length) : absAll s (l.take (k + 1)) = absK (absAll s (l.take k)) l[k] := by
  rw [List.take_add_one, List.getElem?_eq_getElem h, absAll_append]; rfl
theorem absK_ok {s : List Nat × Nat} (h : Wf 25 s.1 ∧ s.2 < 136) (b : UInt8) : Wf 25 (absK s b).1 ∧ (absK s b).2 < 136 := by
  have hw := h.1.xorB s.2 b.toNat (by have := b.toNat_lt; omega)
  unfold absK
  split
  · exact ⟨hw.turnK, Nat.zero_lt_succ _⟩
  · exact ⟨hw, by have := h.2; show s.2 + 1 < 136; omega⟩
theorem absAll_ok {s : List Nat × Nat} (h : Wf 25 s.1 ∧ s.2 < 136) (l : List UInt8) : Wf 25 (absAll s l).1 ∧ (absAll s l).2 < 136 :=
  foldl_inv (P := fun s : List Nat × Nat => Wf 25 s.1 ∧ s.2 < 136) _ _ h (fun _ b _ hb => absK_ok hb b)
def beginK : List Nat × Nat := (List.replicate 25 0, 0)
theorem beginK_ok : Wf 25 beginK.1 ∧ beginK.2 < 136 := ⟨Wf.zero 25, by decide⟩

/-- A sum under way in a block. -/
def StA (w : World) (g : Nat) (s : List Nat × Nat) : Prop := St w g 73 [.int .i64 (s.2 : Nat)] s.1
theorem StA.keeps {S : List Nat} {w w' : World} {g : Nat} {s : List Nat × Nat} (h : StA w g s) (hk : Keeps S w w') (hg : g ∉ S) : StA w' g s := St.keeps h hk hg
theorem StA.lt {w : World} {g : Nat} {s : List Nat × Nat} (h : StA w g s) : g < w.heap.size := St.lt h
theorem St.at25 {w : World} {g : Nat} {T : TypeId} {v : Value} {L : List Nat} (h : St w g T [v] L) (hL : L.length = 25) : w.cell? ⟨g, 25, none⟩ = some v := by
  rw [cell_of_row _ _ _ _ _ _ h]
  simp only [List.getElem?_toArray]
  rw [List.getElem?_append_right (by simp [hL])]
  simp [hL]
theorem St.set25 {w : World} {g : Nat} {T : TypeId} {v : Value} {L : List Nat} (h : St w g T [v] L) (hL : L.length = 25) (u : Value) : St (w.setCell ⟨g, 25, none⟩ u) g T [u] L := by
  unfold St
  rw [heap_setCell_same w g 25 _ _ _ h]
  simp only [List.setIfInBounds_toArray]
  rw [List.set_append_right _ _ (by simp [hL])]
  simp [hL]

theorem new_any (w : World) :
    Calls Tryd.prog 23 #[] w fun e w' => ∃ g, e = .returned (.pointer (some ⟨g, 0, none⟩)) ∧ w.heap.size ≤ g ∧ StA w' g beginK ∧ Keeps [] w w' := by
  go_enter Tryd.func23, Tryd.ntmps23
  go_wp2_with fail
  go_ret
  exact ⟨_, rfl, Nat.le_refl _, heap_alloc_new _ _, (Keeps.refl [] w).alloc _⟩

theorem write_nil (A : Option Addr) (l : List UInt8) (c : Nat) (w : World) :
    Calls Tryd.prog 24 #[.pointer none, .slice A l.length c] w fun e w' => e = .returned (.tuple #[]) ∧ w = w' := by
  go_enter Tryd.func24, Tryd.ntmps24
  go_wp2_with fail
  (try simp only [Exit.inBlock, Exit.then])
  refine bodyPost_ret (results_none rfl _ _ _) rfl ?_
  exact ⟨rfl, rfl⟩

set_option maxHeartbeats 4000000 in
theorem write_any (g : Nat) (s : List Nat × Nat) (A : Option Addr) (l : List UInt8) (c : Nat) (w : World) (h : StA w g s) (hs : Wf 25 s.1 ∧ s.2 < 136) (hc : Con w) (hg0 : g ≠ 1)
    (hl : l.length ≤ 140737488351232) (hr : RdB w A l) (hA : ∀ a, A = some a → 0 < l.length → a.block ≠ g) :
    Calls Tryd.prog 24 #[.pointer (some ⟨g, 0, none⟩), .slice A l.length c] w fun e w' => e = .returned (.tuple #[]) ∧ StA w' g (absAll s l) ∧ Keeps [g] w w' := by
  have INV := Lib.hid (show StA w g (absAll s (l.take 0)) ∧ Keeps [g] w w from ⟨by rw [List.take_zero]; exact h, Keeps.refl [g] w⟩)
  have HS := Lib.hid hs
  have HC := Lib.hid hc
  have HG := Lib.hid hg0
  have HR := Lib.hid hr
  have HA := Lib.hid hA
  clear h hs hc hg0 hr hA
  go_enter Tryd.func24, Tryd.ntmps24
  go_wp2_with fail
  go_loopw [10] (fun i wr => ∃ k : Nat, k ≤ l.length ∧ i = .int .i64 (k : Nat) ∧ Hid (StA wr g (absAll s (l.take k)) ∧ Keeps [g] w wr)) (fun i _ => l.length - (intOf i).toNat)
  case atStart => exact ⟨0, Nat.zero_le _, rfl, INV.out⟩
  case round =>
    clear INV
    obtain ⟨k, hk, rfl, hinv⟩ := hrel
    have HO := Lib.hid (absAll_ok HS.out (l.take k))
    by_cases hlt : k < l.length
    · have HSN := Lib.hid (absAll_snoc s l k hlt)
      obtain ⟨⟨L, a⟩, hM⟩ : ∃ M, M = absAll s (l.take k) := ⟨_, rfl⟩
      rw [← hM] at hinv HO HSN
      clear hM
      obtain ⟨ad, rfl, hcell⟩ := (HR.out.keeps hinv.out.2 (fun a ha hp => by simp; exact HA.out a ha hp)).at_ hlt
      obtain ⟨b, hb⟩ : ∃ b, b = l[k] := ⟨_, rfl⟩
      rw [← hb] at hcell HSN
      clear hb
      have hbl : (0 : Int) ≤ (b.toNat : Int) ∧ (b.toNat : Int) < 256 := by have := b.toNat_lt; omega
      have hbl2 : b.toNat < 256 := b.toNat_lt
      have h136 : a < 136 := HO.out.2
      have HW := Lib.hid (show Wf 25 (xorB L a b.toNat) from HO.out.1.xorB a b.toNat hbl2)
      have q0 : ∀ z : World, z.cell? ⟨g, 25, none⟩ = some (.int .i64 (a : Int)) → z.cell? ⟨g, 25, none⟩ = some (.int .i64 (a : Int)) := fun z hz => hz
      have HLT := Lib.hid (And.intro hbl2 h136)
      go_wp2_with fail
      refine seq_start (by kernel_rfl) (fun z => z.cell? ⟨g, 25, none⟩ = some (.int .i64 (a : Int))) 9 [0, 1, 2, 3, 4, 5, 6, 7, 8] rfl ((St.at25 hinv.out.1 HO.out.1.1)) (fun hS => ?_)
      have HI := Lib.hid (show StA wr.drew g (L, a) ∧ Keeps [g] w wr.drew from ⟨hinv.out.1, hinv.out.2.drew⟩)
      clear hinv hcell
      generalize wr.drew = V at HI hS ⊢
      refine seq_take (v := ?_) rfl (by kernel_rfl) (by kernel_rfl) (by kernel_rfl) (Or.inl ⟨by rfl, fun w' hSw => ?_⟩) (by assumption) ?_
      rotate_left
      · go_simp
        with_reducible rfl
      simp only [Act.put, List.setIfInBounds_toArray, List.set_cons_zero, List.set_cons_succ]
      refine seq_take (v := ?_) rfl (by kernel_rfl) (by kernel_rfl) (by kernel_rfl) (Or.inl ⟨by rfl, fun w' hSw => ?_⟩) (by assumption) ?_
      rotate_left
      · go_simp
        with_reducible rfl
      simp only [Act.put, List.setIfInBounds_toArray, List.set_cons_zero, List.set_cons_succ]
      refine seq_take (v := ?_) rfl (by kernel_rfl) (by kernel_rfl) (by kernel_rfl) (Or.inl ⟨by rfl, fun w' hSw => ?_⟩) (by assumption) ?_
      rotate_left
      · go_simp
        with_reducible rfl
      simp only [Act.put, List.setIfInBounds_toArray, List.set_cons_zero, List.set_cons_succ]
      refine seq_take (v := ?_) rfl (by kernel_rfl) (by kernel_rfl) (by kernel_rfl) (Or.inl ⟨by rfl, fun w' hSw => ?_⟩) (by assumption) ?_
      rotate_left
      · go_simp
        with_reducible rfl
      simp only [Act.put, List.setIfInBounds_toArray, List.set_cons_zero, List.set_cons_succ]
      refine seq_take (v := ?_) rfl (by kernel_rfl) (by kernel_rfl) (by kernel_rfl) (Or.inl ⟨by rfl, fun w' hSw => ?_⟩) (by assumption) ?_
      rotate_left
      · go_simp
        with_reducible rfl
      simp only [Act.put, List.setIfInBounds_toArray, List.set_cons_zero, List.set_cons_succ]
      refine seq_take (v := ?_) rfl (by kernel_rfl) (by kernel_rfl) (by kernel_rfl) (Or.inl ⟨by rfl, fun w' hSw => ?_⟩) (by assumption) ?_
      rotate_left
      · go_simp
        with_reducible rfl
      simp only [Act.put, List.setIfInBounds_toArray, List.set_cons_zero, List.set_cons_succ]
      refine seq_take (v := ?_) rfl (by kernel_rfl) (by kernel_rfl) (by kernel_rfl) (Or.inl ⟨by rfl, fun w' hSw => ?_⟩) (by assumption) ?_
      rotate_left
      · go_simp
        with_reducible rfl
      simp only [Act.put, List.setIfInBounds_toArray, List.set_cons_zero, List.set_cons_succ]
      refine seq_take (v := ?_) rfl (by kernel_rfl) (by kernel_rfl) (by kernel_rfl) (Or.inl ⟨by rfl, fun w' hSw => ?_⟩) (by assumption) ?_
      rotate_left
      · go_simp
        with_reducible rfl
      simp only [Act.put, List.setIfInBounds_toArray, List.set_cons_zero, List.set_cons_succ]
      refine seq_do rfl (by kernel_rfl) (by rfl) (fun K hK => ?_)
      go_simp
      refine (xor_any g 73 [.int .i64 (a : Nat)] L V HI.out.1 HO.out.1 a b.toNat (by have := HLT.out.2; omega) HLT.out.1).mono ?_
      rintro e w2 ⟨rfl, h2, hk2⟩
      have H2 := Lib.hid (show St w2 g 73 [.int .i64 (a : Nat)] (xorB L a b.toNat) ∧ Keeps [g] w w2 from ⟨h2, HI.out.2.trans hk2 (fun t ht => .inl ht)⟩)
      clear h2 hk2
      refine hK.out (fun z => z.cell? ⟨g, 25, none⟩ = some (.int .i64 (a : Int))) _ _ (fun _ h => h) (St.at25 H2.out.1 HW.out.1) (fun hS => ?_)
      refine seq_done (by kernel_rfl) ?_
      all_goals skip
      clear q0 hS
      have q1 := St.at25 H2.out.1 HW.out.1
      have f1 := H2.out.1.frozen 25
      have d1 : IntKind.i64.wrap ((a : Int) + 1) = (a : Int) + 1 := by rw [IntKind.wrap_i64]; omega
      clear HI
      have H3 := Lib.hid (show St (w2.setCell ⟨g, 25, none⟩ (.int .i64 ((a : Int) + 1))) g 73 [.int .i64 ((a : Int) + 1)] (xorB L a b.toNat) ∧ Keeps [g] w (w2.setCell ⟨g, 25, none⟩ (.int .i64 ((a : Int) + 1))) from ⟨H2.out.1.set25 HW.out.1 _, H2.out.2.trans (Keeps.at_ _) (fun t ht => .inl ht)⟩)
      have HB := Lib.hid H3.out.1.lt
      by_cases hat : a + 1 = 136
      · have e1 : ((a : Int) + 1 == 136) = true := by have : (a : Int) + 1 = 136 := by omega
                                                      simp [this]
        have HAT := Lib.hid hat
        clear hat
        go_wp2_with fail
        try rw [e1]
        go_wp2_with fail
        refine (turn_any g 73 [.int .i64 ((a : Int) + 1)] (xorB L a b.toNat) _ H3.out.1 HW.out (HC.out.keeps H3.out.2 (by simp; exact HG.out.symm)) HG.out).mono ?_
        rintro e w4 ⟨rfl, h4, hk4⟩
        have H4 := Lib.hid (And.intro h4 (H3.out.2.trans hk4 (fun t ht => .inl ht)))
        clear h4 hk4 H3
        have f4 := H4.out.1.frozen 25
        have q4 := St.at25 H4.out.1 HW.out.turnK.1
        have H5 := Lib.hid (show St (w4.setCell ⟨g, 25, none⟩ (.int .i64 0)) g 73 [.int .i64 0] (turnK (xorB L a b.toNat)) ∧ Keeps [g] w (w4.setCell ⟨g, 25, none⟩ (.int .i64 0)) from ⟨H4.out.1.set25 HW.out.turnK.1 _, H4.out.2.trans (Keeps.at_ _) (fun t ht => .inl ht)⟩)
        clear H4
        go_wp2_with fail
        go_roundw
        case rel =>
          refine ⟨k + 1, by omega, by go_num, ?_, H5.out.2⟩
          rw [HSN.out]
          unfold absK
          rw [if_pos HAT.out]
          exact H5.out.1
        case measure => simp [intOf]; omega
      · have e1 : ((a : Int) + 1 == 136) = false := by have : ¬ (a : Int) + 1 = 136 := by omega
                                                       simp [this]
        have HAT := Lib.hid hat
        clear hat
        go_wp2_with fail
        try rw [e1]
        go_wp2_with fail
        go_roundw
        case rel =>
          refine ⟨k + 1, by omega, by go_num, ?_, H3.out.2⟩
          rw [HSN.out]
          unfold absK
          rw [if_neg HAT.out]
          exact H3.out.1
        case measure => simp [intOf]; omega
    · have hi : ¬ (k : Int) < (l.length : Int) := by omega
      have HK := Lib.hid (show k = l.length by omega)
      clear hlt
      go_wp2_with fail
      go_end0
      have h2 := hinv.out
      rw [HK.out, List.take_length] at h2
      exact ⟨rfl, h2.1, h2.2⟩
end Go.Proofs.YtomleanoofoejaaDoor
