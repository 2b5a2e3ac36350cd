/- The law on seals: called with any bytes it answers true. -/
import Derived.Test.YtpflfbenadgknaaDoorHornerRefSeal
import Derived.Test.YtpflfbenadgknaaDoorNum
namespace Go.Proofs.YtpflfbenadgknaaDoor
open Go.RowKit

theorem sure_any (w : World) :
    Calls Tryd.prog 6 #[] w fun e w' => e = .returned (.bool true) ∧ Keeps [] w w' := by
  have kc := fun (w : World) (C : Array Value) (n c : Nat) => Lib.run_convert_bytes_const (P := Tryd.prog) w 22 5 C n c Tryd.underlying22 Tryd.underlying5
  have HR := Lib.hid (RdB.lit w [97, 98] 5 (2, 3))
  go_enter Tryd.func6, Tryd.ntmps6
  go_wp2_with fail
  refine (sum_any _ [97, 98] 2 _ (by simp) HR.out).mono ?_
  rintro e w' ⟨rfl, rfl⟩
  go_wp2_with fail
  refine (sum_any _ [] 0 _ (by simp) (RdB.nil _ _)).mono ?_
  rintro e w' ⟨rfl, rfl⟩
  go_wp2_with fail
  go_ret
  exact ⟨rfl, (Keeps.refl [] w).alloc _⟩

/-- What any bytes are, opened: the bytes, and the error's number. -/
def hopen (l : List UInt8) : List UInt8 × Int :=
  if l.length < 4 then ([], 12) else if hlast (hmore 1 (l.take (l.length - 4))) = l.drop (l.length - 4) then (l.take (l.length - 4), 0) else ([], 11)
theorem hopen_short {l : List UInt8} (h : l.length < 4) : hopen l = ([], 12) := if_pos h
theorem hopen_ok {l0 lb : List UInt8} (h4 : lb.length = 4) (h : hlast (hmore 1 l0) = lb) : hopen (l0 ++ lb) = (l0, 0) := by
  unfold hopen
  rw [if_neg (by simp; omega)]
  simp [h4, h]
theorem hopen_bad {l0 lb : List UInt8} (h4 : lb.length = 4) (h : hlast (hmore 1 l0) ≠ lb) : hopen (l0 ++ lb) = ([], 11) := by
  unfold hopen
  rw [if_neg (by simp; omega)]
  simp [h4, h]

def OpenR (l : List UInt8) (w : World) (e : Ending) (w' : World) : Prop :=
  ∃ A c l', Hid (l' = (hopen l).1) ∧ e = .returned (.tuple #[.slice A l'.length c, errV (hopen l).2]) ∧ RdB w' A l' ∧ Keeps [] w w'
def RefOpenR (l : List UInt8) (w : World) (e : Ending) (w' : World) : Prop :=
  ∃ A c l', Hid (l' = (hopen l).1) ∧ e = .returned (.tuple #[.slice A l'.length c, .int .i64 (hopen l).2]) ∧ RdB w' A l' ∧ Keeps [] w w'

theorem open_any (A : Option Addr) (l : List UInt8) (c : Nat) (w : World) (hl : l.length ≤ 140737488351232) (hc : l.length ≤ c) (hr : RdB w A l) :
    Calls Tryd.prog 13 #[.slice A l.length c] w (OpenR l w) := by
  by_cases h : l.length < 4
  · refine (open_end A l.length c w h).mono ?_
    rintro e w' ⟨rfl, rfl⟩
    exact ⟨none, 0, [], by show _ = _; rw [hopen_short h], by rw [hopen_short h]; rfl, RdB.nil _ _, Keeps.refl [] w⟩
  · obtain ⟨l0, b0, b1, b2, b3, rfl⟩ := split4 l (by omega)
    have hlen : (l0 ++ [b0, b1, b2, b3]).length = l0.length + 4 := by simp
    rw [hlen] at hl hc ⊢
    by_cases he : hlast (hmore 1 l0) = [b0, b1, b2, b3]
    · refine (open_ok A l0 b0 b1 b2 b3 c w hl hc hr he).mono ?_
      rintro e w' ⟨A1, c1, l1, hl1, rfl, ho, _, hk⟩
      exact ⟨A1, c1, l1, by show _ = _; rw [hopen_ok rfl he]; exact hl1, by rw [hopen_ok rfl he]; rfl, ho.rd, hk⟩
    · refine (open_bad A l0 b0 b1 b2 b3 c w hl hc hr he).mono ?_
      rintro e w' ⟨rfl, hk⟩
      exact ⟨none, 0, [], by show _ = _; rw [hopen_bad rfl he], by rw [hopen_bad rfl he]; rfl, RdB.nil _ _, hk⟩

theorem refopen_all (A : Option Addr) (l : List UInt8) (c : Nat) (w : World) (hl : l.length ≤ 140737488351232) (hc : l.length ≤ c) (hr : RdB w A l) :
    Calls Tryd.prog 14 #[.slice A l.length c] w (RefOpenR l w) := by
  by_cases h : l.length < 4
  · refine (refopen_end A l.length c w h).mono ?_
    rintro e w' ⟨rfl, rfl⟩
    exact ⟨none, 0, [], by show _ = _; rw [hopen_short h], by rw [hopen_short h]; rfl, RdB.nil _ _, Keeps.refl [] w⟩
  · obtain ⟨l0, b0, b1, b2, b3, rfl⟩ := split4 l (by omega)
    have hlen : (l0 ++ [b0, b1, b2, b3]).length = l0.length + 4 := by simp
    rw [hlen] at hl hc ⊢
    refine (refopen_any A l0 [b0, b1, b2, b3] c w rfl hl hc hr).mono ?_
    rintro e w' ⟨⟨he, rfl⟩ | ⟨he, rfl⟩, hk⟩
    · refine ⟨A, c, l0, by show _ = _; rw [hopen_ok rfl he], by rw [hopen_ok rfl he], ?_, hk⟩
      have := hr.part 0 l0.length (by simp) (A' := A) (fun _ ad e => by rw [e]; simp [Addr.add])
      exact RdB.keeps0 (by simpa using this) hk
    · exact ⟨none, 0, [], by show _ = _; rw [hopen_bad rfl he], by rw [hopen_bad rfl he]; rfl, RdB.nil _ _, hk⟩

theorem hopen_sealed (l : List UInt8) : hopen (l ++ hlast (hmore 1 l)) = (l, 0) := hopen_ok rfl rfl

set_option maxHeartbeats 4000000 in
theorem law_any (A : Option Addr) (l : List UInt8) (c : Nat) (w : World) (hg : HT w) (hl : l.length ≤ 140737488351232) (hc : l.length ≤ c) (hr : RdB w A l) :
    Calls Tryd.prog 4 #[.slice A l.length c] w fun e w' => e = .returned (.bool true) ∧ Below w.heap.size w w' := by
  have HR := Lib.hid hr
  have HG := Lib.hid hg
  have keep : ∀ w', Keeps [] w w' → Below w.heap.size w w' := fun w' h => h.below (Nat.le_refl _) (by simp)
  have KEEP := Lib.hid keep
  clear hr hg keep
  by_cases hlt : (20000 : Int) < l.length
  · go_enter Tryd.func4, Tryd.ntmps4
    go_wp2_with fail
    refine (sure_any _).mono ?_
    rintro e w' ⟨rfl, hb⟩
    go_wp2_with fail
    go_ret
    exact ⟨rfl, KEEP.out _ hb⟩
  · go_enter Tryd.func4, Tryd.ntmps4
    go_wp2_with fail
    refine (open_any A l c _ (by omega) hc HR.out).mono ?_
    rintro e w1 ⟨A1, c1, l1, hl1, rfl, hr1, hk1⟩
    have HR1 := Lib.hid hr1
    have HK1 := Lib.hid hk1
    clear hr1 hk1
    go_wp2_with fail
    refine (refopen_all A l c _ (by omega) hc (HR.out.keeps0 HK1.out)).mono ?_
    rintro e w2 ⟨A2, c2, l2, hl2, rfl, hr2, hk2⟩
    have HR2 := Lib.hid hr2
    have HK2 := Lib.hid hk2
    clear hr2 hk2
    go_wp2_with fail
    refine (seal_any A l c _ (by omega) ((HR.out.keeps0 HK1.out).keeps0 HK2.out)).mono ?_
    rintro e w3 ⟨A3, c3, l3, hl3, rfl, ho3, hn3, hk3⟩
    have HO3 := Lib.hid ho3
    have HK3 := Lib.hid hk3
    have hc3 : l3.length ≤ c3 := by
      rcases ho3.2 with ⟨h1, h2⟩ | ⟨g, cap, cur, h1, _, _, h2, _⟩
      · rw [h2]; exact Nat.zero_le _
      · injection h1 with _ _ h3; rw [h3]; exact h2
    have hl3' : l3.length ≤ 30000 := by rw [hl3.out]; simp [length_hlast]; omega
    clear ho3 hk3 hn3
    go_wp2_with fail
    refine (open_any A3 l3 c3 _ (by omega) hc3 HO3.out.rd).mono ?_
    rintro e w4 ⟨A4, c4, l4, hl4, rfl, hr4, hk4⟩
    have e4 : hopen l3 = (l, 0) := by rw [hl3.out]; exact hopen_sealed l
    have hl4' : Hid (l4 = l) := by show _ = _; rw [hl4.out, e4]
    rw [e4, errV_zero]
    have K34 : Keeps [] w3 w4 := hk4
    have K24 : Keeps [] w2 w4 := HK3.out.trans hk4 (by simp)
    have K14 : Keeps [] w1 w4 := HK2.out.trans K24 (by simp)
    have K04 : Keeps [] w w4 := HK1.out.trans K14 (by simp)
    have F1 := conv_keeps (P := Tryd.prog) (dst := 9) Tryd.underlying22 Tryd.underlying5 Tryd.underlying9 (HR1.out.keeps0 K14) c1
    have F2 := conv_keeps (P := Tryd.prog) (dst := 9) Tryd.underlying22 Tryd.underlying5 Tryd.underlying9 (HR2.out.keeps0 K24) c2
    have F3 := conv_keeps (P := Tryd.prog) (dst := 9) Tryd.underlying22 Tryd.underlying5 Tryd.underlying9 (HO3.out.rd.keeps0 K34) c3
    have F4 := conv_keeps (P := Tryd.prog) (dst := 9) Tryd.underlying22 Tryd.underlying5 Tryd.underlying9 hr4 c4
    have F0 := conv_keeps (P := Tryd.prog) (dst := 9) Tryd.underlying22 Tryd.underlying5 Tryd.underlying9 (HR.out.keeps0 K04) c
    have HG4 := Lib.hid (HG.out.keeps K04 (by simp))
    have HR04 := Lib.hid (HR.out.keeps0 K04)
    have K0 := Lib.hid K04
    have b12 : ((strB l1).toList == (strB l2).toList) = true := strB_beq_true (by rw [hl1.out, hl2.out])
    have b40 : ((strB l4).toList == (strB l).toList) = true := strB_beq_true hl4'.out
    clear hr4 hk4 K34 K24 K14 K04 hl4 e4
    go_wp2_with fail
    refine seq_start (by kernel_rfl) (fun x => Keeps [] w4 x) 34 [0, 1, 2, 3, 4, 5, 6, 7, 8, 9, 10, 11, 12, 13, 14, 15, 16, 17, 18, 19, 20, 21, 22, 23, 24, 25, 26, 27, 28, 29, 30, 31, 32, 33] rfl ((Keeps.refl [] w4).drew) (fun hS => ?_)
    refine seq_take (v := ?_) rfl (by kernel_rfl) (by kernel_rfl) (by kernel_rfl) (Or.inl ⟨by rfl, fun w' hSw => ?_⟩) (by assumption) ?_
    rotate_left
    · go_simp
      with_reducible rfl
    simp only [Act.put, List.setIfInBounds_toArray, List.set_cons_zero, List.set_cons_succ]
    refine seq_take (v := ?_) rfl (by kernel_rfl) (by kernel_rfl) (by kernel_rfl) (Or.inl ⟨by rfl, fun w' hSw => ?_⟩) (by assumption) ?_
    rotate_left
    · go_simp
      with_reducible rfl
    simp only [Act.put, List.setIfInBounds_toArray, List.set_cons_zero, List.set_cons_succ]
    refine seq_take (v := ?_) rfl (by kernel_rfl) (by kernel_rfl) (by kernel_rfl) (Or.inl ⟨by rfl, fun w' hSw => ?_⟩) (by assumption) ?_
    rotate_left
    · go_simp
      with_reducible rfl
    simp only [Act.put, List.setIfInBounds_toArray, List.set_cons_zero, List.set_cons_succ]
    refine seq_do rfl (by kernel_rfl) (by rfl) (fun K hK => ?_)
    go_simp
    refine (refseal_any A l c _ (by omega) (by exact HR04.out)).mono ?_
    rintro e w5 ⟨A5, c5, l5, hl5, rfl, ho5, hn5, hk5⟩
    have HK5 := Lib.hid hk5.undrew
    have F5 := conv_keeps (P := Tryd.prog) (dst := 9) Tryd.underlying22 Tryd.underlying5 Tryd.underlying9 ho5.rd c5
    have b35 : ((strB l3).toList == (strB l5).toList) = true := strB_beq_true (by rw [hl3.out, hl5.out])
    clear hk5 hn5 ho5
    refine hK.out (fun x => Keeps [] w4 x ∧ Keeps [] w5 x) _ _ (fun x h => h.1) ⟨HK5.out, Keeps.refl [] w5⟩ (fun hS => ?_)
    refine seq_take (v := ?_) rfl (by kernel_rfl) (by kernel_rfl) (by kernel_rfl) (Or.inl ⟨by rfl, fun w' hSw => ?_⟩) (by assumption) ?_
    rotate_left
    · go_simp
      with_reducible rfl
    simp only [Act.put, List.setIfInBounds_toArray, List.set_cons_zero, List.set_cons_succ]
    refine seq_take (v := ?_) rfl (by kernel_rfl) (by kernel_rfl) (by kernel_rfl) (Or.inl ⟨by rfl, fun w' hSw => ?_⟩) (by assumption) ?_
    rotate_left
    · go_simp
      with_reducible rfl
    simp only [Act.put, List.setIfInBounds_toArray, List.set_cons_zero, List.set_cons_succ]
    refine seq_take (v := ?_) rfl (by kernel_rfl) (by kernel_rfl) (by kernel_rfl) (Or.inl ⟨by rfl, fun w' hSw => ?_⟩) (by assumption) ?_
    rotate_left
    · go_simp
      with_reducible rfl
    simp only [Act.put, List.setIfInBounds_toArray, List.set_cons_zero, List.set_cons_succ]
    refine seq_take (v := ?_) rfl (by kernel_rfl) (by kernel_rfl) (by kernel_rfl) (Or.inl ⟨by rfl, fun w' hSw => ?_⟩) (by assumption) ?_
    rotate_left
    · go_simp
      with_reducible rfl
    simp only [Act.put, List.setIfInBounds_toArray, List.set_cons_zero, List.set_cons_succ]
    refine seq_take (v := ?_) rfl (by kernel_rfl) (by kernel_rfl) (by kernel_rfl) (Or.inl ⟨by rfl, fun w' hSw => ?_⟩) (by assumption) ?_
    rotate_left
    · go_simp
      with_reducible rfl
    simp only [Act.put, List.setIfInBounds_toArray, List.set_cons_zero, List.set_cons_succ]
    refine seq_take (v := ?_) rfl (by kernel_rfl) (by kernel_rfl) (by kernel_rfl) (Or.inl ⟨by rfl, fun w' hSw => ?_⟩) (by assumption) ?_
    rotate_left
    · go_simp
      with_reducible rfl
    simp only [Act.put, List.setIfInBounds_toArray, List.set_cons_zero, List.set_cons_succ]
    refine seq_take (v := ?_) rfl (by kernel_rfl) (by kernel_rfl) (by kernel_rfl) (Or.inl ⟨by rfl, fun w' hSw => ?_⟩) (by assumption) ?_
    rotate_left
    · go_simp
      with_reducible rfl
    simp only [Act.put, List.setIfInBounds_toArray, List.set_cons_zero, List.set_cons_succ]
    refine seq_take (v := ?_) rfl (by kernel_rfl) (by kernel_rfl) (by kernel_rfl) (Or.inl ⟨by rfl, fun w' hSw => ?_⟩) (by assumption) ?_
    rotate_left
    · go_simp
      with_reducible rfl
    simp only [Act.put, List.setIfInBounds_toArray, List.set_cons_zero, List.set_cons_succ]
    refine seq_take (v := ?_) rfl (by kernel_rfl) (by kernel_rfl) (by kernel_rfl) (Or.inl ⟨by rfl, fun w' hSw => ?_⟩) (by assumption) ?_
    rotate_left
    · go_simp
      with_reducible rfl
    simp only [Act.put, List.setIfInBounds_toArray, List.set_cons_zero, List.set_cons_succ]
    refine seq_take (v := ?_) rfl (by kernel_rfl) (by kernel_rfl) (by kernel_rfl) (Or.inl ⟨by rfl, fun w' hSw => ?_⟩) (by assumption) ?_
    rotate_left
    · go_simp
      with_reducible rfl
    simp only [Act.put, List.setIfInBounds_toArray, List.set_cons_zero, List.set_cons_succ]
    refine seq_take (v := ?_) rfl (by kernel_rfl) (by kernel_rfl) (by kernel_rfl) (Or.inl ⟨by rfl, fun w' hSw => ?_⟩) (by assumption) ?_
    rotate_left
    · go_simp
      with_reducible rfl
    simp only [Act.put, List.setIfInBounds_toArray, List.set_cons_zero, List.set_cons_succ]
    iterate 1 (refine seq_later ?_; simp only [List.cons_append, List.nil_append])
    refine seq_take (v := ?_) rfl (by kernel_rfl) (by kernel_rfl) (by kernel_rfl) (Or.inl ⟨by rfl, fun w' hSw => ?_⟩) (by assumption) ?_
    rotate_left
    · go_simp
      with_reducible rfl
    simp only [Act.put, List.setIfInBounds_toArray, List.set_cons_zero, List.set_cons_succ]
    iterate 17 (refine seq_later ?_; simp only [List.cons_append, List.nil_append])
    refine seq_do rfl (by kernel_rfl) (by rfl) (fun K hK => ?_)
    go_simp
    refine (num_any _ _ (by exact HG4.out.keeps HK5.out (by simp))).mono ?_
    rintro e w6 ⟨rfl, hk6⟩
    have HK6 := Lib.hid hk6
    clear hk6
    refine hK.out (fun x => (Keeps [] w4 x ∧ Keeps [] w5 x)) _ _ (fun x h => h) ⟨HK5.out.trans HK6.out (by simp), HK6.out⟩ (fun hS => ?_)
    refine seq_take (v := ?_) rfl (by kernel_rfl) (by kernel_rfl) (by kernel_rfl) (Or.inl ⟨by rfl, fun w' hSw => ?_⟩) (by assumption) ?_
    rotate_left
    · go_simp
      with_reducible rfl
    simp only [Act.put, List.setIfInBounds_toArray, List.set_cons_zero, List.set_cons_succ]
    refine seq_take (v := ?_) rfl (by kernel_rfl) (by kernel_rfl) (by kernel_rfl) (Or.inl ⟨by rfl, fun w' hSw => ?_⟩) (by assumption) ?_
    rotate_left
    · go_simp
      with_reducible rfl
    simp only [Act.put, List.setIfInBounds_toArray, List.set_cons_zero, List.set_cons_succ]
    refine seq_take (v := ?_) rfl (by kernel_rfl) (by kernel_rfl) (by kernel_rfl) (Or.inl ⟨by rfl, fun w' hSw => ?_⟩) (by assumption) ?_
    rotate_left
    · go_simp
      with_reducible rfl
    simp only [Act.put, List.setIfInBounds_toArray, List.set_cons_zero, List.set_cons_succ]
    refine seq_take (v := ?_) rfl (by kernel_rfl) (by kernel_rfl) (by kernel_rfl) (Or.inl ⟨by rfl, fun w' hSw => ?_⟩) (by assumption) ?_
    rotate_left
    · go_simp
      with_reducible rfl
    simp only [Act.put, List.setIfInBounds_toArray, List.set_cons_zero, List.set_cons_succ]
    refine seq_take (v := ?_) rfl (by kernel_rfl) (by kernel_rfl) (by kernel_rfl) (Or.inl ⟨by rfl, fun w' hSw => ?_⟩) (by assumption) ?_
    rotate_left
    · go_simp
      with_reducible rfl
    simp only [Act.put, List.setIfInBounds_toArray, List.set_cons_zero, List.set_cons_succ]
    refine seq_take (v := ?_) rfl (by kernel_rfl) (by kernel_rfl) (by kernel_rfl) (Or.inl ⟨by rfl, fun w' hSw => ?_⟩) (by assumption) ?_
    rotate_left
    · go_simp
      with_reducible rfl
    simp only [Act.put, List.setIfInBounds_toArray, List.set_cons_zero, List.set_cons_succ]
    refine seq_take (v := ?_) rfl (by kernel_rfl) (by kernel_rfl) (by kernel_rfl) (Or.inl ⟨by rfl, fun w' hSw => ?_⟩) (by assumption) ?_
    rotate_left
    · go_simp
      with_reducible rfl
    simp only [Act.put, List.setIfInBounds_toArray, List.set_cons_zero, List.set_cons_succ]
    refine seq_take (v := ?_) rfl (by kernel_rfl) (by kernel_rfl) (by kernel_rfl) (Or.inl ⟨by rfl, fun w' hSw => ?_⟩) (by assumption) ?_
    rotate_left
    · go_simp
      with_reducible rfl
    simp only [Act.put, List.setIfInBounds_toArray, List.set_cons_zero, List.set_cons_succ]
    refine seq_take (v := ?_) rfl (by kernel_rfl) (by kernel_rfl) (by kernel_rfl) (Or.inl ⟨by rfl, fun w' hSw => ?_⟩) (by assumption) ?_
    rotate_left
    · go_simp
      with_reducible rfl
    simp only [Act.put, List.setIfInBounds_toArray, List.set_cons_zero, List.set_cons_succ]
    refine seq_take (v := ?_) rfl (by kernel_rfl) (by kernel_rfl) (by kernel_rfl) (Or.inl ⟨by rfl, fun w' hSw => ?_⟩) (by assumption) ?_
    rotate_left
    · go_simp
      with_reducible rfl
    simp only [Act.put, List.setIfInBounds_toArray, List.set_cons_zero, List.set_cons_succ]
    refine seq_take (v := ?_) rfl (by kernel_rfl) (by kernel_rfl) (by kernel_rfl) (Or.inl ⟨by rfl, fun w' hSw => ?_⟩) (by assumption) ?_
    rotate_left
    · go_simp
      with_reducible rfl
    simp only [Act.put, List.setIfInBounds_toArray, List.set_cons_zero, List.set_cons_succ]
    refine seq_take (v := ?_) rfl (by kernel_rfl) (by kernel_rfl) (by kernel_rfl) (Or.inl ⟨by rfl, fun w' hSw => ?_⟩) (by assumption) ?_
    rotate_left
    · go_simp
      with_reducible rfl
    simp only [Act.put, List.setIfInBounds_toArray, List.set_cons_zero, List.set_cons_succ]
    refine seq_take (v := ?_) rfl (by kernel_rfl) (by kernel_rfl) (by kernel_rfl) (Or.inl ⟨by rfl, fun w' hSw => ?_⟩) (by assumption) ?_
    rotate_left
    · go_simp
      with_reducible rfl
    simp only [Act.put, List.setIfInBounds_toArray, List.set_cons_zero, List.set_cons_succ]
    refine seq_take (v := ?_) rfl (by kernel_rfl) (by kernel_rfl) (by kernel_rfl) (Or.inl ⟨by rfl, fun w' hSw => ?_⟩) (by assumption) ?_
    rotate_left
    · go_simp
      with_reducible rfl
    simp only [Act.put, List.setIfInBounds_toArray, List.set_cons_zero, List.set_cons_succ]
    refine seq_do rfl (by kernel_rfl) (by rfl) (fun K hK => ?_)
    go_simp
    refine (sure_any _).mono ?_
    rintro e w7 ⟨rfl, hk7⟩
    have HK7 := Lib.hid hk7
    clear hk7
    refine hK.out (fun x => (Keeps [] w4 x ∧ Keeps [] w5 x)) _ _ (fun x h => h) ⟨(HK5.out.trans HK6.out (by simp)).trans HK7.out (by simp), HK6.out.trans HK7.out (by simp)⟩ (fun hS => ?_)
    refine seq_take (v := ?_) rfl (by kernel_rfl) (by kernel_rfl) (by kernel_rfl) (Or.inl ⟨by rfl, fun w' hSw => ?_⟩) (by assumption) ?_
    rotate_left
    · go_simp
      with_reducible rfl
    simp only [Act.put, List.setIfInBounds_toArray, List.set_cons_zero, List.set_cons_succ]
    refine seq_take (v := ?_) rfl (by kernel_rfl) (by kernel_rfl) (by kernel_rfl) (Or.inl ⟨by rfl, fun w' hSw => ?_⟩) (by assumption) ?_
    rotate_left
    · go_simp
      with_reducible rfl
    simp only [Act.put, List.setIfInBounds_toArray, List.set_cons_zero, List.set_cons_succ]
    refine seq_done (by kernel_rfl) ?_
    all_goals skip
    go_wp2_with fail
    go_ret
    exact ⟨rfl, KEEP.out _ (K0.out.trans hS.1 (by simp))⟩
end Go.Proofs.YtpflfbenadgknaaDoor
