/- What the document's Seal and Open compute: contracts. -/
import Derived.Test.YtpflfbenadgknaaDoorHornerSeal
import Derived.Test.YtpflfbenadgknaaDoorRegion
namespace Go.Proofs.YtpflfbenadgknaaDoor
open Go.RowKit

theorem enc_hlast (s : Int) (hs : 0 ≤ s ∧ s < 4294967296) : encB (hlast s) = [.int .u8 (s % 256), .int .u8 (s / 256 % 256), .int .u8 (s / 65536 % 256), .int .u8 (s / 16777216)] := by
  have e0 : ((UInt8.ofNat (s % 256).toNat).toNat : Int) = s % 256 := u8_of (by omega)
  have e1 : ((UInt8.ofNat (s / 256 % 256).toNat).toNat : Int) = s / 256 % 256 := u8_of (by omega)
  have e2 : ((UInt8.ofNat (s / 65536 % 256).toNat).toNat : Int) = s / 65536 % 256 := u8_of (by omega)
  have e3 : ((UInt8.ofNat (s / 16777216 % 256).toNat).toNat : Int) = s / 16777216 := by rw [u8_of (by omega)]; omega
  unfold hlast encB
  simp only [List.map_cons, List.map_nil, e0, e1, e2, e3]

set_option maxHeartbeats 1000000 in
theorem refseal_any (A : Option Addr) (l : List UInt8) (c : Nat) (w : World) (hl : l.length ≤ 140737488351232) (hr : RdB w A l) :
    Calls Tryd.prog 16 #[.slice A l.length c] w (NewB 5 (l ++ hlast (hmore 1 l)) w) := by
  have HR := Lib.hid hr
  have hm := hmore_range 1 l (by omega)
  have HL := Lib.hid (enc_hlast (hmore 1 l) (by omega))
  obtain ⟨hm1, hm2⟩ := hm
  clear hr
  go_enter Tryd.func16, Tryd.ntmps16
  go_wp2_with fail
  refine (refsum_any A l c _ (by omega) HR.out).mono ?_
  rintro e w' ⟨rfl, rfl⟩
  go_wp2_with (first
    | (at_builtin; refine wpList_appendB rfl (.tmp 7) (.tmp 8) 22 5 rfl Tryd.underlying22 infoB none 0 [] rfl (OwnB.nil _ _) A c l rfl HR.out (by simp; omega) ?_; intro A1 c1 w1 l1 hl1 ho1 hk1 hb1; have HO1 := Lib.hid ho1; have HK1 := Lib.hid hk1; have HB1 := Lib.hid hb1; clear ho1 hk1 hb1)
    | (at_builtin; refine wpList_appendB rfl (.tmp 9) (.tmp 24) 22 5 rfl Tryd.underlying22 infoB A1 c1 l1 rfl (HO1.out.alloc _) (some ⟨w1.heap.size, 0, none⟩) 4 (hlast (hmore 1 l)) rfl (by have := RdB.lit w1 (hlast (hmore 1 l)) 5 (0, 0); rw [HL.out] at this; exact this) (by rw [hl1.out, length_hlast]; simp; omega) ?_; intro A2 c2 w2 l2 hl2 ho2 hk2 hb2))
  go_ret
  refine ⟨A2, c2, l2, ?_, rfl, ho2, fresh_append hb2 (fresh_append HB1.out (by simp) (Nat.le_refl _)) (by have := HK1.out.size; simp; omega), ?_⟩
  · show _ = _
    rw [hl2.out, hl1.out]; rfl
  · exact Keeps.fresh (HK1.out.alloc _) hk2 (fresh_append HB1.out (by simp) (Nat.le_refl _))

theorem refopen_end (A : Option Addr) (n c : Nat) (w : World) (hl : n < 4) :
    Calls Tryd.prog 14 #[.slice A n c] w fun e w' => e = .returned (.tuple #[.slice none 0 0, .int .i64 12]) ∧ w = w' := by
  go_enter Tryd.func14, Tryd.ntmps14
  go_wp2_with fail
  go_ret2
  exact ⟨rfl, rfl⟩

def RefOpened (A : Option Addr) (l0 lb : List UInt8) (c : Nat) (w : World) (e : Ending) (w' : World) : Prop :=
  ((hlast (hmore 1 l0) = lb ∧ e = .returned (.tuple #[.slice A l0.length c, .int .i64 0])) ∨ (hlast (hmore 1 l0) ≠ lb ∧ e = .returned (.tuple #[.slice none 0 0, .int .i64 11]))) ∧ Keeps [] w w'

set_option maxHeartbeats 2000000 in
theorem refopen_any (A : Option Addr) (l0 lb : List UInt8) (c : Nat) (w : World) (h4 : lb.length = 4) (hl : l0.length + 4 ≤ 140737488351232) (hc : l0.length + 4 ≤ c) (hr : RdB w A (l0 ++ lb)) :
    Calls Tryd.prog 14 #[.slice A (l0.length + 4) c] w (RefOpened A l0 lb c w) := by
  obtain ⟨g, o, rfl, hcell⟩ := hr.form (by simp [h4])
  have HR0 : RdB w (some ⟨g, o, none⟩) l0 := by
    have := hr.part 0 l0.length (by simp) (A' := some ⟨g, o, none⟩) (fun _ ad e => by rw [← Option.some.inj e]; simp [Addr.add])
    simpa using this
  have HR := Lib.hid HR0
  have i0 : (0 : Int) ≤ (l0.length : Int) := by omega
  have i1 : (l0.length : Int) ≤ (c : Int) := by omega
  have i2 : (l0.length : Int) ≤ (l0.length : Int) + 4 := by omega
  have F1 := conv_keeps (P := Tryd.prog) (dst := 9) Tryd.underlying22 Tryd.underlying5 Tryd.underlying9 hr c
  rw [List.length_append, h4] at F1
  have H4 := Lib.hid h4
  clear hr hcell HR0 h4
  go_enter Tryd.func14, Tryd.ntmps14
  go_wp2_with fail
  refine seq_start (by kernel_rfl) (fun x => Keeps [] w x) 8 [0, 1, 2, 3, 4, 5, 6, 7] rfl ((Keeps.refl [] w).drew) (fun hS => ?_)
  refine seq_take (v := ?_) rfl (by kernel_rfl) (by kernel_rfl) (by kernel_rfl) (Or.inl ⟨by rfl, fun w' hSw => ?_⟩) (by assumption) ?_
  rotate_left
  · go_simp
    with_reducible rfl
  simp only [Act.put, List.setIfInBounds_toArray, List.set_cons_zero, List.set_cons_succ]
  refine seq_take (v := ?_) rfl (by kernel_rfl) (by kernel_rfl) (by kernel_rfl) (Or.inl ⟨by rfl, fun w' hSw => ?_⟩) (by assumption) ?_
  rotate_left
  · go_simp
    with_reducible rfl
  simp only [Act.put, List.setIfInBounds_toArray, List.set_cons_zero, List.set_cons_succ]
  refine seq_take (v := ?_) rfl (by kernel_rfl) (by kernel_rfl) (by kernel_rfl) (Or.inl ⟨by rfl, fun w' hSw => ?_⟩) (by assumption) ?_
  rotate_left
  · go_simp
    with_reducible rfl
  simp only [Act.put, List.setIfInBounds_toArray, List.set_cons_zero, List.set_cons_succ]
  iterate 2 (refine seq_later ?_; simp only [List.cons_append, List.nil_append])
  refine seq_take (v := ?_) rfl (by kernel_rfl) (by kernel_rfl) (by kernel_rfl) (Or.inl ⟨by rfl, fun w' hSw => ?_⟩) (by assumption) ?_
  rotate_left
  · go_simp
    with_reducible rfl
  simp only [Act.put, List.setIfInBounds_toArray, List.set_cons_zero, List.set_cons_succ]
  refine seq_take (v := ?_) rfl (by kernel_rfl) (by kernel_rfl) (by kernel_rfl) (Or.inl ⟨by rfl, fun w' hSw => ?_⟩) (by assumption) ?_
  rotate_left
  · go_simp
    with_reducible rfl
  simp only [Act.put, List.setIfInBounds_toArray, List.set_cons_zero, List.set_cons_succ]
  iterate 1 (refine seq_later ?_; simp only [List.cons_append, List.nil_append])
  refine seq_do rfl (by kernel_rfl) (by rfl) (fun K hK => ?_)
  go_simp
  refine (refseal_any (some ⟨g, o, none⟩) l0 c _ (by omega) (by exact HR.out)).mono ?_
  rintro e w2 ⟨A1, c1, l1, hl1, rfl, ho1, hn1, hk1⟩
  have HK := Lib.hid hk1.undrew
  have F2 := conv_keeps (P := Tryd.prog) (dst := 9) Tryd.underlying22 Tryd.underlying5 Tryd.underlying9 ho1.rd c1
  clear hk1 hn1 ho1
  refine hK.out (fun x => Keeps [] w x ∧ Keeps [] w2 x) _ _ (fun x h => h.1) ⟨HK.out, Keeps.refl [] w2⟩ (fun hS => ?_)
  refine seq_take (v := ?_) rfl (by kernel_rfl) (by kernel_rfl) (by kernel_rfl) (Or.inl ⟨by rfl, fun w' hSw => ?_⟩) (by assumption) ?_
  rotate_left
  · go_simp
    with_reducible rfl
  simp only [Act.put, List.setIfInBounds_toArray, List.set_cons_zero, List.set_cons_succ]
  refine seq_take (v := ?_) rfl (by kernel_rfl) (by kernel_rfl) (by kernel_rfl) (Or.inl ⟨by rfl, fun w' hSw => ?_⟩) (by assumption) ?_
  rotate_left
  · go_simp
    with_reducible rfl
  simp only [Act.put, List.setIfInBounds_toArray, List.set_cons_zero, List.set_cons_succ]
  refine seq_done (by kernel_rfl) ?_
  have hb : ((strB l1).toList == (strB (l0 ++ lb)).toList) = (hlast (hmore 1 l0) == lb) := by
    rw [strB_beq, hl1.out, Bool.eq_iff_iff, beq_iff_eq, beq_iff_eq, List.append_cancel_left_eq]
  rw [hb]
  clear hb F1 F2 hS
  by_cases he : hlast (hmore 1 l0) = lb
  · have e1 : (hlast (hmore 1 l0) == lb) = true := beq_iff_eq.2 he
    rw [e1]
    simp only [Bool.not_true]
    have E := Lib.hid he
    clear he e1
    go_wp2_with fail
    go_ret2
    exact ⟨.inl ⟨E.out, rfl⟩, HK.out⟩
  · have e1 : (hlast (hmore 1 l0) == lb) = false := beq_eq_false_iff_ne.2 he
    rw [e1]
    simp only [Bool.not_false]
    have E := Lib.hid he
    clear he e1
    go_wp2_with fail
    go_ret2
    exact ⟨.inr ⟨E.out, rfl⟩, HK.out⟩
end Go.Proofs.YtpflfbenadgknaaDoor
