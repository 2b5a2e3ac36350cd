/- What last, slices.Clone, Seal and Open compute, and the document's Seal and Open: contracts. -/
import Derived.Test.YtpflfbenadgknaaDoorHorner
import Derived.Test.YtpflfbenadgknaaDoorBytes
import Derived.Lib.SliceRun
import Derived.Deep.RegionHeld3
namespace Go.Proofs.YtpflfbenadgknaaDoor
open Go.RowKit

/-- The four bytes of a sum. -/
def hlast (s : Int) : List UInt8 := [UInt8.ofNat (s % 256).toNat, UInt8.ofNat (s / 256 % 256).toNat, UInt8.ofNat (s / 65536 % 256).toNat, UInt8.ofNat (s / 16777216 % 256).toNat]
theorem u8_of {n : Int} (h : 0 ≤ n ∧ n ≤ 255) : ((UInt8.ofNat n.toNat).toNat : Int) = n := by
  rw [UInt8.toNat_ofNat']; omega
theorem length_hlast (s : Int) : (hlast s).length = 4 := rfl
def Last4 (s : Int) (w : World) (e : Ending) (w' : World) : Prop :=
  ∃ b0 b1 b2 b3 : UInt8, Hid (hlast s = [b0, b1, b2, b3]) ∧ e = .returned (.agg #[.int .u8 (b0.toNat : Int), .int .u8 (b1.toNat : Int), .int .u8 (b2.toNat : Int), .int .u8 (b3.toNat : Int)]) ∧ Keeps [] w w'

set_option maxHeartbeats 1000000 in
theorem last_any (s : Int) (w : World) (hs : 0 ≤ s ∧ s ≤ 4294967295) :
    Calls Tryd.prog 19 #[.int .u32 s] w (Last4 s w) := by
  obtain ⟨h1, h2⟩ := hs
  go_enter Tryd.func19, Tryd.ntmps19
  go_wp2_with fail
  refine wp_loop_rounds 5 ?_
  rw [rounds_succ]
  go_wp2
  rw [rounds_succ]
  go_wp2
  rw [rounds_succ]
  go_wp2
  rw [rounds_succ]
  go_wp2
  rw [rounds_succ]
  go_wp2
  refine bodyPost_ret (v := .agg #[.int .u8 (s % 256), .int .u8 (s / 256 % 256), .int .u8 (s / 65536 % 256), .int .u8 (s / 16777216)]) (by simp [results, Tryd.results19, go_sem]) rfl ⟨_, _, _, _, rfl, ?_, ((Keeps.refl [] w).alloc _).alloc _⟩
  have e0 : ((UInt8.ofNat (s % 256).toNat).toNat : Int) = s % 256 := u8_of (by omega)
  have e1 : ((UInt8.ofNat (s / 256 % 256).toNat).toNat : Int) = s / 256 % 256 := u8_of (by omega)
  have e2 : ((UInt8.ofNat (s / 65536 % 256).toNat).toNat : Int) = s / 65536 % 256 := u8_of (by omega)
  have e3 : ((UInt8.ofNat (s / 16777216 % 256).toNat).toNat : Int) = s / 16777216 := by rw [u8_of (by omega)]; omega
  rw [e0, e1, e2, e3]

theorem own_empty (w : World) : OwnB 5 (w.alloc (.cells #[] 5)) (some ⟨w.heap.size, 0, none⟩) 0 [] := by
  refine ⟨by simp [encB], .inr ⟨w.heap.size, 0, #[], rfl, Nat.zero_le _, heap_alloc_new w _, Nat.le_refl _, by unfold maxLen; omega, by simp, by simp [encB]⟩⟩

theorem clone_any (A : Option Addr) (l : List UInt8) (c : Nat) (w : World) (hl : l.length ≤ 140737488351232) (hr : RdB w A l) :
    Calls Tryd.prog 20 #[.slice A l.length c] w (NewB 5 l w) := by
  have HR := Lib.hid hr
  clear hr
  rcases A with _ | ad
  · have h0 : l = [] := by
      rcases Nat.eq_zero_or_pos l.length with h | h
      · exact List.eq_nil_of_length_eq_zero h
      · obtain ⟨ad, e, _⟩ := HR.out.at_ (k := 0) h
        cases e
    subst h0
    have hn := Lib.run_eql_slice_nil (P := Tryd.prog) w 22 5 none 0 c 0 0 Tryd.underlying22
    go_enter Tryd.func20, Tryd.ntmps20
    go_wp2_with fail
    go_ret
    exact ⟨none, 0, [], rfl, rfl, OwnB.nil _ _, by simp, Keeps.refl [] w⟩
  · have hn := Lib.run_eql_slice_nil (P := Tryd.prog) w 22 5 (some ad) l.length c 0 0 Tryd.underlying22
    go_enter Tryd.func20, Tryd.ntmps20
    go_wp2_with (at_builtin; refine wpList_appendB rfl (.tmp 5) (.tmp 6) 22 5 rfl Tryd.underlying22 infoB (some ⟨w.heap.size, 0, none⟩) 0 [] rfl (own_empty w) (some ad) c l rfl (HR.out.alloc _) (by simp; omega) ?_; intro A' c' w' l' hl' ho hk hb)
    go_ret
    refine ⟨A', c', l', hl', rfl, ho, fun a ha => ?_, ((Keeps.refl [] w).alloc _).trans hk (by simp [blk])⟩
    rcases hb a ha with h | h
    · simp [blk] at h; omega
    · simp at h; omega

set_option maxHeartbeats 1000000 in
theorem seal_any (A : Option Addr) (l : List UInt8) (c : Nat) (w : World) (hl : l.length ≤ 140737488351232) (hr : RdB w A l) :
    Calls Tryd.prog 15 #[.slice A l.length c] w (NewB 5 (l ++ hlast (hmore 1 l)) w) := by
  have HR := Lib.hid hr
  have hm := hmore_range 1 l (by omega)
  clear hr
  go_enter Tryd.func15, Tryd.ntmps15
  go_wp2_with fail
  refine (sum_any A l c _ (by omega) HR.out).mono ?_
  rintro e w' ⟨rfl, rfl⟩
  go_wp2_with fail
  refine (last_any _ _ (by omega)).mono ?_
  rintro e w1 ⟨b0, b1, b2, b3, hb4, rfl, hk1⟩
  go_wp2_with fail
  have hk2 := hk1.alloc (.cells #[.int .u8 (b0.toNat : Int), .int .u8 (b1.toNat : Int), .int .u8 (b2.toNat : Int), .int .u8 (b3.toNat : Int)] 50)
  have hR1 := HR.out.keeps0 hk2
  have hR4 := RdB.lit w1 [b0, b1, b2, b3] 50 (0, 0)
  have H2 := Lib.hid hk2
  have HR1 := Lib.hid hR1
  have HR4 := Lib.hid hR4
  clear hk1 hk2 hR1 hR4
  go_region_held3 (fun _ => True) (trivial)
    (first
      | (go_at_call 20; refine (clone_any A l c _ (by omega) (by exact HR1.out)).mono ?_; rintro e w2 ⟨A1, c1, l1, hl1, rfl, ho1, hn1, hk3⟩; have HO1 := Lib.hid ho1; have HN1 := Lib.hid hn1; have HK3 := Lib.hid hk3; clear ho1 hn1 hk3)
      | (refine step_appendB rfl (.tmp 8) (.tmp 9) 22 5 rfl Tryd.underlying22 infoB A1 c1 l1 (by rfl) HO1.out (some ⟨w1.heap.size, 0, none⟩) 4 [b0, b1, b2, b3] (by rfl) (by exact RdB.keeps0 (RdB.drew HR4.out) HK3.out) (by rw [hl1.out]; simp; omega) ?_; intro A2 c2 w3 l2 hl2 ho2 hk4 hn2))
  go_wp2_with fail
  go_ret
  have hs1 := H2.out.size
  refine ⟨A2, c2, l2, ?_, rfl, ho2, fun a ha => ?_, ?_⟩
  · show _ = _
    rw [hl2.out, hl1.out, hb4.out]
  · rcases hn2 a ha with h | h
    · obtain ⟨a1, e1, e2⟩ := mem_blk.1 h
      have := HN1.out a1 e1
      simp at this hs1
      omega
    · have := HK3.out.size
      simp at this hs1
      omega
  · refine (H2.out.drew.trans HK3.out (by simp)).trans hk4 (fun t ht => ?_)
    obtain ⟨a1, e1, e2⟩ := mem_blk.1 ht
    have := HN1.out a1 e1
    simp at this hs1
    exact .inr (by omega)

/-! ## Opened -/
theorem open_end (A : Option Addr) (n c : Nat) (w : World) (hl : n < 4) :
    Calls Tryd.prog 13 #[.slice A n c] w fun e w' => e = .returned (.tuple #[.slice none 0 0, .iface 45 (.int .i64 12)]) ∧ w = w' := by
  go_enter Tryd.func13, Tryd.ntmps13
  go_wp2_with fail
  go_ret2
  exact ⟨rfl, rfl⟩

theorem split4 (l : List UInt8) (h : 4 ≤ l.length) : ∃ l0 b0 b1 b2 b3, l = l0 ++ [b0, b1, b2, b3] := by
  refine ⟨l.take (l.length - 4), l[l.length - 4], l[l.length - 3], l[l.length - 2], l[l.length - 1], ?_⟩
  have h4 : l.drop (l.length - 4) = [l[l.length - 4], l[l.length - 3], l[l.length - 2], l[l.length - 1]] := by
    apply List.ext_getElem
    · simp; omega
    · intro i h1 h2
      simp at h2
      rw [List.getElem_drop]
      match i, h2 with
      | 0, _ => rfl
      | 1, _ => simp only [List.getElem_cons_succ, List.getElem_cons_zero]; congr 1; omega
      | 2, _ => simp only [List.getElem_cons_succ, List.getElem_cons_zero]; congr 1; omega
      | 3, _ => simp only [List.getElem_cons_succ, List.getElem_cons_zero]; congr 1; omega
  rw [← h4, List.take_append_drop]

theorem four_inj {c0 c1 c2 c3 b0 b1 b2 b3 : UInt8} (h : [c0, c1, c2, c3] = [b0, b1, b2, b3]) : c0 = b0 ∧ c1 = b1 ∧ c2 = b2 ∧ c3 = b3 := by simpa using h
theorem ne4 {c0 c1 c2 c3 b0 b1 b2 b3 : UInt8} (h : [c0, c1, c2, c3] ≠ [b0, b1, b2, b3]) (w : World) :
    (Op.equalIn 10000 50 (.agg #[.int .u8 (c0.toNat : Int), .int .u8 (c1.toNat : Int), .int .u8 (c2.toNat : Int), .int .u8 (c3.toNat : Int)]) (.agg #[.int .u8 (b0.toNat : Int), .int .u8 (b1.toNat : Int), .int .u8 (b2.toNat : Int), .int .u8 (b3.toNat : Int)])).run Tryd.prog w = .ok false w :=
  (eq_arr4 [c0, c1, c2, c3] [b0, b1, b2, b3] rfl rfl w).trans (by rw [beq_eq_false_iff_ne.2 h])
theorem eq4 (b0 b1 b2 b3 : UInt8) (w : World) :
    (Op.equalIn 10000 50 (.agg #[.int .u8 (b0.toNat : Int), .int .u8 (b1.toNat : Int), .int .u8 (b2.toNat : Int), .int .u8 (b3.toNat : Int)]) (.agg #[.int .u8 (b0.toNat : Int), .int .u8 (b1.toNat : Int), .int .u8 (b2.toNat : Int), .int .u8 (b3.toNat : Int)])).run Tryd.prog w = .ok true w :=
  (eq_arr4 [b0, b1, b2, b3] [b0, b1, b2, b3] rfl rfl w).trans (by simp)

set_option maxHeartbeats 1000000 in
theorem open_bad (A : Option Addr) (l0 : List UInt8) (b0 b1 b2 b3 : UInt8) (c : Nat) (w : World) (hl : l0.length + 4 ≤ 140737488351232) (hc : l0.length + 4 ≤ c) (hr : RdB w A (l0 ++ [b0, b1, b2, b3]))
    (hne : hlast (hmore 1 l0) ≠ [b0, b1, b2, b3]) :
    Calls Tryd.prog 13 #[.slice A (l0.length + 4) c] w fun e w' => e = .returned (.tuple #[.slice none 0 0, .iface 45 (.int .i64 11)]) ∧ Keeps [] w w' := by
  obtain ⟨g, o, rfl, hcell⟩ := hr.form (by simp)
  have q0 : w.cell? ⟨g, o + l0.length, none⟩ = some (.int .u8 (b0.toNat : Int)) := by simpa using hcell l0.length (by simp)
  have q1 : w.cell? ⟨g, o + l0.length + 1, none⟩ = some (.int .u8 (b1.toNat : Int)) := by simpa [Nat.add_assoc] using hcell (l0.length + 1) (by simp)
  have q2 : w.cell? ⟨g, o + l0.length + 2, none⟩ = some (.int .u8 (b2.toNat : Int)) := by simpa [Nat.add_assoc] using hcell (l0.length + 2) (by simp)
  have q3 : w.cell? ⟨g, o + l0.length + 3, none⟩ = some (.int .u8 (b3.toNat : Int)) := by simpa [Nat.add_assoc] using hcell (l0.length + 3) (by simp)
  have hm := hmore_range 1 l0 (by omega)
  have HR0 : RdB w (some ⟨g, o, none⟩) l0 := by
    have := hr.part 0 l0.length (by simp) (A' := some ⟨g, o, none⟩) (fun _ ad e => by rw [← Option.some.inj e]; simp [Addr.add])
    simpa using this
  have HR := Lib.hid HR0
  have HNE := Lib.hid hne
  have i0 : (0 : Int) ≤ (l0.length : Int) := by omega
  have i1 : (l0.length : Int) ≤ (c : Int) := by omega
  have i2 : (l0.length : Int) ≤ (l0.length : Int) + 4 := by omega
  have hat := fun w' => run_arrayAt (P := Tryd.prog) w' Tryd.underlying50 ⟨g, o + l0.length, none⟩ 4 (c - l0.length) (by omega)
  clear hr hcell HR0 hne
  go_enter Tryd.func13, Tryd.ntmps13
  go_wp2_with fail
  go_region_held3 (fun w' => w'.cell? ⟨g, o + l0.length, none⟩ = some (.int .u8 (b0.toNat : Int)) ∧ w'.cell? ⟨g, o + l0.length + 1, none⟩ = some (.int .u8 (b1.toNat : Int)) ∧ w'.cell? ⟨g, o + l0.length + 2, none⟩ = some (.int .u8 (b2.toNat : Int)) ∧ w'.cell? ⟨g, o + l0.length + 3, none⟩ = some (.int .u8 (b3.toNat : Int)))
    (first | (exact ⟨q0, q1, q2, q3⟩) | (exact ⟨HK.out.cell q0 (by simp), HK.out.cell q1 (by simp), HK.out.cell q2 (by simp), HK.out.cell q3 (by simp)⟩))
    (first
      | (go_at_call 9; refine (sum_any (some ⟨g, o, none⟩) l0 c _ (by omega) (by exact HR.out)).mono ?_; rintro e w2 ⟨rfl, rfl⟩)
      | (go_at_call 19; refine (last_any _ _ (by omega)).mono ?_; rintro e w2 ⟨c0, c1, c2, c3, hc4, rfl, hk3⟩; have HK := Lib.hid hk3.undrew; clear hk3; have heq := ne4 (c0 := c0) (c1 := c1) (c2 := c2) (c3 := c3) (b0 := b0) (b1 := b1) (b2 := b2) (b3 := b3) (by rw [← hc4.out]; exact HNE.out)))
  all_goals
    go_wp2_with fail
    go_ret2
    exact ⟨rfl, HK.out⟩

/-- A call hands back bytes in new memory and no error. -/
def NewBOk (E : TypeId) (spec : List UInt8) (w : World) (e : Ending) (w' : World) : Prop :=
  ∃ A c l, Hid (l = spec) ∧ e = .returned (.tuple #[.slice A l.length c, .nilIface]) ∧ OwnB E w' A c l ∧ (∀ a, A = some a → w.heap.size ≤ a.block) ∧ Keeps [] w w'

set_option maxHeartbeats 1000000 in
theorem open_ok (A : Option Addr) (l0 : List UInt8) (b0 b1 b2 b3 : UInt8) (c : Nat) (w : World) (hl : l0.length + 4 ≤ 140737488351232) (hc : l0.length + 4 ≤ c) (hr : RdB w A (l0 ++ [b0, b1, b2, b3]))
    (hne : hlast (hmore 1 l0) = [b0, b1, b2, b3]) :
    Calls Tryd.prog 13 #[.slice A (l0.length + 4) c] w (NewBOk 5 l0 w) := by
  obtain ⟨g, o, rfl, hcell⟩ := hr.form (by simp)
  have q0 : w.cell? ⟨g, o + l0.length, none⟩ = some (.int .u8 (b0.toNat : Int)) := by simpa using hcell l0.length (by simp)
  have q1 : w.cell? ⟨g, o + l0.length + 1, none⟩ = some (.int .u8 (b1.toNat : Int)) := by simpa [Nat.add_assoc] using hcell (l0.length + 1) (by simp)
  have q2 : w.cell? ⟨g, o + l0.length + 2, none⟩ = some (.int .u8 (b2.toNat : Int)) := by simpa [Nat.add_assoc] using hcell (l0.length + 2) (by simp)
  have q3 : w.cell? ⟨g, o + l0.length + 3, none⟩ = some (.int .u8 (b3.toNat : Int)) := by simpa [Nat.add_assoc] using hcell (l0.length + 3) (by simp)
  have hm := hmore_range 1 l0 (by omega)
  have HR0 : RdB w (some ⟨g, o, none⟩) l0 := by
    have := hr.part 0 l0.length (by simp) (A' := some ⟨g, o, none⟩) (fun _ ad e => by rw [← Option.some.inj e]; simp [Addr.add])
    simpa using this
  have HR := Lib.hid HR0
  have HNE := Lib.hid hne
  have i0 : (0 : Int) ≤ (l0.length : Int) := by omega
  have i1 : (l0.length : Int) ≤ (c : Int) := by omega
  have i2 : (l0.length : Int) ≤ (l0.length : Int) + 4 := by omega
  have hat := fun w' => run_arrayAt (P := Tryd.prog) w' Tryd.underlying50 ⟨g, o + l0.length, none⟩ 4 (c - l0.length) (by omega)
  have heq := eq4 b0 b1 b2 b3
  clear hr hcell HR0 hne
  go_enter Tryd.func13, Tryd.ntmps13
  go_wp2_with fail
  go_region_held3 (fun w' => w'.cell? ⟨g, o + l0.length, none⟩ = some (.int .u8 (b0.toNat : Int)) ∧ w'.cell? ⟨g, o + l0.length + 1, none⟩ = some (.int .u8 (b1.toNat : Int)) ∧ w'.cell? ⟨g, o + l0.length + 2, none⟩ = some (.int .u8 (b2.toNat : Int)) ∧ w'.cell? ⟨g, o + l0.length + 3, none⟩ = some (.int .u8 (b3.toNat : Int)))
    (first | (exact ⟨q0, q1, q2, q3⟩) | (exact ⟨HK.out.cell q0 (by simp), HK.out.cell q1 (by simp), HK.out.cell q2 (by simp), HK.out.cell q3 (by simp)⟩))
    (first
      | (go_at_call 9; refine (sum_any (some ⟨g, o, none⟩) l0 c _ (by omega) (by exact HR.out)).mono ?_; rintro e w2 ⟨rfl, rfl⟩)
      | (go_at_call 19; refine (last_any _ _ (by omega)).mono ?_; rintro e w2 ⟨c0, c1, c2, c3, hc4, rfl, hk3⟩; have HK := Lib.hid hk3.undrew; clear hk3; obtain ⟨rfl, rfl, rfl, rfl⟩ := four_inj (hc4.out.symm.trans HNE.out)))
  all_goals
    clear q0 q1 q2 q3
    go_wp2_with fail
    refine (clone_any (some ⟨g, o, none⟩) l0 c _ (by omega) (by exact HR.out.keeps0 HK.out)).mono ?_
    rintro e w3 ⟨A1, c1', l1, hl1, rfl, ho1, hn1, hk4⟩
    go_wp2_with fail
    go_ret2
    exact ⟨A1, c1', l1, hl1, rfl, ho1, fun a ha => Nat.le_trans HK.out.size (hn1 a ha), HK.out.trans hk4 (by simp)⟩
end Go.Proofs.YtpflfbenadgknaaDoor
