/- Parts as the program's: a contract. What a part makes of a base: a contract. The block that parts make of a base: plain, and how it lies. The block that parts make of a base: the walk. -/
import Derived.Test.YtljinghhalcnnaaDoorQDeltaReads8
import Derived.Test.YtljinghhalcnnaaDoorQDeltaReads10
import Derived.Test.YtljinghhalcnnaaDoorQDeltaReads6
import Derived.Deep.DeepCutAuto
import Derived.Test.YtljinghhalcnnaaDoorQDeltaReads7
import Derived.Test.YtljinghhalcnnaaDoorQDeltaReads9
namespace Go.Proofs.YtljinghhalcnnaaDoor
open Go.RowKit

theorem infoOp4g : (Tryd.prog.info? 50).map (·.size) = some 4 := by kernel_rfl
theorem OpI.other {w wr wr' : World} {x : Nat} {A : Option Addr} {c : Nat} {ts : List Pt} (h : OpI w wr A c ts) (hk : Keeps [x] wr wr')
    (hx : w.heap.size ≤ x ∧ x ∉ blk A ∧ ∀ s ∈ ts, ∀ y, s.A = some y → y.block ≠ x) : OpI w wr' A c ts := by
  refine ⟨ownsRow_keeps h.own hk (fun a ha => ?_), h.fr, fun t ht => ⟨(h.rd t ht).1.keeps hk (fun a ha => by simpa using hx.2.2 t ht a ha), (h.rd t ht).2⟩, h.dj, h.kp.trans hk (fun t ht => .inr (by simp at ht; omega))⟩
  simp only [List.mem_singleton]
  exact fun e1 => hx.2.1 (mem_blk.2 ⟨a, ha, e1⟩)
theorem OpI.apart {w wr : World} {A : Option Addr} {c : Nat} {ts : List Pt} (h : OpI w wr A c ts) {b : Nat} (hb : wr.heap.size ≤ b) : w.heap.size ≤ b ∧ b ∉ blk A ∧ ∀ s ∈ ts, ∀ x, s.A = some x → x.block ≠ b := by
  have s1 := h.kp.size
  refine ⟨by omega, fun hm => ?_, fun s hs x hx => ?_⟩
  · obtain ⟨x, e1, e2⟩ := mem_blk.1 hm
    have := ownsRow_lt h.own x e1
    omega
  · have := (h.rd s hs).1.lt x hx
    omega
/-- The same parts, one's own. -/
def GiveP (ts : List Pt) (w : World) (r : Ending) (w' : World) : Prop :=
  ∃ A c us, r = .returned (.slice A us.length c) ∧ OpI w w' A c us ∧ us.map Pt.p = ts.map Pt.p
set_option maxRecDepth 100000 in
set_option maxHeartbeats 16000000 in
theorem give_any (A : Option Addr) (c : Nat) (ts : List Pt) (w : World) (hr : Rd w A ts.length 4 (encPt ts)) (hf : ∀ t ∈ ts, t.fine w) (hl : ts.length ≤ 1000) :
    Calls Tryd.prog 10 #[.slice A ts.length c] w (GiveP ts w) := by
  have HR := Lib.hid (And.intro hr hf)
  obtain ⟨n, hn⟩ : ∃ n, n = ts.length := ⟨_, rfl⟩
  have HN := Lib.hid hn
  rw [← hn]
  rw [← hn] at hl
  clear hr hf hn
  go_enter Tryd.func10, Tryd.ntmps10
  go_wp2_with fail
  go_loopw [3, 4] (fun s3 s4 wr => ∃ (i : Nat) (A' : Option Addr) (c' : Nat) (us : List Pt), s4 = .int .i64 i ∧ s3 = .slice A' us.length c' ∧ i ≤ n ∧ Hid (OpI w wr A' c' us ∧ us.map Pt.p = (ts.take i).map Pt.p)) (fun _ s4 _ => n - (intOf s4).toNat)
  case atStart => exact ⟨0, none, 0, [], rfl, rfl, Nat.zero_le _, ⟨OpI.nil w w (Keeps.refl [] w), rfl⟩⟩
  case round =>
    obtain ⟨i, A', c', us, rfl, rfl, hi, D⟩ := hrel
    have HUL := Lib.hid (show us.length = i from by have h1 := congrArg List.length D.out.2; rw [List.length_map, List.length_map, List.length_take] at h1; have := HN.out; omega)
    rw [HUL.out]
    by_cases hin : i < n
    · have hini : (i : Int) < (n : Int) := by omega
      have HIL := Lib.hid (show i < ts.length ∧ i < n from by have := HN.out; omega)
      have HRR := Lib.hid (HR.out.1.keeps0 D.out.1.kp)
      obtain ⟨ga, oa, rfl, k0, k1, k2, k3⟩ := pt_cells HRR.out HIL.out.1
      obtain ⟨t, ht⟩ : ∃ t, t = ts[i]'(HIL.out.1) := ⟨_, rfl⟩
      rw [← ht] at k0 k1 k2 k3
      have HTT := Lib.hid (show t.fine wr ∧ (ts.take (i + 1)).map Pt.p = (ts.take i).map Pt.p ++ [t.p] from ⟨by rw [ht]; exact (HR.out.2 _ (List.getElem_mem _)).keeps0 D.out.1.kp, by rw [List.take_succ_eq_append_getElem HIL.out.1, List.map_append, ht]; rfl⟩)
      have HK3 := Lib.hid k3
      obtain ⟨gx, hgx⟩ : ∃ gx, gx = wr.heap.size := ⟨_, rfl⟩
      obtain ⟨w4, hw4⟩ : ∃ w4, w4 = wr.alloc (.cells #[.bool t.p.cp, .int .i64 t.p.fr, .int .i64 t.p.ln, .slice t.A t.p.b.length t.c] 50) := ⟨_, rfl⟩
      have HX := Lib.hid (show Keeps [] wr w4 ∧ w4.heap[gx]? = some (.cells #[.bool t.p.cp, .int .i64 t.p.fr, .int .i64 t.p.ln, .slice t.A t.p.b.length t.c] 50 (0, 0)) ∧ (w.heap.size ≤ gx ∧ gx ∉ blk A' ∧ ∀ s ∈ us, ∀ y, s.A = some y → y.block ≠ gx) ∧ gx < w4.heap.size from
        ⟨by rw [hw4]; exact (Keeps.refl [] wr).alloc _, by rw [hw4, hgx]; exact heap_alloc_new _ _, D.out.1.apart (by rw [hgx]; exact Nat.le_refl _), by rw [hw4, hgx, World.size_alloc]; omega⟩)
      have HW := Lib.hid (And.intro hw4 hgx)
      clear hw4 hgx ht hin hi
      go_upto_region 7 with fail
      rw [← HW.out.1, ← HW.out.2]
      clear k0 k1 k2 k3
      have k3 : w4.cell? ⟨ga, oa + i * 4 + 3, none⟩ = some (.slice t.A t.p.b.length t.c) := HX.out.1.cell HK3.out (by simp)
      have z3 : ∀ (z : World), Keeps [] w4 z → z.cell? ⟨gx, 3, none⟩ = some (.slice t.A t.p.b.length t.c) ∧ z.frozen? ⟨gx, 3, none⟩ = false := fun z hz => by
        have h1 := (hz.block gx (lt_of_block HX.out.2.1) (by simp)).trans HX.out.2.1
        exact ⟨by rw [cell_of_row _ _ _ _ _ _ h1]; rfl, frozen_of_row z gx 3 _ _ h1⟩
      have hfit : ([] : List UInt8).length + t.p.b.length ≤ 140737488355328 := by have := HTT.out.1.le; simp; omega
      go_upto_region 8 with (at_builtin; refine wpList_appendB rfl (.tmp 17) (.tmp 22) 25 5 rfl Tryd.underlying25 infoB none 0 [] rfl (OwnB.nil _ _) t.A t.c t.p.b rfl (HTT.out.1.rd.keeps0 HX.out.1) hfit ?_; intro A5 c5 w5 l5 hl5 ho5 hk5 hf5; have H5 := Lib.hid (show l5 = t.p.b ∧ OwnB 5 w5 A5 c5 l5 ∧ Keeps [] w4 w5 ∧ (∀ a, A5 = some a → w4.heap.size ≤ a.block) from ⟨hl5.out, ho5, hk5, fun a ha => by rcases hf5 a ha with h1 | h1; exact absurd h1 (by simp [blk]); exact h1⟩); obtain ⟨y3, y4⟩ := z3 w5 H5.out.2.2.1; clear hl5 ho5 hk5 hf5)
      obtain ⟨w7, hw7⟩ : ∃ w7, w7 = w5.setCell ⟨gx, 3, none⟩ (.slice A5 l5.length c5) := ⟨_, rfl⟩
      have O := Lib.hid (show OpI w w7 A' c' us ∧ w7.heap[gx]? = some (.cells #[.bool t.p.cp, .int .i64 t.p.fr, .int .i64 t.p.ln, .slice A5 l5.length c5] 50 (0, 0)) ∧ OwnB 5 w7 A5 c5 t.p.b ∧ (∀ a, A5 = some a → w.heap.size ≤ a.block ∧ a.block ∉ blk A' ∧ ∀ s ∈ us, ∀ y, s.A = some y → y.block ≠ a.block) from by
        have hkk : Keeps [gx] w5 w7 := by rw [hw7]; exact (Keeps.refl [gx] w5).setCell (p := ⟨gx, 3, none⟩) (.inl (by simp)) _
        have h1 := (H5.out.2.2.1.block gx (lt_of_block HX.out.2.1) (by simp)).trans HX.out.2.1
        have d5 : OpI w w5 A' c' us := (D.out.1.keeps0 HX.out.1).keeps0 H5.out.2.2.1
        refine ⟨d5.other hkk HX.out.2.2.1, ?_, ?_, fun a ha => (D.out.1.keeps0 HX.out.1).apart (H5.out.2.2.2 a ha)⟩
        · have h2 := heap_setCell_same w5 gx 3 _ _ (.slice A5 l5.length c5) h1
          rw [hw7, h2]
          rfl
        · have h3 := H5.out.2.1.keeps hkk (fun a ha => by
            have h4 := H5.out.2.2.2 a ha
            have h5 := HX.out.2.2.2
            simp only [List.mem_singleton]
            omega)
          rwa [H5.out.1] at h3)
      have hown := O.out.1.own
      rw [HUL.out] at hown
      have HOWN := Lib.hid hown
      have hi1 : i < 1000 := by have := HIL.out; omega
      rw [← hw7]
      clear hw7 hown y3 y4 z3 k3
      go_wp2_with (first
        | (refine wpList_load_row rfl 50 (.tmp 5) rfl gx rfl 50 #[.bool t.p.cp, .int .i64 t.p.fr, .int .i64 t.p.ln, .slice A5 l5.length c5] (0, 0) _ O.out.2.1 Tryd.underlying50 rfl infoOp4g ?_)
        | (at_builtin; refine wpList_appendV rfl (.tmp 25) (.tmp 27) 27 50 rfl Tryd.underlying27 _ 4 48 infoOp rfl (by decide) A' c' i (encPt us) rfl (ownsRow_keeps HOWN.out ((Keeps.refl [] w7).alloc _) (by simp)) (some ⟨w7.heap.size, 0, none⟩) 1 1 (Pt.cells ⟨t.p, A5, c5⟩) rfl (Rd.lit4 (by have h := heap_alloc_new w7 (.cells #[.bool t.p.cp, .int .i64 t.p.fr, .int .i64 t.p.ln, .slice A5 l5.length c5] 50); rw [H5.out.1] at h ⊢; exact h)) (Pt.one _) (by unfold maxLen; omega) (by omega) ?_; intro A8 c8 w8 ho hk hf; have D8 := Lib.hid (O.out.1.addB (t := ⟨t.p, A5, c5⟩) O.out.2.2.1 O.out.2.2.2 ((Keeps.refl [] w7).alloc _) HUL.out.symm ho hk hf); clear ho hk hf))
      go_roundw
      case rel => exact ⟨i + 1, A8, c8, us ++ [⟨t.p, A5, c5⟩], by go_num, by rw [List.length_append, HUL.out]; rfl, HIL.out.2, ⟨D8.out, by rw [List.map_append, D.out.2, HTT.out.2]; rfl⟩⟩
      case measure => have := HIL.out; simp [intOf]; omega
    · have hini : ¬ (i : Int) < (n : Int) := by omega
      have HE := Lib.hid (show us.map Pt.p = ts.map Pt.p from by rw [D.out.2, List.take_of_length_le (by have := HN.out; omega)])
      clear hin hi
      go_wp2_with fail
      go_ret
      exact ⟨A', c', us, by rw [HUL.out]; rfl, D.out.1, HE.out⟩
end Go.Proofs.YtljinghhalcnnaaDoor
namespace Go.Proofs.YtljinghhalcnnaaDoor
open Go.RowKit

/-- A part's bytes, or the error. -/
def partB (base : List UInt8) (p : Pa) : Except Int (List UInt8) :=
  if p.cp then (if p.fr < 0 ∨ p.ln < 1 ∨ 64 < p.fr ∨ 64 - p.fr < p.ln then .error 4 else .ok ((base.drop p.fr.toNat).take p.ln.toNat)) else (if p.b = [] then .error 3 else .ok p.b)
def ByP (base : List UInt8) (p : Pa) (w : World) (r : Ending) (w' : World) : Prop :=
  Keeps [] w w' ∧ ((∃ e, partB base p = .error e ∧ e ≠ 0 ∧ r = .returned (.tuple #[.slice none 0 0, errV e])) ∨ (∃ l A c, partB base p = .ok l ∧ r = .returned (.tuple #[.slice A l.length c, .nilIface]) ∧ RdB w' A l))
set_option maxRecDepth 100000 in
set_option maxHeartbeats 4000000 in
theorem obytes_any (t : Pt) (SA : Option Addr) (base : List UInt8) (hb : base.length = 64) (w : World) (hr : RdB w SA base) (ht : RdB w t.A t.p.b) (hf : -9223372036854775808 ≤ t.p.fr ∧ t.p.fr ≤ 9223372036854775807) (hn : -9223372036854775808 ≤ t.p.ln ∧ t.p.ln ≤ 9223372036854775807) :
    Calls Tryd.prog 30 #[.agg #[.bool t.p.cp, .int .i64 t.p.fr, .int .i64 t.p.ln, .slice t.A t.p.b.length t.c], .slice SA 64 64] w (ByP base t.p w) := by
  have HR := Lib.hid (show RdB w SA base ∧ RdB w t.A t.p.b ∧ base.length = 64 from ⟨hr, ht, hb⟩)
  obtain ⟨gx, hgx⟩ : ∃ gx, gx = w.heap.size := ⟨_, rfl⟩
  obtain ⟨W, hW⟩ : ∃ W, W = w.alloc (.cells #[.bool t.p.cp, .int .i64 t.p.fr, .int .i64 t.p.ln, .slice t.A t.p.b.length t.c] 50) := ⟨_, rfl⟩
  have HKW := Lib.hid (show Keeps [] w W from by rw [hW]; exact (Keeps.refl [] w).alloc _)
  have hrow : W.heap[gx]? = some (.cells #[.bool t.p.cp, .int .i64 t.p.fr, .int .i64 t.p.ln, .slice t.A t.p.b.length t.c] 50 (0, 0)) := by rw [hW, hgx]; exact heap_alloc_new _ _
  have k0 : W.cell? ⟨gx, 0, none⟩ = some (.bool t.p.cp) := by rw [cell_of_row _ _ _ _ _ _ hrow]; rfl
  have k1 : W.cell? ⟨gx, 1, none⟩ = some (.int .i64 t.p.fr) := by rw [cell_of_row _ _ _ _ _ _ hrow]; rfl
  have k2 : W.cell? ⟨gx, 2, none⟩ = some (.int .i64 t.p.ln) := by rw [cell_of_row _ _ _ _ _ _ hrow]; rfl
  have k3 : W.cell? ⟨gx, 3, none⟩ = some (.slice t.A t.p.b.length t.c) := by rw [cell_of_row _ _ _ _ _ _ hrow]; rfl
  have HW := Lib.hid (And.intro hW hgx)
  clear hr ht hb hW hgx hrow
  cases hcp : t.p.cp with
  | false =>
    have HCP := Lib.hid hcp
    rw [hcp] at k0 HW
    clear hcp
    by_cases hb0 : t.p.b = []
    · have HP := Lib.hid (show partB base t.p = .error 3 from by unfold partB; rw [HCP.out, if_neg (by simp), if_pos hb0])
      have hl : t.p.b.length = 0 := by rw [hb0]; rfl
      rw [hl] at k3 HW ⊢
      clear hb0 hl
      go_enter Tryd.func30, Tryd.ntmps30
      go_upto_region 1 with fail
      rw [← HW.out.1, ← HW.out.2]
      go_wp2_with fail
      go_ret2
      exact ⟨HKW.out, .inl ⟨3, HP.out, by omega, rfl⟩⟩
    · have HP := Lib.hid (show partB base t.p = .ok t.p.b from by unfold partB; rw [HCP.out, if_neg (by simp), if_neg hb0])
      have h0 : ((t.p.b.length : Int) == 0) = false := by
        rw [beq_eq_false_iff_ne]
        have := List.length_pos_iff.2 hb0
        omega
      have h1 : ¬ t.p.b.length = 0 := fun h => hb0 (List.length_eq_zero_iff.1 h)
      clear hb0
      go_enter Tryd.func30, Tryd.ntmps30
      go_upto_region 1 with fail
      rw [← HW.out.1, ← HW.out.2]
      go_wp2_with fail
      go_ret2
      exact ⟨HKW.out, .inr ⟨t.p.b, t.A, t.c, HP.out, rfl, HR.out.2.1.keeps0 HKW.out⟩⟩
  | true =>
    have HCP := Lib.hid hcp
    rw [hcp] at k0 HW
    clear hcp
    obtain ⟨f, hff⟩ : ∃ f, f = t.p.fr := ⟨_, rfl⟩
    obtain ⟨m, hmm⟩ : ∃ m, m = t.p.ln := ⟨_, rfl⟩
    rw [← hff] at k1 hf HW ⊢
    rw [← hmm] at k2 hn HW ⊢
    have HFM := Lib.hid (And.intro hff hmm)
    clear hff hmm
    have HB4 := Lib.hid (show (f < 0 ∨ m < 1 ∨ 64 < f ∨ 64 - f < m) → partB base t.p = .error 4 from fun h => by unfold partB; rw [HCP.out, if_pos rfl, ← HFM.out.1, ← HFM.out.2, if_pos h])
    rcases (show f < 0 ∨ (0 ≤ f ∧ m < 1) ∨ (0 ≤ f ∧ 1 ≤ m ∧ 64 < f) ∨ (0 ≤ f ∧ 1 ≤ m ∧ f ≤ 64 ∧ 64 - f < m) ∨ (0 ≤ f ∧ 1 ≤ m ∧ f ≤ 64 ∧ m ≤ 64 - f) from by omega) with h1 | ⟨h1, h2⟩ | ⟨h1, h2, h3⟩ | ⟨h1, h2, h3, h4⟩ | ⟨h1, h2, h3, h4⟩
    · have HP := Lib.hid (HB4.out (.inl h1))
      go_enter Tryd.func30, Tryd.ntmps30
      go_upto_region 1 with fail
      rw [← HW.out.1, ← HW.out.2]
      go_wp2_with fail
      go_ret2
      exact ⟨HKW.out, .inl ⟨4, HP.out, by omega, rfl⟩⟩
    · have HP := Lib.hid (HB4.out (.inr (.inl h2)))
      have h1' : ¬ f < 0 := by omega
      clear h1
      go_enter Tryd.func30, Tryd.ntmps30
      go_upto_region 1 with fail
      rw [← HW.out.1, ← HW.out.2]
      go_wp2_with fail
      go_ret2
      exact ⟨HKW.out, .inl ⟨4, HP.out, by omega, rfl⟩⟩
    · have HP := Lib.hid (HB4.out (.inr (.inr (.inl h3))))
      have h1' : ¬ f < 0 := by omega
      have h2' : ¬ m < 1 := by omega
      clear h1 h2
      go_enter Tryd.func30, Tryd.ntmps30
      go_upto_region 1 with fail
      rw [← HW.out.1, ← HW.out.2]
      go_wp2_with fail
      go_ret2
      exact ⟨HKW.out, .inl ⟨4, HP.out, by omega, rfl⟩⟩
    · have HP := Lib.hid (HB4.out (.inr (.inr (.inr h4))))
      obtain ⟨f', rfl⟩ : ∃ f' : Nat, f = (f' : Int) := ⟨f.toNat, by omega⟩
      have h1' : ¬ (f' : Int) < 0 := by omega
      have h2' : ¬ m < 1 := by omega
      have h3' : ¬ (64 : Int) < (f' : Int) := by omega
      have h5 : wrap64 (64 - (f' : Int)) = 64 - (f' : Int) := by unfold wrap64; omega
      clear h1 h2 h3
      go_enter Tryd.func30, Tryd.ntmps30
      go_upto_region 1 with fail
      rw [← HW.out.1, ← HW.out.2]
      go_wp2_with fail
      go_ret2
      exact ⟨HKW.out, .inl ⟨4, HP.out, by omega, rfl⟩⟩
    · obtain ⟨f', rfl⟩ : ∃ f' : Nat, f = (f' : Int) := ⟨f.toNat, by omega⟩
      obtain ⟨m', rfl⟩ : ∃ m' : Nat, m = (m' : Int) := ⟨m.toNat, by omega⟩
      have HP := Lib.hid (show partB base t.p = .ok ((base.drop f').take m') from by
        unfold partB
        rw [HCP.out, if_pos rfl, ← HFM.out.1, ← HFM.out.2, if_neg (by omega)]
        rfl)
      have h1' : ¬ (f' : Int) < 0 := by omega
      have h2' : ¬ (m' : Int) < 1 := by omega
      have h3' : ¬ (64 : Int) < (f' : Int) := by omega
      have h4' : ¬ (64 : Int) - (f' : Int) < (m' : Int) := by omega
      have h5 : wrap64 (64 - (f' : Int)) = 64 - (f' : Int) := by unfold wrap64; omega
      have h6 : wrap64 ((f' : Int) + (m' : Int)) = ((f' + m' : Nat) : Int) := by unfold wrap64; omega
      have HFM2 := Lib.hid (show f' + m' ≤ 64 ∧ f' ≤ 64 from by omega)
      have HSEC := Lib.hid (show RdB W (secA SA f' 64 1) ((base.drop f').take m') from (HR.out.1.keeps0 HKW.out).sec f' m' 64 (by rw [HR.out.2.2]; omega) (by omega))
      clear h1 h2 h3 h4
      go_enter Tryd.func30, Tryd.ntmps30
      go_upto_region 1 with fail
      rw [← HW.out.1, ← HW.out.2]
      go_wp2_with (refine wpList_sec rfl 25 (.tmp 50) (some (.tmp 52)) (some (.tmp 57)) none rfl Tryd.underlying25 infoB1d SA 64 64 f' (f' + m') 64 rfl (Bnd.at_ rfl) (Bnd.at_ (by first | rfl | simp)) Bnd.no (by omega) (by have := HFM2.out; omega) (by omega) (by simp) ?_)
      go_ret2
      refine ⟨HKW.out, .inr ⟨_, secA SA f' 64 1, 64 - f', HP.out, ?_, HSEC.out⟩⟩
      rw [List.length_take, List.length_drop, HR.out.2.2, Nat.min_eq_left (by have := HFM2.out; omega)]
      rfl
end Go.Proofs.YtljinghhalcnnaaDoor
namespace Go.Proofs.YtljinghhalcnnaaDoor
open Go.RowKit

def applyF (base : List UInt8) : List Pa → List UInt8 → Except Int (List UInt8)
  | [], all => if all.length = 64 then .ok all else .error 2
  | p :: ps, all => match partB base p with
    | .error e => .error e
    | .ok b => if 64 < all.length + b.length then .error 2 else applyF base ps (all ++ b)
def applyE (base : List UInt8) (ps : List Pa) : Except Int (List UInt8) := applyF base ps []
def z64 : List UInt8 := List.replicate 64 0
theorem z64_len : z64.length = 64 := rfl
theorem zero64k : (#[.int .u8 0, .int .u8 0, .int .u8 0, .int .u8 0, .int .u8 0, .int .u8 0, .int .u8 0, .int .u8 0, .int .u8 0, .int .u8 0, .int .u8 0, .int .u8 0, .int .u8 0, .int .u8 0, .int .u8 0, .int .u8 0, .int .u8 0, .int .u8 0, .int .u8 0, .int .u8 0, .int .u8 0, .int .u8 0, .int .u8 0, .int .u8 0, .int .u8 0, .int .u8 0, .int .u8 0, .int .u8 0, .int .u8 0, .int .u8 0, .int .u8 0, .int .u8 0, .int .u8 0, .int .u8 0, .int .u8 0, .int .u8 0, .int .u8 0, .int .u8 0, .int .u8 0, .int .u8 0, .int .u8 0, .int .u8 0, .int .u8 0, .int .u8 0, .int .u8 0, .int .u8 0, .int .u8 0, .int .u8 0, .int .u8 0, .int .u8 0, .int .u8 0, .int .u8 0, .int .u8 0, .int .u8 0, .int .u8 0, .int .u8 0, .int .u8 0, .int .u8 0, .int .u8 0, .int .u8 0, .int .u8 0, .int .u8 0, .int .u8 0, .int .u8 0] : Array Value) = (encB z64).toArray := rfl
/-- The block, or the error. -/
def ApP (base : List UInt8) (ps : List Pa) (w : World) (r : Ending) (w' : World) : Prop :=
  Keeps [] w w' ∧ ((∃ e, applyE base ps = .error e ∧ e ≠ 0 ∧ r = .returned (.tuple #[.agg (encB z64).toArray, errV e])) ∨ (∃ l, applyE base ps = .ok l ∧ l.length = 64 ∧ r = .returned (.tuple #[.agg (encB l).toArray, .nilIface])))
structure ApI (w wr : World) (g gr : Nat) (base : List UInt8) (A : Option Addr) (c : Nat) (all : List UInt8) : Prop where
  b : wr.heap[g]? = some (.cells (encB base).toArray 23 (0, 0))
  r : wr.heap[gr]? = some (.cells (encB z64).toArray 23 (0, 0))
  own : OwnB 5 wr A c all
  kp : Keeps [] w wr
  ap : ∀ a, A = some a → w.heap.size ≤ a.block ∧ a.block ≠ g ∧ a.block ≠ gr
  g0 : w.heap.size ≤ g ∧ w.heap.size ≤ gr ∧ g ≠ gr
theorem ApI.keeps0 {w wr wr' : World} {g gr : Nat} {base : List UInt8} {A : Option Addr} {c : Nat} {all : List UInt8} (h : ApI w wr g gr base A c all) (hk : Keeps [] wr wr') : ApI w wr' g gr base A c all :=
  ⟨(hk.block g (lt_of_block h.b) (by simp)).trans h.b, (hk.block gr (lt_of_block h.r) (by simp)).trans h.r, h.own.keeps0 hk, h.kp.trans hk (by simp), h.ap, h.g0⟩
theorem ApI.add {w wr w4 : World} {g gr : Nat} {base : List UInt8} {A A4 : Option Addr} {c c4 : Nat} {all all4 : List UInt8} (h : ApI w wr g gr base A c all) (ho : OwnB 5 w4 A4 c4 all4) (hk : Keeps (blk A) wr w4) (hf : ∀ a, A4 = some a → a.block ∈ blk A ∨ wr.heap.size ≤ a.block) : ApI w w4 g gr base A4 c4 all4 := by
  have lg := lt_of_block h.b
  have lr := lt_of_block h.r
  have s1 := h.kp.size
  have hn : ∀ q, (∀ a, A = some a → a.block ≠ q) → q ∉ blk A := fun q h1 hm => by
    obtain ⟨b, e1, e2⟩ := mem_blk.1 hm
    exact h1 b e1 e2
  refine ⟨(hk.block g lg (hn g fun a ha => (h.ap a ha).2.1)).trans h.b, (hk.block gr lr (hn gr fun a ha => (h.ap a ha).2.2)).trans h.r, ho, h.kp.fresh hk (fun a ha => (h.ap a ha).1), fun a ha => ?_, h.g0⟩
  rcases hf a ha with h1 | h1
  · obtain ⟨b, e1, e2⟩ := mem_blk.1 h1
    rw [← e2]; exact h.ap b e1
  · exact ⟨by omega, by omega, by omega⟩
theorem applyF_step (base : List UInt8) (ps : List Pa) (all : List UInt8) {i : Nat} (hi : i < ps.length) : applyF base (ps.drop i) all = match partB base ps[i] with
    | .error e => .error e
    | .ok b => if 64 < all.length + b.length then .error 2 else applyF base (ps.drop (i + 1)) (all ++ b) := by
  rw [List.drop_eq_getElem_cons hi]
  rfl
end Go.Proofs.YtljinghhalcnnaaDoor
namespace Go.Proofs.YtljinghhalcnnaaDoor
open Go.RowKit

theorem results_cell_tmp {P : Program} {fn : Func} {p q : Tmp} {ty : TypeId} (h : fn.results = #[.cell p ty, .tmp q]) (tmps : Array Value) (w : World) (g : Nat) (t : TypeId) (cs : Array Value) (fr : Nat × Nat) (d : TypeDesc) (v : Value)
    (hp : tmps.getD p undef = .pointer (some ⟨g, 0, none⟩)) (hq : tmps.getD q undef = v) (hg : w.heap[g]? = some (.cells cs t fr))
    (hu : P.underlying ty = some d) (hd : (match d with | .struct _ | .array _ _ => true | _ => false) = true) (hi : (P.info? ty).map (·.size) = some cs.size) :
    (results fn tmps).run P w = .ok (.tuple #[.agg cs, v]) w := by
  have hp' : tmps[p]?.getD undef = .pointer (some ⟨g, 0, none⟩) := by simpa using hp
  have hq' : tmps[q]?.getD undef = v := by simpa using hq
  simp [results, h, hp', hq', asAddr, run_loadVar_row w g t ty cs fr d hg hu hd hi]
theorem hsz64 (l : List UInt8) (h : l.length = 64) : (Tryd.prog.info? 23).map (·.size) = some (encB l).length := by rw [length_encB, h]; exact infoBlk
theorem hsz64' (l : List UInt8) (h : l.length = 64) : (Tryd.prog.info? 23).map (·.size) = some (encB l).toArray.size := by rw [List.size_toArray]; exact hsz64 l h
set_option maxRecDepth 100000 in
set_option maxHeartbeats 16000000 in
theorem apply_any (base : List UInt8) (hb : base.length = 64) (A : Option Addr) (c : Nat) (ts : List Pt) (w : World) (hr : Rd w A ts.length 4 (encPt ts)) (hbs : ∀ t ∈ ts, RdB w t.A t.p.b ∧ (-9223372036854775808 ≤ t.p.fr ∧ t.p.fr ≤ 9223372036854775807) ∧ (-9223372036854775808 ≤ t.p.ln ∧ t.p.ln ≤ 9223372036854775807)) (hl : ts.length ≤ 1000) :
    Calls Tryd.prog 9 #[.agg (encB base).toArray, .slice A ts.length c] w (ApP base (ts.map Pt.p) w) := by
  have HR := Lib.hid (And.intro hr hbs)
  have HB := Lib.hid hb
  obtain ⟨ps, hps⟩ : ∃ ps, ps = ts.map Pt.p := ⟨_, rfl⟩
  obtain ⟨n, hn⟩ : ∃ n, n = ts.length := ⟨_, rfl⟩
  have HN := Lib.hid (show n = ts.length ∧ ps = ts.map Pt.p ∧ ps.length = n from ⟨hn, hps, by rw [hps, List.length_map, hn]⟩)
  have HZ := Lib.hid zero64k
  obtain ⟨bs, hbs2⟩ : ∃ bs, bs = (encB base).toArray := ⟨_, rfl⟩
  obtain ⟨g, hg⟩ : ∃ g, g = w.heap.size := ⟨_, rfl⟩
  obtain ⟨gr, hgr⟩ : ∃ gr, gr = w.heap.size + 1 := ⟨_, rfl⟩
  obtain ⟨W, hW⟩ : ∃ W, W = (w.alloc (.cells bs 23)).alloc (.cells (encB z64).toArray 23) := ⟨_, rfl⟩
  have HI := Lib.hid (show ApI w W g gr base none 0 [] from
    ⟨by rw [hW, hg, hbs2]; exact heap_alloc2_old _ _ _, by rw [hW, hgr]; exact heap_alloc2_new _ _ _, OwnB.nil _ _, by rw [hW]; exact ((Keeps.refl [] w).alloc _).alloc _, by simp, by omega⟩)
  have HW := Lib.hid (show W = (w.alloc (.cells bs 23)).alloc (.cells (encB z64).toArray 23) ∧ gr = w.heap.size + 1 ∧ g = w.heap.size from ⟨hW, hgr, hg⟩)
  rw [← hps, ← hn, ← hbs2]
  rw [← hn] at hl
  clear hr hbs hb hps hn hbs2 hg hgr hW
  go_enter Tryd.func9, Tryd.ntmps9
  go_upto_region 1 with fail
  rw [HZ.out]
  rw [← HW.out.1, ← HW.out.2.1, ← HW.out.2.2]
  go_wp2_with fail
  go_loopw [6, 13] (fun s6 s13 wr => ∃ (i : Nat) (A' : Option Addr) (c' : Nat) (all : List UInt8), s13 = .int .i64 i ∧ s6 = .slice A' all.length c' ∧ Hid (i ≤ n ∧ applyF base (ps.drop i) all = applyE base ps ∧ all.length ≤ 64 ∧ ApI w wr g gr base A' c' all)) (fun _ s13 _ => n - (intOf s13).toNat)
  case atStart => exact ⟨0, none, 0, [], rfl, rfl, ⟨Nat.zero_le _, rfl, by simp, HI.out⟩⟩
  case round =>
    clear HI
    obtain ⟨i, A', c', all, rfl, rfl, D⟩ := hrel
    obtain ⟨al, hal⟩ : ∃ al, al = all.length := ⟨_, rfl⟩
    have HAL := Lib.hid hal
    have hal64 : al ≤ 64 := by have := D.out; omega
    rw [← hal]
    clear hal
    by_cases hin : i < n
    · have hini : (i : Int) < (n : Int) := by omega
      have HIL := Lib.hid (show i < ts.length ∧ i < ps.length ∧ i < n from by have := HN.out; omega)
      obtain ⟨ga, oa, rfl, k0, k1, k2, k3⟩ := pt_cells (HR.out.1.keeps0 D.out.2.2.2.kp) HIL.out.1
      obtain ⟨t, ht⟩ : ∃ t, t = ts[i]'(HIL.out.1) := ⟨_, rfl⟩
      rw [← ht] at k0 k1 k2 k3
      have HTT := Lib.hid (show t ∈ ts ∧ ps[i]'(HIL.out.2.1) = t.p from ⟨by rw [ht]; exact List.getElem_mem _, by rw [ht]; simp [HN.out.2.1]⟩)
      have HST := Lib.hid (show (∀ e, partB base t.p = .error e → applyE base ps = .error e) ∧ (∀ b, partB base t.p = .ok b → 64 < all.length + b.length → applyE base ps = .error 2) ∧ (∀ b, partB base t.p = .ok b → ¬ 64 < all.length + b.length → applyF base (ps.drop (i + 1)) (all ++ b) = applyE base ps) from by
        have h0 := applyF_step base ps all HIL.out.2.1
        rw [D.out.2.1, HTT.out.2] at h0
        exact ⟨fun e he => by rw [h0, he], fun b hb hlt => by rw [h0, hb]; exact if_pos hlt, fun b hb hlt => by rw [h0, hb]; exact (if_neg hlt).symm⟩)
      obtain ⟨gx, hgx⟩ : ∃ gx, gx = wr.heap.size := ⟨_, rfl⟩
      obtain ⟨w4, hw4⟩ : ∃ w4, w4 = wr.alloc (.cells #[.bool t.p.cp, .int .i64 t.p.fr, .int .i64 t.p.ln, .slice t.A t.p.b.length t.c] 50) := ⟨_, rfl⟩
      have HX := Lib.hid (show Keeps [] wr w4 ∧ w4.heap[gx]? = some (.cells #[.bool t.p.cp, .int .i64 t.p.fr, .int .i64 t.p.ln, .slice t.A t.p.b.length t.c] 50 (0, 0)) from ⟨by rw [hw4]; exact (Keeps.refl [] wr).alloc _, by rw [hw4, hgx]; exact heap_alloc_new _ _⟩)
      have HW2 := Lib.hid (And.intro hw4 hgx)
      have D4 := Lib.hid (D.out.2.2.2.keeps0 HX.out.1)
      clear hw4 hgx ht hin
      go_upto_region 5 with fail
      rw [← HW2.out.1, ← HW2.out.2]
      clear k0 k1 k2 k3
      have k0 : w4.cell? ⟨gx, 0, none⟩ = some (.bool t.p.cp) := by rw [cell_of_row _ _ _ _ _ _ HX.out.2]; rfl
      have k1 : w4.cell? ⟨gx, 1, none⟩ = some (.int .i64 t.p.fr) := by rw [cell_of_row _ _ _ _ _ _ HX.out.2]; rfl
      have k2 : w4.cell? ⟨gx, 2, none⟩ = some (.int .i64 t.p.ln) := by rw [cell_of_row _ _ _ _ _ _ HX.out.2]; rfl
      have k3 : w4.cell? ⟨gx, 3, none⟩ = some (.slice t.A t.p.b.length t.c) := by rw [cell_of_row _ _ _ _ _ _ HX.out.2]; rfl
      have HC := Lib.hid (And.intro (And.intro k0 k1) (And.intro k2 k3))
      have qa : ∀ z : World, Keeps [] w4 z → z.cell? ⟨gx, 0, none⟩ = some (.bool t.p.cp) := fun z hz => hz.cell HC.out.1.1 (by simp)
      have qb : ∀ z : World, Keeps [] w4 z → z.cell? ⟨gx, 1, none⟩ = some (.int .i64 t.p.fr) := fun z hz => hz.cell HC.out.1.2 (by simp)
      have qc : ∀ z : World, Keeps [] w4 z → z.cell? ⟨gx, 2, none⟩ = some (.int .i64 t.p.ln) := fun z hz => hz.cell HC.out.2.1 (by simp)
      have qd : ∀ z : World, Keeps [] w4 z → z.cell? ⟨gx, 3, none⟩ = some (.slice t.A t.p.b.length t.c) := fun z hz => hz.cell HC.out.2.2 (by simp)
      clear k0 k1 k2 k3
      refine seq_start (by kernel_rfl) (fun z => Keeps [] w4 z) 8 [0, 1, 2, 3, 4, 5, 6, 7] rfl ((Keeps.refl [] w4).drew) (fun hS => ?_)
      have DV := Lib.hid (show ApI w w4.drew g gr base A' c' all ∧ Keeps [] w4 w4.drew from ⟨D4.out.keeps0 (Keeps.refl [] w4).drew, (Keeps.refl [] w4).drew⟩)
      generalize w4.drew = V at DV hS ⊢
      refine seq_take (v := ?_) rfl (by kernel_rfl) (by kernel_rfl) (by kernel_rfl) (Or.inl ⟨by rfl, fun w' hSw => ?_⟩) (by assumption) ?_
      rotate_left
      · go_simp
        with_reducible rfl
      simp only [Act.put, List.setIfInBounds_toArray, List.set_cons_zero, List.set_cons_succ]
      refine seq_take (v := .slice (some ⟨g, 0, none⟩) 64 64) rfl (by kernel_rfl) (by kernel_rfl) (by kernel_rfl) ?_ (by assumption) ?_
      · exact yieldsIf_secArr (by rfl) 23 (.tmp 2) none (by rfl) Tryd.underlying23 infoB1d ⟨g, 0, none⟩ 0 (by rfl) Bnd.no (by omega) _ (by rw [secA_zero])
      simp only [Act.put, List.setIfInBounds_toArray, List.set_cons_zero, List.set_cons_succ]
      refine seq_do rfl (by kernel_rfl) (by rfl) (fun K hK => ?_)
      go_simp
      have HTB := HR.out.2 t HTT.out.1
      refine (obytes_any t (some ⟨g, 0, none⟩) base HB.out V (rdb_row DV.out.1.b) (HTB.1.keeps0 DV.out.1.kp) HTB.2.1 HTB.2.2).mono ?_
      rintro r w5 ⟨hk5, ⟨e, he, hne, rfl⟩ | ⟨l, A5, c5, hl5, rfl, hr5⟩⟩
      · have D5 := Lib.hid (show ApI w w5 g gr base A' c' all ∧ applyE base ps = .error e ∧ e ≠ 0 from ⟨DV.out.1.keeps0 hk5, HST.out.1 e he, hne⟩)
        have hk45 : Keeps [] w4 w5 := DV.out.2.trans hk5 (by simp)
        refine hK.out (fun z => Keeps [] w4 z) _ _ (fun _ h => h) hk45 (fun hS => ?_)
        have her : errV e = .iface 58 (.int .i64 e) := errV_other hne
        rw [her]
        refine seq_take (v := ?_) rfl (by kernel_rfl) (by kernel_rfl) (by kernel_rfl) (Or.inl ⟨by rfl, fun w' hSw => ?_⟩) (by assumption) ?_
        rotate_left
        · go_simp
          with_reducible rfl
        simp only [Act.put, List.setIfInBounds_toArray, List.set_cons_zero, List.set_cons_succ]
        refine seq_take (v := ?_) rfl (by kernel_rfl) (by kernel_rfl) (by kernel_rfl) (Or.inl ⟨by rfl, fun w' hSw => ?_⟩) (by assumption) ?_
        rotate_left
        · go_simp
          with_reducible rfl
        simp only [Act.put, List.setIfInBounds_toArray, List.set_cons_zero, List.set_cons_succ]
        refine seq_take (v := ?_) rfl (by kernel_rfl) (by kernel_rfl) (by kernel_rfl) (Or.inl ⟨by rfl, fun w' hSw => ?_⟩) (by assumption) ?_
        rotate_left
        · go_simp
          with_reducible rfl
        simp only [Act.put, List.setIfInBounds_toArray, List.set_cons_zero, List.set_cons_succ]
        refine seq_take (v := ?_) rfl (by kernel_rfl) (by kernel_rfl) (by kernel_rfl) (Or.inl ⟨by rfl, fun w' hSw => ?_⟩) (by assumption) ?_
        rotate_left
        · go_simp
          with_reducible rfl
        simp only [Act.put, List.setIfInBounds_toArray, List.set_cons_zero, List.set_cons_succ]
        refine seq_take (v := ?_) rfl (by kernel_rfl) (by kernel_rfl) (by kernel_rfl) (Or.inl ⟨by rfl, fun w' hSw => ?_⟩) (by assumption) ?_
        rotate_left
        · go_simp
          with_reducible rfl
        simp only [Act.put, List.setIfInBounds_toArray, List.set_cons_zero, List.set_cons_succ]
        refine seq_done (by kernel_rfl) ?_
        all_goals skip
        clear hS qa qb qc qd hK hk5 hk45 her he hne DV HC
        go_wp2_with (refine wpList_store_rowK rfl 23 (.tmp 4) (.tmp 25) rfl gr (encB z64) (encB z64) 23 rfl (by first | rfl | exact congrArg Value.agg HZ.out) D5.out.1.r (by rfl) (hsz64 z64 z64_len) (encB_one _) ?_; intro w8 h8 hk8)
        have h8' : w8.heap[gr]? = _ := h8.out
        try simp only [Exit.inBlock, Exit.then]
        refine bodyPost_ret (v := .tuple #[.agg (encB z64).toArray, .iface 58 (.int .i64 e)]) (results_cell_tmp Tryd.results9 _ _ gr 23 _ (0, 0) _ _ rfl rfl h8' Tryd.underlying23 rfl (hsz64' z64 z64_len)) rfl ?_
        exact ⟨D5.out.1.kp.trans hk8 (fun t ht => .inr (by simp at ht; rw [ht]; exact D5.out.1.g0.2.1)), .inl ⟨e, D5.out.2.1, D5.out.2.2, by rw [errV_other D5.out.2.2]⟩⟩
      · have hk45 : Keeps [] w4 w5 := DV.out.2.trans hk5 (by simp)
        have D5 := Lib.hid (show ApI w w5 g gr base A' c' all ∧ RdB w5 A5 l ∧ (64 < all.length + l.length → applyE base ps = .error 2) ∧ (¬ 64 < all.length + l.length → applyF base (ps.drop (i + 1)) (all ++ l) = applyE base ps) from ⟨DV.out.1.keeps0 hk5, hr5, HST.out.2.1 l hl5, HST.out.2.2 l hl5⟩)
        refine hK.out (fun z => Keeps [] w4 z) _ _ (fun _ h => h) hk45 (fun hS => ?_)
        refine seq_take (v := ?_) rfl (by kernel_rfl) (by kernel_rfl) (by kernel_rfl) (Or.inl ⟨by rfl, fun w' hSw => ?_⟩) (by assumption) ?_
        rotate_left
        · go_simp
          with_reducible rfl
        simp only [Act.put, List.setIfInBounds_toArray, List.set_cons_zero, List.set_cons_succ]
        refine seq_take (v := ?_) rfl (by kernel_rfl) (by kernel_rfl) (by kernel_rfl) (Or.inl ⟨by rfl, fun w' hSw => ?_⟩) (by assumption) ?_
        rotate_left
        · go_simp
          with_reducible rfl
        simp only [Act.put, List.setIfInBounds_toArray, List.set_cons_zero, List.set_cons_succ]
        refine seq_take (v := ?_) rfl (by kernel_rfl) (by kernel_rfl) (by kernel_rfl) (Or.inl ⟨by rfl, fun w' hSw => ?_⟩) (by assumption) ?_
        rotate_left
        · go_simp
          with_reducible rfl
        simp only [Act.put, List.setIfInBounds_toArray, List.set_cons_zero, List.set_cons_succ]
        refine seq_take (v := ?_) rfl (by kernel_rfl) (by kernel_rfl) (by kernel_rfl) (Or.inl ⟨by rfl, fun w' hSw => ?_⟩) (by assumption) ?_
        rotate_left
        · go_simp
          with_reducible rfl
        simp only [Act.put, List.setIfInBounds_toArray, List.set_cons_zero, List.set_cons_succ]
        refine seq_take (v := ?_) rfl (by kernel_rfl) (by kernel_rfl) (by kernel_rfl) (Or.inl ⟨by rfl, fun w' hSw => ?_⟩) (by assumption) ?_
        rotate_left
        · go_simp
          with_reducible rfl
        simp only [Act.put, List.setIfInBounds_toArray, List.set_cons_zero, List.set_cons_succ]
        refine seq_done (by kernel_rfl) ?_
        all_goals skip
        clear hS qa qb qc qd hK hk5 hk45 hl5 hr5 DV HC
        obtain ⟨m, hm⟩ : ∃ m, m = l.length := ⟨_, rfl⟩
        have HM := Lib.hid hm
        rw [← hm]
        clear hm
        have h64w : wrap64 (64 - (al : Int)) = 64 - (al : Int) := by unfold wrap64; omega
        by_cases hlt : 64 < al + m
        · have hlti : 64 - (al : Int) < (m : Int) := by omega
          have HE := Lib.hid (D5.out.2.2.1 (by rw [← HAL.out, ← HM.out]; exact hlt))
          clear hlt
          go_wp2_with (refine wpList_store_rowK rfl 23 (.tmp 4) (.tmp 33) rfl gr (encB z64) (encB z64) 23 rfl (by first | rfl | exact congrArg Value.agg HZ.out) D5.out.1.r (by rfl) (hsz64 z64 z64_len) (encB_one _) ?_; intro w8 h8 hk8)
          have h8' : w8.heap[gr]? = _ := h8.out
          try simp only [Exit.inBlock, Exit.then]
          refine bodyPost_ret (v := .tuple #[.agg (encB z64).toArray, .iface 58 (.int .i64 2)]) (results_cell_tmp Tryd.results9 _ _ gr 23 _ (0, 0) _ _ rfl rfl h8' Tryd.underlying23 rfl (hsz64' z64 z64_len)) rfl ?_
          exact ⟨D5.out.1.kp.trans hk8 (fun t ht => .inr (by simp at ht; rw [ht]; exact D5.out.1.g0.2.1)), .inl ⟨2, HE.out, by omega, rfl⟩⟩
        · have hlti : ¬ 64 - (al : Int) < (m : Int) := by omega
          have HE := Lib.hid (D5.out.2.2.2 (by rw [← HAL.out, ← HM.out]; exact hlt))
          have HAM := Lib.hid (show al + m ≤ 64 from by omega)
          clear hlt
          go_wp2_with (at_builtin; refine wpList_appendB rfl (.tmp 35) (.tmp 36) 25 5 rfl Tryd.underlying25 infoB A' c' all (by rw [← HAL.out]; rfl) D5.out.1.own A5 c5 l (by rw [← HM.out]; rfl) D5.out.2.1 (by have := HAM.out; have := HAL.out; have := HM.out; omega) ?_; intro A6 c6 w6 l6 hl6 ho6 hk6 hf6; have D6 := Lib.hid (show i + 1 ≤ n ∧ applyF base (ps.drop (i + 1)) l6 = applyE base ps ∧ l6.length ≤ 64 ∧ ApI w w6 g gr base A6 c6 l6 from ⟨HIL.out.2.2, by rw [hl6.out]; exact HE.out, (by rw [hl6.out, List.length_append, ← HAL.out, ← HM.out]; exact HAM.out), D5.out.1.add ho6 hk6 hf6⟩); clear hl6 ho6 hk6 hf6)
          go_roundw
          case rel => exact ⟨i + 1, A6, c6, l6, by go_num, rfl, D6⟩
          case measure => have := HIL.out; simp [intOf]; omega
    · have hini : ¬ (i : Int) < (n : Int) := by omega
      have HE := Lib.hid (show applyE base ps = (if all.length = 64 then .ok all else .error 2) from by
        rw [← D.out.2.1, List.drop_of_length_le (by have := HN.out; omega)]
        rfl)
      clear hin
      by_cases h64 : al = 64
      · subst h64
        have HA := Lib.hid (show all.length = 64 from HAL.out.symm)
        obtain ⟨g2, hg2⟩ : ∃ g2, A' = some ⟨g2, 0, none⟩ := by
          rcases D.out.2.2.2.own.2 with ⟨_, h0⟩ | ⟨g2, cap, cur, hv, _⟩
          · have := HA.out; omega
          · injection hv with e1 _ _
            exact ⟨g2, e1⟩
        subst hg2
        have hat := fun w' => run_arrayAt (P := Tryd.prog) w' Tryd.underlying23 ⟨g2, 0, none⟩ 64 c' (by omega)
        have HRG := Lib.hid (show wr.rangeAt g2 0 (encB all) from fun j v hv => by
          have hj : j < (encB all).length := (List.getElem?_eq_some_iff.1 hv).1
          rw [length_encB] at hj
          rw [Nat.zero_add, World.ownsRow.cellAt D.out.2.2.2.own j (by omega)]
          exact hv)
        have HOK := Lib.hid (show applyE base ps = .ok all from by rw [HE.out, if_pos HA.out])
        have HII := Lib.hid (show (Tryd.prog.info? 23).map (·.size) = some (encB all).length from hsz64 all HA.out)
        go_wp2_with (first
          | (refine wpList_load_mid rfl 23 (.tmp 45) rfl g2 0 rfl (encB all) _ HRG.out Tryd.underlying23 rfl HII.out ?_)
          | (refine wpList_store_rowK rfl 23 (.tmp 4) (.tmp 46) rfl gr (encB all) (encB z64) 23 rfl rfl D.out.2.2.2.r (by rw [length_encB, length_encB, HA.out]; rfl) HII.out (encB_one _) ?_; intro w8 h8 hk8))
        have h8' : w8.heap[gr]? = _ := h8.out
        try simp only [Exit.inBlock, Exit.then]
        refine bodyPost_ret (v := .tuple #[.agg (encB all).toArray, .nilIface]) (results_cell_tmp Tryd.results9 _ _ gr 23 _ (0, 0) _ _ rfl rfl h8' Tryd.underlying23 rfl (hsz64' all HA.out)) rfl ?_
        exact ⟨D.out.2.2.2.kp.trans hk8 (fun t ht => .inr (by simp at ht; rw [ht]; exact D.out.2.2.2.g0.2.1)), .inr ⟨all, HOK.out, HA.out, rfl⟩⟩
      · have h64i : ¬ (al : Int) = 64 := by omega
        have h64b : ((al : Int) == 64) = false := beq_eq_false_iff_ne.2 h64i
        have HE2 := Lib.hid (show applyE base ps = .error 2 from by rw [HE.out, if_neg (by rw [← HAL.out]; exact h64)])
        go_wp2_with (refine wpList_store_rowK rfl 23 (.tmp 4) (.tmp 42) rfl gr (encB z64) (encB z64) 23 rfl (by first | rfl | exact congrArg Value.agg HZ.out) D.out.2.2.2.r (by rfl) (hsz64 z64 z64_len) (encB_one _) ?_; intro w8 h8 hk8)
        have h8' : w8.heap[gr]? = _ := h8.out
        try simp only [Exit.inBlock, Exit.then]
        refine bodyPost_ret (v := .tuple #[.agg (encB z64).toArray, .iface 58 (.int .i64 2)]) (results_cell_tmp Tryd.results9 _ _ gr 23 _ (0, 0) _ _ rfl rfl h8' Tryd.underlying23 rfl (hsz64' z64 z64_len)) rfl ?_
        exact ⟨D.out.2.2.2.kp.trans hk8 (fun t ht => .inr (by simp at ht; rw [ht]; exact D.out.2.2.2.g0.2.1)), .inl ⟨2, HE2.out, by omega, rfl⟩⟩
end Go.Proofs.YtljinghhalcnnaaDoor
