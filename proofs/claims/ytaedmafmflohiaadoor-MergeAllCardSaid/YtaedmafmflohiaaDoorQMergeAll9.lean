/- A reader made: the walk. -/
import Derived.Test.YtaedmafmflohiaaDoorQMergeAll8
import Derived.RegionTactic
namespace Go.Proofs.YtaedmafmflohiaaDoor
open Go.RowKit

theorem init0_any (gR c : Nat) (w : World) (hc : w.cell? ⟨gR, 0, none⟩ = some (.slice none 0 c)) :
    Calls Tryd.prog 17 #[.iface 53 (.pointer (some ⟨gR, 0, none⟩))] w fun r w' => r = .returned (.tuple #[]) ∧ w' = w := by
  have M1 := m_len gR _ _ _ w hc
  go_enter Tryd.func17, Tryd.ntmps17
  go_wp2_with fail
  clear M1 hc
  refine (olen_any _ _ _ w).mono ?_
  rintro r w1 ⟨rfl, rfl⟩
  go_wp2_with fail
  go_loop [3] (fun si => si = .int .i64 (-1)) (fun si => 0)
  case atStart => rfl
  case round =>
    obtain rfl := hrel
    go_wp2_with fail
    go_end0
    exact ⟨rfl, rfl⟩
theorem srt_adj {l : List En} (h : ∀ t (h : t < l.length), 1 ≤ t → Op.bytesLess (l[t - 1]'(by omega)).k l[t].k = true) : Srt l := by
  unfold Srt
  rw [List.pairwise_iff_getElem]
  intro i j hi hj hij
  induction j with
  | zero => omega
  | succ j ih =>
    have h1 := h (j + 1) hj (by omega)
    simp only [Nat.add_sub_cancel] at h1
    rcases Nat.lt_or_ge i j with h2 | h2
    · exact bl_trans (ih (by omega) h2) h1
    · obtain rfl : i = j := by omega
      exact h1
/-- A new reader over rows, or the error. -/
def NewP (Ls : List (List En)) (w : World) (r : Ending) (w' : World) : Prop :=
  Keeps [] w w' ∧ (((∀ es ∈ Ls, Srt es) ∧ ∃ gR g, r = .returned (.tuple #[.pointer (some ⟨gR, 0, none⟩), .nilIface]) ∧ w.heap.size ≤ gR ∧ w.heap.size ≤ g ∧ gR < w'.heap.size ∧ g < w'.heap.size ∧ ∀ M, IsM Ls M → RM Ls M gR g w'.heap.size w' 0) ∨
    ((¬ ∀ es ∈ Ls, Srt es) ∧ r = .returned (.tuple #[.pointer none, .iface 49 (.int .i64 41)])))
theorem NewI.mi {w wr : World} {gR : Nat} {A : Option Addr} {c : Nat} {H : List Od} {Ls : List (List En)} {i : Nat} (h : NewI w wr gR A c H Ls i) (hi : Ls.length ≤ i) {H' : List Od} (hp : H'.Perm H) (M : List En) : MI Ls M H' false [] 0 :=
  MI.perm ⟨fun o ho => ⟨[], h.row o ho⟩, fun r es x h1 h2 _ => by
    obtain ⟨o, ho, h3, h4⟩ := h.cov r es (by have := (List.getElem?_eq_some_iff.1 h1).1; omega) h1 (by intro h5; rw [h5] at h2; cases h2)
    exact ⟨o, ho, h3, by rw [h4]; exact h2⟩, fun hb => by simp at hb, by simp⟩ hp
set_option maxRecDepth 100000 in
set_option maxHeartbeats 8000000 in
theorem new_any (A : Option Addr) (c : Nat) (rs : List Ro) (w : World) (h : RdL w A rs) (hl : rs.length ≤ 1000) :
    Calls Tryd.prog 10 #[.slice A rs.length c] w (NewP (rs.map Ro.es) w) := by
  have HR := Lib.hid h
  have HL := Lib.hid hl
  obtain ⟨n, hn⟩ : ∃ n, n = rs.length := ⟨_, rfl⟩
  have HN := Lib.hid hn
  obtain ⟨gR, hgR⟩ : ∃ gR, gR = w.heap.size := ⟨_, rfl⟩
  obtain ⟨W0, hW0⟩ : ∃ W0, W0 = w.alloc (.cells #[.slice none 0 0, .bool false, .string ⟨#[]⟩] 48) := ⟨_, rfl⟩
  have HI := Lib.hid (show NewI w W0 gR none 0 [] (rs.map Ro.es) 0 from
    ⟨by rw [hW0, hgR]; exact heap_alloc_new _ _, World.ownsRow_nil _ _ _ _, ⟨by omega, by simp⟩, by simp, by simp, by simp, fun r es h => by omega, fun r es h => by omega, by simp, by rw [hW0]; exact (Keeps.refl [] w).alloc _⟩)
  have HW0 := Lib.hid (And.intro hW0 hgR)
  have hn1 : n ≤ 1000 := by omega
  rw [← hn]
  clear h hl hn hW0 hgR
  go_enter Tryd.func10, Tryd.ntmps10
  go_upto_region 2 with fail
  rw [← HW0.out.1, ← HW0.out.2]
  go_wp2_with fail
  go_loopw [12] (fun si wr => ∃ (i : Nat) (A : Option Addr) (c : Nat) (H : List Od), si = .int .i64 i ∧ i ≤ n ∧ Hid (NewI w wr gR A c H (rs.map Ro.es) i)) (fun si _ => n - (intOf si).toNat)
  case atStart => exact ⟨0, none, 0, [], rfl, Nat.zero_le _, HI⟩
  case round =>
    obtain ⟨i, A1, c1, H, rfl, hi, D⟩ := hrel
    by_cases hin : i < n
    · have hini : (i : Int) < (n : Int) := by omega
      have HIL := Lib.hid (show i < rs.length from by have := HN.out; omega)
      obtain ⟨gl, ol, rfl, x0⟩ := (HR.out.keeps0 D.out.kp).at_ HIL.out
      obtain ⟨ro, hro⟩ : ∃ ro, ro = rs[i]'(HIL.out) := ⟨_, rfl⟩
      rw [← hro] at x0
      obtain ⟨es, hes⟩ : ∃ es, es = ro.es := ⟨_, rfl⟩
      obtain ⟨B, hB⟩ : ∃ B, B = ro.A := ⟨_, rfl⟩
      obtain ⟨b, hb⟩ : ∃ b, b = ro.c := ⟨_, rfl⟩
      obtain ⟨m, hm⟩ : ∃ m, m = es.length := ⟨_, rfl⟩
      rw [← hes, ← hB, ← hb, ← hm] at x0
      have HE := Lib.hid (show (rs.map Ro.es)[i]? = some es ∧ (∀ z, Keeps [] w z → Rd z B es.length 3 (encEn es)) ∧ es.length ≤ 1000 ∧ m = es.length from by
        have h1 := HR.out.2 ro (by rw [hro]; exact List.getElem_mem _)
        refine ⟨by rw [List.getElem?_map, List.getElem?_eq_getElem HIL.out, hes, hro]; rfl, fun z hz => by rw [hes, hB]; exact h1.1.keeps0 hz, by rw [hes]; exact h1.2, hm⟩)
      have hm1 : m ≤ 1000 := by have := HE.out.2.2; omega
      clear hro hes hB hb hm hin
      go_wp2_with fail
      go_loopw [7] (fun sk wr => ∃ k : Nat, sk = .int .i64 k ∧ 1 ≤ k ∧ (k ≤ m ∨ k = 1) ∧ Hid (NewI w wr gR A1 c1 H (rs.map Ro.es) i ∧ ∀ t (h : t < es.length), 1 ≤ t → t < k → Op.bytesLess (es[t - 1]'(by omega)).k es[t].k = true)) (fun sk _ => m - (intOf sk).toNat)
      case atStart => exact ⟨1, rfl, Nat.le_refl _, .inr rfl, ⟨D.out, fun t h h1 h2 => by omega⟩⟩
      case round =>
        obtain ⟨k, rfl, hk1, hkm, D2⟩ := hrel
        by_cases hkl : k < m
        · have hkli : (k : Int) < (m : Int) := by omega
          obtain ⟨k1, hk1e⟩ : ∃ k1, k1 = k - 1 := ⟨_, rfl⟩
          have e1 : (k : Int) - 1 = (k1 : Int) := by omega
          have hk1m : (k1 : Int) < (m : Int) := by omega
          have HKL := Lib.hid (show k < es.length ∧ k - 1 < es.length ∧ k1 = k - 1 ∧ 1 ≤ k ∧ k < m from by have := HE.out.2.2.2; omega)
          have hrd := HE.out.2.1 wr D2.out.1.kp
          obtain ⟨ge, oe, rfl, a0, _, _⟩ := en_cells hrd (i := k - 1) HKL.out.2.1
          obtain ⟨ge', oe', hAe, b0, _, _⟩ := en_cells hrd (i := k) HKL.out.1
          obtain ⟨rfl, rfl⟩ : ge = ge' ∧ oe = oe' := by injection hAe with e1; injection e1 with e2 e3; exact ⟨e2, e3⟩
          obtain ⟨ka, hka⟩ : ∃ ka, ka = (es[k - 1]'(HKL.out.2.1)).k := ⟨_, rfl⟩
          obtain ⟨kb, hkb⟩ : ∃ kb, kb = (es[k]'(HKL.out.1)).k := ⟨_, rfl⟩
          rw [← hka, ← hk1e] at a0
          rw [← hkb] at b0
          have HKK := Lib.hid (show ka = (es[k - 1]'(HKL.out.2.1)).k ∧ kb = (es[k]'(HKL.out.1)).k from ⟨hka, hkb⟩)
          clear hka hkb hk1e hAe hrd hkl hkm x0
          go_upto_region 8 with fail
          cases hb : Op.bytesLess ka kb with
          | true =>
            have HB := Lib.hid hb
            have fl : Op.bytesLess (strB ka).toList (strB kb).toList = true := by rw [strB_toList, strB_toList]; exact hb
            clear hb
            go_region
            have HD := Lib.hid (show NewI w wr.drew gR A1 c1 H (rs.map Ro.es) i from D2.out.1.keeps0 (Keeps.refl [] wr).drew)
            have HS2 := Lib.hid D2.out.2
            clear D2 a0 b0
            generalize wr.drew = wr2 at HD ⊢
            clear fl
            go_wp2_with fail
            go_roundw
            case rel => exact ⟨k + 1, by go_num, by omega, .inl (by have := HKL.out; omega), ⟨HD.out, fun t ht h1 h2 => by
              by_cases e : t = k
              · subst e
                rw [← HKK.out.1, ← HKK.out.2]
                exact HB.out
              · exact HS2.out t ht h1 (by omega)⟩⟩
            case measure => have := HKL.out; simp [intOf]; omega
          | false =>
            have HB := Lib.hid hb
            have fl : Op.bytesLess (strB ka).toList (strB kb).toList = false := by rw [strB_toList, strB_toList]; exact hb
            clear hb
            go_region
            have HD := Lib.hid (show NewI w wr.drew gR A1 c1 H (rs.map Ro.es) i from D2.out.1.keeps0 (Keeps.refl [] wr).drew)
            clear D2 a0 b0
            generalize wr.drew = wr2 at HD ⊢
            clear fl
            go_wp2_with fail
            go_ret2
            refine ⟨HD.out.kp, .inr ⟨fun hall => ?_, rfl⟩⟩
            have h1 := hall es (List.mem_of_getElem? HE.out.1)
            have h2 := h1.lt HKL.out.1 (show k - 1 < k by have := HKL.out; omega)
            rw [← HKK.out.1, ← HKK.out.2, HB.out] at h2
            cases h2
        · have hkli : ¬ (k : Int) < (m : Int) := by omega
          have HSR := Lib.hid (show Srt es from srt_adj fun t ht h1 => D2.out.2 t ht h1 (by have := HE.out.2.2.2; omega))
          have D := Lib.hid D2.out.1
          clear D2 hkl hkm
          by_cases hm0 : 0 < m
          · have hm0i : (0 : Int) < (m : Int) := by omega
            have HM0 := Lib.hid (show es ≠ [] from by intro h; have := HE.out.2.2.2; rw [h] at this; simp at this; omega)
            clear hm0
            go_upto_region 11 with fail
            obtain ⟨N, hN⟩ : ∃ N, N = H.length := ⟨_, rfl⟩
            have HNN := Lib.hid hN
            clear hN
            have hN1 : N ≤ 1000 := by have := HNN.out; have := D.out.len; omega
            have HC := Lib.hid (show ∀ z, NewI w z gR A1 c1 H (rs.map Ro.es) i → z.cell? ⟨gR, 0, none⟩ = some (.slice A1 N c1) from fun z hz => by rw [cell_of_row _ _ _ _ _ _ hz.bk, HNN.out]; rfl)
            have qa : ∀ z : World, z.cell? ⟨gR, 0, none⟩ = some (.slice A1 N c1) → z.cell? ⟨gR, 0, none⟩ = some (.slice A1 N c1) := fun z hz => hz
            refine seqz_start (by kernel_rfl) (fun z => z.cell? ⟨gR, 0, none⟩ = some (.slice A1 N c1)) 13 14 [0, 1, 2, 3, 4, 5, 6, 7, 8, 9, 10, 11, 12, 13] rfl (HC.out _ (D.out.keeps0 (Keeps.refl [] wr).drew)) (fun hS => ?_)
            have D1 := Lib.hid (D.out.keeps0 (Keeps.refl [] wr).drew)
            clear D
            generalize wr.drew = w1 at D1 hS ⊢
            refine seqz_take (v := ?_) rfl (by kernel_rfl) (by kernel_rfl) (by kernel_rfl) (by kernel_rfl) (by kernel_rfl) (by decide) (Or.inl ⟨by rfl, fun w' hSw => ?_⟩) (by assumption) ?_
            rotate_left
            · go_simp
              with_reducible rfl
            simp only [Act.put, List.setIfInBounds_toArray, List.set_cons_zero, List.set_cons_succ]
            refine seqz_take (v := ?_) rfl (by kernel_rfl) (by kernel_rfl) (by kernel_rfl) (by kernel_rfl) (by kernel_rfl) (by decide) (Or.inl ⟨by rfl, fun w' hSw => ?_⟩) (by assumption) ?_
            rotate_left
            · go_simp
              with_reducible rfl
            simp only [Act.put, List.setIfInBounds_toArray, List.set_cons_zero, List.set_cons_succ]
            refine seqz_take (v := ?_) rfl (by kernel_rfl) (by kernel_rfl) (by kernel_rfl) (by kernel_rfl) (by kernel_rfl) (by decide) (Or.inl ⟨by rfl, fun w' hSw => ?_⟩) (by assumption) ?_
            rotate_left
            · go_simp
              with_reducible rfl
            simp only [Act.put, List.setIfInBounds_toArray, List.set_cons_zero, List.set_cons_succ]
            refine seqz_take (v := ?_) rfl (by kernel_rfl) (by kernel_rfl) (by kernel_rfl) (by kernel_rfl) (by kernel_rfl) (by decide) (Or.inl ⟨by rfl, fun w' hSw => ?_⟩) (by assumption) ?_
            rotate_left
            · go_simp
              with_reducible rfl
            simp only [Act.put, List.setIfInBounds_toArray, List.set_cons_zero, List.set_cons_succ]
            refine seqz_take (v := ?_) rfl (by kernel_rfl) (by kernel_rfl) (by kernel_rfl) (by kernel_rfl) (by kernel_rfl) (by decide) (Or.inl ⟨by rfl, fun w' hSw => ?_⟩) (by assumption) ?_
            rotate_left
            · go_simp
              with_reducible rfl
            simp only [Act.put, List.setIfInBounds_toArray, List.set_cons_zero, List.set_cons_succ]
            refine seqz_take (v := ?_) rfl (by kernel_rfl) (by kernel_rfl) (by kernel_rfl) (by kernel_rfl) (by kernel_rfl) (by decide) (Or.inl ⟨by rfl, fun w' hSw => ?_⟩) (by assumption) ?_
            rotate_left
            · go_simp
              with_reducible rfl
            simp only [Act.put, List.setIfInBounds_toArray, List.set_cons_zero, List.set_cons_succ]
            refine seqz_take (v := ?_) rfl (by kernel_rfl) (by kernel_rfl) (by kernel_rfl) (by kernel_rfl) (by kernel_rfl) (by decide) (Or.inl ⟨by rfl, fun w' hSw => ?_⟩) (by assumption) ?_
            rotate_left
            · go_simp
              with_reducible rfl
            simp only [Act.put, List.setIfInBounds_toArray, List.set_cons_zero, List.set_cons_succ]
            refine seqz_do rfl (by kernel_rfl) (by rfl) (fun K hK => ?_)
            go_simp
            have HCL := clone_en B b es w1 (HE.out.2.1 w1 D1.out.kp) (by have := HE.out.2.2.1; omega)
            rw [← HE.out.2.2.2] at HCL
            refine HCL.mono ?_
            clear HCL
            rintro e w2 ⟨A2, c2, rfl, h2, hk2, hf2⟩
            have H2 := Lib.hid (And.intro h2 (And.intro hk2 hf2))
            have D2 := Lib.hid (D1.out.keeps0 hk2)
            rw [← HE.out.2.2.2]
            clear h2 hk2 hf2
            refine hK.out (fun z => z.cell? ⟨gR, 0, none⟩ = some (.slice A1 N c1)) _ _ (fun _ h => h) (HC.out _ D2.out) (fun hS => ?_)
            refine seqz_take (v := ?_) rfl (by kernel_rfl) (by kernel_rfl) (by kernel_rfl) (by kernel_rfl) (by kernel_rfl) (by decide) (Or.inl ⟨by rfl, fun w' hSw => ?_⟩) (by assumption) ?_
            rotate_left
            · go_simp
              with_reducible rfl
            simp only [Act.put, List.setIfInBounds_toArray, List.set_cons_zero, List.set_cons_succ]
            refine seqz_do rfl (by kernel_rfl) (by rfl) (fun K hK => ?_)
            go_simp
            obtain ⟨g2, hg2⟩ : ∃ g2, g2 = w2.heap.size := ⟨_, rfl⟩
            obtain ⟨w3, hw3⟩ : ∃ w3, w3 = w2.alloc (.cells #[.int .i64 (i : Int), .slice A2 m c2] 51) := ⟨_, rfl⟩
            have H3 := Lib.hid (show Keeps [] w2 w3 ∧ Rd w3 (some ⟨g2, 0, none⟩) 1 2 (Od.cells ⟨i, A2, c2, es⟩) from by
              have e : w3.heap[g2]? = some (.cells #[.int .i64 (i : Int), .slice A2 m c2] 51 (0, 0)) := by rw [hw3, hg2]; exact heap_alloc_new _ _
              refine ⟨by rw [hw3]; exact (Keeps.refl [] w2).alloc _, rfl, fun _ => ⟨_, rfl, fun j u hu => ?_⟩⟩
              rw [Addr.add_lit, Nat.zero_add, cell_of_row _ _ _ _ _ _ e]
              unfold Od.cells at hu
              rw [← HE.out.2.2.2] at hu
              simpa using hu)
            have D3 := Lib.hid (D2.out.keeps0 H3.out.1)
            rw [← hg2, ← hw3]
            clear hg2 hw3
            refine hK.out (fun z => z.cell? ⟨gR, 0, none⟩ = some (.slice A1 N c1)) _ _ (fun _ h => h) (HC.out _ D3.out) (fun hS => ?_)
            refine seqz_do rfl (by kernel_rfl) (by rfl) (fun K hK => ?_)
            refine op_appendV (.tmp 43) (.tmp 48) 46 51 rfl Tryd.underlying46 _ 2 32 infoOd rfl (by decide) A1 c1 N (encOd H) rfl (by rw [HNN.out]; exact D3.out.own) (some ⟨g2, 0, none⟩) 1 1 (Od.cells ⟨i, A2, c2, es⟩) rfl H3.out.2 (by intro u hu; simp [Od.cells] at hu; rcases hu with rfl | rfl <;> rfl) (by unfold maxLen; omega) (by omega) ?_
            intro A4 c4 w4 ho4 hk4 hf4
            have H4 := Lib.hid (And.intro ho4 (And.intro hk4 hf4))
            have HB4 := Lib.hid (show w4.heap[gR]? = some (.cells #[.slice A1 H.length c1, .bool false, .string (strB [])] 48 (0, 0)) from (hk4.block gR (lt_of_block D3.out.bk) (fun hm => by
              obtain ⟨a, e1, e2⟩ := mem_blk.1 hm
              exact (D3.out.fr.2 a e1).2 e2)).trans D3.out.bk)
            clear ho4 hk4 hf4
            have c0 : w4.cell? ⟨gR, 0, none⟩ = some (.slice A1 N c1) := by rw [cell_of_row _ _ _ _ _ _ HB4.out, HNN.out]; rfl
            refine hK.out (fun z => z.cell? ⟨gR, 0, none⟩ = some (.slice A1 N c1)) _ _ (fun _ h => h) c0 (fun hS => ?_)
            refine seqz_take (v := ?_) rfl (by kernel_rfl) (by kernel_rfl) (by kernel_rfl) (by kernel_rfl) (by kernel_rfl) (by decide) (Or.inl ⟨by rfl, fun w' hSw => ?_⟩) (by assumption) ?_
            rotate_left
            · go_simp
              with_reducible rfl
            simp only [Act.put, List.setIfInBounds_toArray, List.set_cons_zero, List.set_cons_succ]
            refine seqz_take (v := ?_) rfl (by kernel_rfl) (by kernel_rfl) (by kernel_rfl) (by kernel_rfl) (by kernel_rfl) (by decide) (Or.inl ⟨by rfl, fun w' hSw => ?_⟩) (by assumption) ?_
            rotate_left
            · go_simp
              with_reducible rfl
            simp only [Act.put, List.setIfInBounds_toArray, List.set_cons_zero, List.set_cons_succ]
            refine seqz_last rfl (by kernel_rfl) (by rfl) (by kernel_rfl) ?_
            all_goals skip
            clear hS qa HC
            have fz : ∀ j, w4.frozen? ⟨gR, j, none⟩ = false := fun j => frozen_of_row w4 _ j _ _ HB4.out
            obtain ⟨w5, hw5⟩ : ∃ w5, w5 = w4.setCell ⟨gR, 0, none⟩ (.slice A4 (N + 1) c4) := ⟨_, rfl⟩
            have D5 := Lib.hid (show NewI w w5 gR A4 c4 (H ++ [⟨i, A2, c2, es⟩]) (rs.map Ro.es) (i + 1) from D1.out.add HE.out.1 HSR.out HM0.out HE.out.2.2.1 H2.out.1 H2.out.2.1 H2.out.2.2 H3.out.1 (by rw [← HNN.out]; exact H4.out.1) H4.out.2.1 H4.out.2.2 (by rw [← HNN.out]; exact hw5))
            have HW5 := Lib.hid hw5
            clear hw5 x0
            go_wp2_with fail
            rw [← HW5.out]
            clear fz c0
            go_wp2_with fail
            go_roundw
            case rel => exact ⟨i + 1, A4, c4, _, by go_num, by have := HIL.out; have := HN.out; omega, D5⟩
            case measure => have := HIL.out; have := HN.out; simp [intOf]; omega
          · have hm0i : ¬ (0 : Int) < (m : Int) := by omega
            have HM0 := Lib.hid (show es = [] from List.eq_nil_of_length_eq_zero (by have := HE.out.2.2.2; omega))
            have D5 := Lib.hid (D.out.skip (by rw [← HM0.out]; exact HE.out.1))
            clear hm0 D x0
            go_wp2_with fail
            go_roundw
            case rel => exact ⟨i + 1, A1, c1, _, by go_num, by have := HIL.out; have := HN.out; omega, D5⟩
            case measure => have := HIL.out; have := HN.out; simp [intOf]; omega
    · have hini : ¬ (i : Int) < (n : Int) := by omega
      have HIN := Lib.hid (show i = rs.length from by have := HN.out; omega)
      have HAS := Lib.hid (show ∀ es ∈ rs.map Ro.es, Srt es from fun es hes => by
        obtain ⟨r, hr, hre⟩ := List.mem_iff_getElem.1 hes
        exact D.out.srt r es (by have := HIN.out; simpa [this] using hr) (by rw [← hre, List.getElem?_eq_getElem]))
      clear hin
      go_wp2_with fail
      have HIL2 := Lib.hid (show (rs.map Ro.es).length ≤ i from by have := HIN.out; simp; omega)
      rcases D.out.own.2 with ⟨e, _⟩ | ⟨g, cap, cur, e, _⟩
      · injection e with e1 e2 e3
        have c0 : wr.cell? ⟨gR, 0, none⟩ = some (.slice none 0 0) := by rw [cell_of_row _ _ _ _ _ _ D.out.bk, e1, e2, e3]; rfl
        have HB := Lib.hid (show wr.heap[gR]? = some (.cells #[.slice none 0 0, .bool false, .string (strB [])] 48 (0, 0)) ∧ H = [] from ⟨by have := D.out.bk; rw [e1, e2, e3] at this; exact this, List.eq_nil_of_length_eq_zero e2⟩)
        clear e1 e2 e3
        refine (init0_any gR 0 wr c0).mono ?_
        rintro r w2 ⟨rfl, rfl⟩
        clear c0
        go_wp2_with fail
        go_ret2
        refine ⟨D.out.kp, .inl ⟨HAS.out, gR, gR, rfl, D.out.fr.1, D.out.fr.1, lt_of_block HB.out.1, lt_of_block HB.out.1, fun M hM => RM.make (.inr ⟨rfl, HB.out.1⟩) ?_ (lt_of_block HB.out.1)⟩⟩
        have := D.out.mi HIL2.out (.refl H) M
        rwa [HB.out.2] at this
      · have e1 : A1 = some ⟨g, 0, none⟩ := by injection e
        subst e1
        have hHS : HS wr gR g c1 H := ⟨by rw [cell_of_row _ _ _ _ _ _ D.out.bk]; rfl, D.out.own, fun e => (D.out.fr.2 _ rfl).2 e.symm, fun o ho => ⟨(D.out.rd o ho).1, fun a ea => ⟨((D.out.rd o ho).2 a ea).2.2 _ rfl, ((D.out.rd o ho).2 a ea).2.1⟩⟩⟩
        have hHL : H.length ≤ 1000 := by have := D.out.len; have := HIN.out; have := HL.out; omega
        refine (init_any gR g c1 H wr hHS hHL (fun o ho => (D.out.ne o ho).1)).mono ?_
        rintro r w2 ⟨H', rfl, h1, h2, h3, h4⟩
        have HW2 := Lib.hid (show Keeps [] w w2 ∧ RS w2 gR g c1 H' false [] ∧ g < w2.heap.size ∧ H'.Perm H from by
          refine ⟨D.out.kp.trans h4 (fun t ht => .inr (by have := (D.out.fr.2 _ rfl).1; simp at ht; rw [ht]; exact this)), ⟨?_, h3, by rw [h1.length_eq]; exact hHL, fun o ho => D.out.ne o (h1.mem_iff.1 ho), by rw [h1.length_eq]; exact h2⟩, ?_, h1⟩
          · rw [h1.length_eq]
            exact (h4.block gR (lt_of_block D.out.bk) (by simpa using hHS.ne)).trans D.out.bk
          · rcases h3.own.2 with ⟨e, _⟩ | ⟨g', cap', cur', e, _, hh, _⟩
            · injection e with e1; cases e1
            · injection e with e1
              injection e1 with e1
              injection e1 with e1
              rw [e1]; exact lt_of_block hh)
        clear h1 h2 h3 h4 hHS hHL
        go_wp2_with fail
        go_ret2
        exact ⟨HW2.out.1, .inl ⟨HAS.out, gR, g, rfl, D.out.fr.1, (D.out.fr.2 _ rfl).1, lt_of_block HW2.out.2.1.blk, HW2.out.2.2.1, fun M hM => RM.make (.inl ⟨c1, HW2.out.2.1⟩) (D.out.mi HIL2.out HW2.out.2.2.2 M) HW2.out.2.2.1⟩⟩
end Go.Proofs.YtaedmafmflohiaaDoor
