/- The heap's way down: a contract. The heap made and mended: contracts. The last order off: contracts. -/
import Derived.Test.YtaedmafmflohiaaDoorQMergeAll5
import Derived.RegionTactic
import Derived.WalkSmall
namespace Go.Proofs.YtaedmafmflohiaaDoor
open Go.RowKit

theorem swp_take {α : Type} {H : List α} {i j n : Nat} (hi : i < H.length) (hj : j < H.length) (hin : i < n) (hjn : j < n) : (swp H i j).take n = swp (H.take n) i j := by
  rw [swp_is hi hj, swp_is (H := H.take n) (by simp; omega) (by simp; omega), List.take_set, List.take_set]
  simp
theorem swp_drop {α : Type} {H : List α} {i j n : Nat} (hi : i < H.length) (hj : j < H.length) (hin : i < n) (hjn : j < n) : (swp H i j).drop n = H.drop n := by
  rw [swp_is hi hj, List.drop_set_of_lt hjn, List.drop_set_of_lt hin]
/-- In the midst of it. -/
structure DownI (w wr : World) (gR g c : Nat) (H Hc : List Od) (i k n : Nat) : Prop where
  hs : HS wr gR g c Hc
  le : i ≤ k ∧ n ≤ Hc.length ∧ Hc.length ≤ 1000
  pm : (Hc.take n).Perm (H.take n)
  dr : Hc.drop n = H.drop n
  he : ∀ t (h : t < Hc.length), t < n → Hc[t].es ≠ []
  ho : HoleX ltO Hc i k n
  kp : Keeps [g] w wr
theorem DownI.rd {w wr : World} {gR g c : Nat} {H Hc : List Od} {i k n t : Nat} (h : DownI w wr gR g c H Hc i k n) (ht : t < Hc.length) : Rd wr Hc[t].A Hc[t].es.length 3 (encEn Hc[t].es) := (h.hs.rd _ (List.getElem_mem ht)).1
theorem DownI.keeps0 {w wr wr' : World} {gR g c : Nat} {H Hc : List Od} {i k n : Nat} (h : DownI w wr gR g c H Hc i k n) (hk : Keeps [] wr wr') : DownI w wr' gR g c H Hc i k n := ⟨h.hs.keeps0 hk, h.le, h.pm, h.dr, h.he, h.ho, h.kp.trans hk (by simp)⟩
theorem DownI.swap {w wr wr' : World} {gR g c : Nat} {H Hc : List Od} {i k n j : Nat} (h : DownI w wr gR g c H Hc i k n) (hj : j < Hc.length) (hkl : k < Hc.length) (hjn : j < n) (hj1 : 1 ≤ j) (hjk : (j - 1) / 2 = k)
    (hmin : ∀ t (hk : t < Hc.length), t < n → 1 ≤ t → (t - 1) / 2 = k → ltO Hc[t] Hc[j] = false) (hlt : ltO Hc[j] Hc[k] = true) (ho : OwnOd wr' (some ⟨g, 0, none⟩) c (swp Hc k j)) (hk : Keeps [g] wr wr') : DownI w wr' gR g c H (swp Hc k j) i j n where
  hs := h.hs.turned hk ho (swp_perm hkl hj)
  le := ⟨by have := h.le; omega, by simpa using h.le.2⟩
  pm := by
    rw [swp_take hkl hj (by omega) hjn]
    exact (swp_perm (by simp; omega) (by simp; omega)).trans h.pm
  dr := by rw [swp_drop hkl hj (by omega) hjn]; exact h.dr
  he := fun t ht htn => by
    rw [swp_get hkl hj ht]
    split
    · exact h.he _ _ (by omega)
    · split
      · exact h.he _ _ (by omega)
      · exact h.he _ _ htn
  ho := h.ho.swap ltO_asym hkl hj hjn hj1 hjk h.le.1 hmin hlt
  kp := h.kp.trans hk (by simp)
set_option maxRecDepth 100000 in
set_option maxHeartbeats 8000000 in
theorem down_any (gR g c : Nat) (H : List Od) (i n : Nat) (w : World) (hs : HS w gR g c H) (hn : n ≤ H.length) (hl : H.length ≤ 1000) (hi : i ≤ n) (he : ∀ t (h : t < H.length), t < n → H[t].es ≠ []) (hh : HoleX ltO H i i n) :
    Calls Tryd.prog 20 #[.iface 53 (.pointer (some ⟨gR, 0, none⟩)), .int .i64 (i : Int), .int .i64 (n : Int)] w fun r w' => ∃ H' b, r = .returned (.bool b) ∧ (H'.take n).Perm (H.take n) ∧ H'.drop n = H.drop n ∧ HeapX ltO H' i n ∧ HS w' gR g c H' ∧ Keeps [g] w w' := by
  have HI := Lib.hid (show DownI w w gR g c H H i i n from ⟨hs, ⟨Nat.le_refl _, hn, hl⟩, .refl _, rfl, he, hh, Keeps.refl _ _⟩)
  have HN := Lib.hid hn
  have hn1 : n ≤ 1000 := by omega
  clear hs hl he hh hn
  go_enter Tryd.func20, Tryd.ntmps20
  go_wp2_with fail
  go_loopw [7] (fun si wr => ∃ (k : Nat) (Hc : List Od), si = .int .i64 k ∧ k ≤ n ∧ Hid (DownI w wr gR g c H Hc i k n)) (fun si _ => n - (intOf si).toNat)
  case atStart => exact ⟨i, H, rfl, hi, HI⟩
  case round =>
    obtain ⟨k, Hc, rfl, hk, D⟩ := hrel
    by_cases h1 : 2 * k + 1 < n
    · have HLC := Lib.hid D.out.le
      have H1 := Lib.hid h1
      have h1i : 2 * (k : Int) + 1 < (n : Int) := by omega
      have h1j : ¬ 2 * (k : Int) + 1 < 0 := by omega
      have h1k : ¬ (n : Int) ≤ 2 * (k : Int) + 1 := by omega
      clear h1
      by_cases h2 : 2 * k + 2 < n
      · have h2i : 2 * (k : Int) + 1 + 1 < (n : Int) := by omega
        obtain ⟨j1, hj1⟩ : ∃ j1, j1 = 2 * k + 1 := ⟨_, rfl⟩
        obtain ⟨j2, hj2⟩ : ∃ j2, j2 = 2 * k + 2 := ⟨_, rfl⟩
        have HJ12 := Lib.hid (show j1 = 2 * k + 1 ∧ j2 = 2 * k + 2 ∧ j2 < n from ⟨hj1, hj2, by omega⟩)
        have HJL2 := Lib.hid (show j1 < Hc.length ∧ j2 < Hc.length from by have := HLC.out; omega)
        have E1 := Lib.hid (show 2 * (k : Int) + 1 = (j1 : Int) from by omega)
        have E2 := Lib.hid (show (j1 : Int) + 1 = (j2 : Int) from by omega)
        clear hj1 hj2 h2
        have M1 := m_less gR _ _ _ wr D.out.hs.cell
        go_wp2_with fail
        rw [E1.out, E2.out]
        refine (less_any (some ⟨g, 0, none⟩) c Hc j2 j1 wr D.out.hs.rowR HJL2.out.2 HJL2.out.1 (D.out.he _ _ HJ12.out.2.2) (D.out.he _ _ (by have := HJ12.out; omega)) (D.out.rd HJL2.out.2) (D.out.rd HJL2.out.1)).mono ?_
        clear M1 h1i h1j h1k h2i
        rintro r w2 ⟨rfl, hk2⟩
        replace D := Lib.hid (D.out.keeps0 hk2)
        clear hk2
        cases hb : ltO (Hc[j2]'(HJL2.out.2)) (Hc[j1]'(HJL2.out.1)) with
        | true =>
          have HB := Lib.hid hb
          obtain ⟨j, rfl, HJ⟩ : ∃ j, j = j2 ∧ Hid (j < n ∧ 1 ≤ j ∧ (j - 1) / 2 = k ∧ ∀ t (hk : t < Hc.length) (hjl : j < Hc.length), t < n → 1 ≤ t → (t - 1) / 2 = k → ltO Hc[t] Hc[j] = false) := by
            have := HJ12.out
            refine ⟨j2, rfl, ⟨by omega, by omega, by omega, fun t ht _ htn ht1 htk => ?_⟩⟩
            rcases (show t = j1 ∨ t = j2 from by omega) with rfl | rfl
            · exact ltO_asym _ _ hb
            · exact ltO_irr _
          clear hb HB E1 E2
          have HJL := Lib.hid (show j < Hc.length ∧ k < Hc.length from by have := HJ.out.1; have := HLC.out; have := H1.out; omega)
          have M2 := m_less gR _ _ _ w2 D.out.hs.cell
          go_wp2_with fail
          refine (less_any (some ⟨g, 0, none⟩) c Hc j k w2 D.out.hs.rowR HJL.out.1 HJL.out.2 (D.out.he _ _ HJ.out.1) (D.out.he _ _ (by have := H1.out; omega)) (D.out.rd HJL.out.1) (D.out.rd HJL.out.2)).mono ?_
          clear M2
          rintro r w3 ⟨rfl, hk3⟩
          replace D := Lib.hid (D.out.keeps0 hk3)
          clear hk3
          cases hb2 : ltO (Hc[j]'(HJL.out.1)) (Hc[k]'(HJL.out.2)) with
          | true =>
            have HB := Lib.hid hb2
            clear hb2
            have M3 := m_swap gR _ _ _ w3 D.out.hs.cell
            go_wp2_with fail
            refine (swap_any g c Hc k j w3 D.out.hs.own HJL.out.2 HJL.out.1).mono ?_
            clear M3
            rintro r w4 ⟨rfl, ho4, hk4⟩
            replace D := Lib.hid (D.out.swap HJL.out.1 HJL.out.2 HJ.out.1 HJ.out.2.1 HJ.out.2.2.1 (fun t ht htn ht1 htk => HJ.out.2.2.2 t ht HJL.out.1 htn ht1 htk) HB.out ho4 hk4)
            clear ho4 hk4
            go_wp2_with fail
            go_roundw
            case rel => exact ⟨j, _, rfl, by have := HJ.out.1; omega, D⟩
            case measure => obtain ⟨h5, h6, h7, _⟩ := HJ.out; have := H1.out; simp [intOf]; omega
          | false =>
            have HB := Lib.hid hb2
            clear hb2
            go_wp2_with fail
            go_ret
            exact ⟨Hc, _, rfl, D.out.pm, D.out.dr, D.out.ho.done (fun t ht htn ht1 htk => by
              cases hc : ltO Hc[t] (Hc[k]'(HJL.out.2)) with
              | false => rfl
              | true =>
                exfalso
                have h5 := HJ.out.2.2.2 t ht HJL.out.1 htn ht1 htk
                have h6 := ltO_trans _ _ _ HB.out h5
                rw [hc] at h6
                cases h6), D.out.hs, D.out.kp⟩
        | false =>
          have HB := Lib.hid hb
          obtain ⟨j, rfl, HJ⟩ : ∃ j, j = j1 ∧ Hid (j < n ∧ 1 ≤ j ∧ (j - 1) / 2 = k ∧ ∀ t (hk : t < Hc.length) (hjl : j < Hc.length), t < n → 1 ≤ t → (t - 1) / 2 = k → ltO Hc[t] Hc[j] = false) := by
            have := HJ12.out
            refine ⟨j1, rfl, ⟨by omega, by omega, by omega, fun t ht _ htn ht1 htk => ?_⟩⟩
            rcases (show t = j1 ∨ t = j2 from by omega) with rfl | rfl
            · exact ltO_irr _
            · exact hb
          clear hb HB E1 E2
          have HJL := Lib.hid (show j < Hc.length ∧ k < Hc.length from by have := HJ.out.1; have := HLC.out; have := H1.out; omega)
          have M2 := m_less gR _ _ _ w2 D.out.hs.cell
          go_wp2_with fail
          refine (less_any (some ⟨g, 0, none⟩) c Hc j k w2 D.out.hs.rowR HJL.out.1 HJL.out.2 (D.out.he _ _ HJ.out.1) (D.out.he _ _ (by have := H1.out; omega)) (D.out.rd HJL.out.1) (D.out.rd HJL.out.2)).mono ?_
          clear M2
          rintro r w3 ⟨rfl, hk3⟩
          replace D := Lib.hid (D.out.keeps0 hk3)
          clear hk3
          cases hb2 : ltO (Hc[j]'(HJL.out.1)) (Hc[k]'(HJL.out.2)) with
          | true =>
            have HB := Lib.hid hb2
            clear hb2
            have M3 := m_swap gR _ _ _ w3 D.out.hs.cell
            go_wp2_with fail
            refine (swap_any g c Hc k j w3 D.out.hs.own HJL.out.2 HJL.out.1).mono ?_
            clear M3
            rintro r w4 ⟨rfl, ho4, hk4⟩
            replace D := Lib.hid (D.out.swap HJL.out.1 HJL.out.2 HJ.out.1 HJ.out.2.1 HJ.out.2.2.1 (fun t ht htn ht1 htk => HJ.out.2.2.2 t ht HJL.out.1 htn ht1 htk) HB.out ho4 hk4)
            clear ho4 hk4
            go_wp2_with fail
            go_roundw
            case rel => exact ⟨j, _, rfl, by have := HJ.out.1; omega, D⟩
            case measure => obtain ⟨h5, h6, h7, _⟩ := HJ.out; have := H1.out; simp [intOf]; omega
          | false =>
            have HB := Lib.hid hb2
            clear hb2
            go_wp2_with fail
            go_ret
            exact ⟨Hc, _, rfl, D.out.pm, D.out.dr, D.out.ho.done (fun t ht htn ht1 htk => by
              cases hc : ltO Hc[t] (Hc[k]'(HJL.out.2)) with
              | false => rfl
              | true =>
                exfalso
                have h5 := HJ.out.2.2.2 t ht HJL.out.1 htn ht1 htk
                have h6 := ltO_trans _ _ _ HB.out h5
                rw [hc] at h6
                cases h6), D.out.hs, D.out.kp⟩
      · have h2i : ¬ 2 * (k : Int) + 1 + 1 < (n : Int) := by omega
        obtain ⟨j1, hj1⟩ : ∃ j1, j1 = 2 * k + 1 := ⟨_, rfl⟩
        have E1 := Lib.hid (show 2 * (k : Int) + 1 = (j1 : Int) from by omega)
        obtain ⟨j, rfl, HJ⟩ : ∃ j, j = j1 ∧ Hid (j < n ∧ 1 ≤ j ∧ (j - 1) / 2 = k ∧ ∀ t (hk : t < Hc.length) (hjl : j < Hc.length), t < n → 1 ≤ t → (t - 1) / 2 = k → ltO Hc[t] Hc[j] = false) := by
          have := HLC.out
          refine ⟨j1, rfl, ⟨by omega, by omega, by omega, fun t ht _ htn ht1 htk => ?_⟩⟩
          obtain rfl : t = j1 := by omega
          exact ltO_irr _
        clear hj1 h2
        have HJL := Lib.hid (show j < Hc.length ∧ k < Hc.length from by have := HJ.out.1; have := HLC.out; have := H1.out; omega)
        have M2 := m_less gR _ _ _ wr D.out.hs.cell
        go_wp2_with fail
        rw [E1.out]
        clear E1 h1i h1j h1k h2i
        refine (less_any (some ⟨g, 0, none⟩) c Hc j k wr D.out.hs.rowR HJL.out.1 HJL.out.2 (D.out.he _ _ HJ.out.1) (D.out.he _ _ (by have := H1.out; omega)) (D.out.rd HJL.out.1) (D.out.rd HJL.out.2)).mono ?_
        clear M2
        rintro r w3 ⟨rfl, hk3⟩
        replace D := Lib.hid (D.out.keeps0 hk3)
        clear hk3
        cases hb2 : ltO (Hc[j]'(HJL.out.1)) (Hc[k]'(HJL.out.2)) with
        | true =>
          have HB := Lib.hid hb2
          clear hb2
          have M3 := m_swap gR _ _ _ w3 D.out.hs.cell
          go_wp2_with fail
          refine (swap_any g c Hc k j w3 D.out.hs.own HJL.out.2 HJL.out.1).mono ?_
          clear M3
          rintro r w4 ⟨rfl, ho4, hk4⟩
          replace D := Lib.hid (D.out.swap HJL.out.1 HJL.out.2 HJ.out.1 HJ.out.2.1 HJ.out.2.2.1 (fun t ht htn ht1 htk => HJ.out.2.2.2 t ht HJL.out.1 htn ht1 htk) HB.out ho4 hk4)
          clear ho4 hk4
          go_wp2_with fail
          go_roundw
          case rel => exact ⟨j, _, rfl, by have := HJ.out.1; omega, D⟩
          case measure => obtain ⟨h5, h6, h7, _⟩ := HJ.out; have := H1.out; simp [intOf]; omega
        | false =>
          have HB := Lib.hid hb2
          clear hb2
          go_wp2_with fail
          go_ret
          exact ⟨Hc, _, rfl, D.out.pm, D.out.dr, D.out.ho.done (fun t ht htn ht1 htk => by
            cases hc : ltO Hc[t] (Hc[k]'(HJL.out.2)) with
            | false => rfl
            | true =>
              exfalso
              have h5 := HJ.out.2.2.2 t ht HJL.out.1 htn ht1 htk
              have h6 := ltO_trans _ _ _ HB.out h5
              rw [hc] at h6
              cases h6), D.out.hs, D.out.kp⟩
    · have h1i : (n : Int) ≤ 2 * (k : Int) + 1 := by omega
      have H1 := Lib.hid h1
      clear h1
      go_wp2_with fail
      go_ret
      exact ⟨Hc, _, rfl, D.out.pm, D.out.dr, D.out.ho.done (fun t ht htn ht1 htk => by have := H1.out; omega), D.out.hs, D.out.kp⟩
end Go.Proofs.YtaedmafmflohiaaDoor
namespace Go.Proofs.YtaedmafmflohiaaDoor
open Go.RowKit

theorem perm_td {α : Type} {A B : List α} {n : Nat} (h : (A.take n).Perm (B.take n)) (hd : A.drop n = B.drop n) : A.Perm B := by
  rw [← List.take_append_drop n A, ← List.take_append_drop n B, hd]
  exact h.append_right _
theorem he_perm {H H' : List Od} (he : ∀ o ∈ H, o.es ≠ []) (hp : H'.Perm H) : ∀ (t : Nat) (h : t < H'.length), H'[t].es ≠ [] := fun _ h => he _ (hp.mem_iff.1 (List.getElem_mem h))
theorem up0_any (V : Value) (w : World) : Calls Tryd.prog 30 #[V, .int .i64 0] w fun r w' => r = .returned (.tuple #[]) ∧ w' = w := by
  go_enter Tryd.func30, Tryd.ntmps30
  go_wp2_with fail
  go_loop [1] (fun si => si = .int .i64 0) (fun si => 0)
  case atStart => rfl
  case round =>
    obtain rfl := hrel
    go_wp2_with fail
    go_end0
    exact ⟨rfl, rfl⟩
set_option maxRecDepth 100000 in
set_option maxHeartbeats 8000000 in
theorem fix_any (gR g c : Nat) (H : List Od) (w : World) (hs : HS w gR g c H) (hl : H.length ≤ 1000) (he : ∀ o ∈ H, o.es ≠ []) (hh : HoleX ltO H 0 0 H.length) :
    Calls Tryd.prog 26 #[.iface 53 (.pointer (some ⟨gR, 0, none⟩)), .int .i64 0] w fun r w' => ∃ H', r = .returned (.tuple #[]) ∧ H'.Perm H ∧ HeapX ltO H' 0 H.length ∧ HS w' gR g c H' ∧ Keeps [g] w w' := by
  have HI := Lib.hid (show HS w gR g c H ∧ H.length ≤ 1000 ∧ (∀ o ∈ H, o.es ≠ []) ∧ HoleX ltO H 0 0 H.length from ⟨hs, hl, he, hh⟩)
  obtain ⟨n, hn⟩ : ∃ n, n = H.length := ⟨_, rfl⟩
  have HN := Lib.hid hn
  have hc := hs.cell
  rw [← hn] at hc
  clear hs hl he hh hn
  have M1 := m_len gR _ _ _ w hc
  go_enter Tryd.func26, Tryd.ntmps26
  go_wp2_with fail
  clear M1 hc
  refine (olen_any _ _ _ w).mono ?_
  rintro r w1 ⟨rfl, rfl⟩
  go_wp2_with fail
  refine (down_any gR g c H 0 n w HI.out.1 (by rw [HN.out]; exact Nat.le_refl _) HI.out.2.1 (Nat.zero_le _) (fun t h _ => HI.out.2.2.1 _ (List.getElem_mem h)) (by rw [HN.out]; exact HI.out.2.2.2)).mono ?_
  rintro r w2 ⟨H', b, rfl, h1, h2, h3, h4, h5⟩
  have HR := Lib.hid (show H'.Perm H ∧ HeapX ltO H' 0 H.length ∧ HS w2 gR g c H' ∧ Keeps [g] w w2 from ⟨perm_td h1 h2, by rw [← HN.out]; exact h3, h4, h5⟩)
  clear h1 h2 h3 h4 h5
  cases b
  · go_wp2_with fail
    refine (up0_any _ w2).mono ?_
    rintro r w3 ⟨rfl, rfl⟩
    go_wp2_with fail
    go_end0
    exact ⟨H', rfl, HR.out⟩
  · go_wp2_with fail
    go_end0
    exact ⟨H', rfl, HR.out⟩
set_option maxRecDepth 100000 in
set_option maxHeartbeats 8000000 in
theorem init_any (gR g c : Nat) (H : List Od) (w : World) (hs : HS w gR g c H) (hl : H.length ≤ 1000) (he : ∀ o ∈ H, o.es ≠ []) :
    Calls Tryd.prog 17 #[.iface 53 (.pointer (some ⟨gR, 0, none⟩))] w fun r w' => ∃ H', r = .returned (.tuple #[]) ∧ H'.Perm H ∧ HeapX ltO H' 0 H.length ∧ HS w' gR g c H' ∧ Keeps [g] w w' := by
  have HI := Lib.hid (show HS w gR g c H ∧ H.length ≤ 1000 ∧ (∀ o ∈ H, o.es ≠ []) from ⟨hs, hl, he⟩)
  obtain ⟨n, hn⟩ : ∃ n, n = H.length := ⟨_, rfl⟩
  have HN := Lib.hid hn
  have hc := hs.cell
  rw [← hn] at hc
  have hn1 : n ≤ 1000 := by omega
  clear hs hl he hn
  have M1 := m_len gR _ _ _ w hc
  go_enter Tryd.func17, Tryd.ntmps17
  go_wp2_with fail
  clear M1 hc
  refine (olen_any _ _ _ w).mono ?_
  rintro r w1 ⟨rfl, rfl⟩
  go_wp2_with fail
  go_loopw [3] (fun si wr => ∃ (k : Nat) (Hc : List Od), si = .int .i64 ((k : Int) - 1) ∧ k ≤ n ∧ Hid (HS wr gR g c Hc ∧ Hc.Perm H ∧ HeapX ltO Hc k n ∧ Keeps [g] w wr)) (fun si _ => (intOf si + 1).toNat)
  case atStart => exact ⟨n / 2, H, congrArg _ (by omega), by omega, ⟨HI.out.1, .refl _, HeapX.begin H n, Keeps.refl _ _⟩⟩
  case round =>
    obtain ⟨k, Hc, rfl, hk, D⟩ := hrel
    cases k with
    | zero =>
      have h0 : ¬ (0 : Int) ≤ ((0 : Nat) : Int) - 1 := by omega
      go_wp2_with fail
      go_end0
      exact ⟨rfl, Hc, D.out.2.1, by rw [← HN.out]; exact D.out.2.2.1, D.out.1, D.out.2.2.2⟩
    | succ i =>
      have e : (((i + 1 : Nat) : Int) - 1) = (i : Int) := by omega
      rw [e]
      clear e
      have h0 : (0 : Int) ≤ (i : Int) := by omega
      go_wp2_with fail
      refine (down_any gR g c Hc i n wr D.out.1 (by rw [HN.out, D.out.2.1.length_eq]; exact Nat.le_refl _) (by rw [D.out.2.1.length_eq]; exact HI.out.2.1) (by omega) (fun t h _ => he_perm HI.out.2.2 D.out.2.1 t h) D.out.2.2.1.hole).mono ?_
      rintro r w2 ⟨H', b, rfl, h1, h2, h3, h4, h5⟩
      have HR := Lib.hid (show HS w2 gR g c H' ∧ H'.Perm H ∧ HeapX ltO H' i n ∧ Keeps [g] w w2 from ⟨h4, (perm_td h1 h2).trans D.out.2.1, h3, D.out.2.2.2.trans h5 (by simp)⟩)
      clear h1 h2 h3 h4 h5
      go_wp2_with fail
      go_roundw
      case rel => exact ⟨i, H', by go_num, by omega, HR⟩
      case measure => simp [intOf]
end Go.Proofs.YtaedmafmflohiaaDoor
namespace Go.Proofs.YtaedmafmflohiaaDoor
open Go.RowKit

theorem m_pop (gR : Nat) (w : World) : Sem.run Tryd.prog (method 228 53 (.pointer (some ⟨gR, 0, none⟩)) "Pop") w = .ok (59, .pointer (some ⟨gR, 0, none⟩)) w := by
  have hm : ((Tryd.prog.info? 53).map fun i => (i.methods.find? (·.name == "Pop")).map fun m => (m.path, m.func)) = some (some (#[], some (59, true))) := by kernel_rfl
  cases hq : Tryd.prog.info? 53 with
  | none => rw [hq] at hm; cases hm
  | some i =>
    rw [hq] at hm
    simp only [Option.map_some, Option.some.injEq] at hm
    cases hf : i.methods.find? (·.name == "Pop") with
    | none => rw [hf] at hm; cases hm
    | some m =>
      rw [hf] at hm
      simp only [Option.map_some, Option.some.injEq, Prod.mk.injEq] at hm
      obtain ⟨h1, h2⟩ := hm
      unfold method
      simp [Sem.run_bind, typeInfo, hq, hf, h1, h2, follow, receiverAt, Place.get, run_underlying Tryd.underlying53]
set_option maxRecDepth 100000 in
set_option maxHeartbeats 8000000 in
theorem opop_any (gR g n c : Nat) (B L : Value) (rx : Int) (Ax : Option Addr) (nx cx : Nat) (w : World) (hg : w.heap[gR]? = some (.cells #[.slice (some ⟨g, 0, none⟩) (n + 1) c, B, L] 48 (0, 0))) (hn : n ≤ 1000) (hc : n + 1 ≤ c)
    (a0 : w.cell? ⟨g, n * 2, none⟩ = some (.int .i64 rx)) (a1 : w.cell? ⟨g, n * 2 + 1, none⟩ = some (.slice Ax nx cx)) :
    Calls Tryd.prog 59 #[.pointer (some ⟨gR, 0, none⟩)] w fun r w' => ∃ v, r = .returned v ∧ w'.heap[gR]? = some (.cells #[.slice (some ⟨g, 0, none⟩) n c, B, L] 48 (0, 0)) ∧ Keeps [gR] w w' := by
  have HG := Lib.hid hg
  have HGL := Lib.hid (lt_of_block hg)
  have k0 : w.cell? ⟨gR, 0, none⟩ = some (.slice (some ⟨g, 0, none⟩) (n + 1) c) := by rw [cell_of_row _ _ _ _ _ _ hg]; rfl
  have kf : w.frozen? ⟨gR, 0, none⟩ = false := frozen_of_row w _ 0 _ _ hg
  have e1 : ((n + 1 : Nat) : Int) - 1 = (n : Int) := by omega
  have hnc : n ≤ c := by omega
  have hn1 : (n : Int) < ((n + 1 : Nat) : Int) := by omega
  have l1 : gR < w.heap.size := HGL.out
  have l2 : g < w.heap.size := block_lt_of_cell a0
  have l3 : ¬ gR = w.heap.size := by omega
  have l4 : ¬ g = w.heap.size := by omega
  have l5 : ¬ w.heap.size = gR := by omega
  have l6 : ¬ w.heap.size = g := by omega
  clear hg
  go_enter Tryd.func59, Tryd.ntmps59
  go_wp2_with fail
  go_region
  obtain ⟨W1, hW1⟩ : ∃ W1, W1 = (w.alloc (.cells #[.int .i64 rx, .slice Ax nx cx] 51)).drew := ⟨_, rfl⟩
  have K1 := Lib.hid (show Keeps [] w W1 from by rw [hW1]; exact ((Keeps.refl [] w).alloc _).drew)
  have HB := Lib.hid (show W1.cell? ⟨w.heap.size, 0, none⟩ = some (.int .i64 rx) ∧ W1.cell? ⟨w.heap.size, 1, none⟩ = some (.slice Ax nx cx) from by
    have e : W1.heap[w.heap.size]? = some (.cells #[.int .i64 rx, .slice Ax nx cx] 51 (0, 0)) := by rw [hW1]; exact heap_alloc_new _ _
    constructor <;> (rw [cell_of_row _ _ _ _ _ _ e]; rfl))
  rw [← hW1]
  obtain ⟨gN, hgN⟩ : ∃ gN, gN = w.heap.size := ⟨_, rfl⟩
  rw [← hgN] at HB ⊢
  have HGN := Lib.hid hgN
  clear hW1 hgN a0 a1 k0 kf l1 l2 l3 l4 l5 l6
  have k0 : W1.cell? ⟨gR, 0, none⟩ = some (.slice (some ⟨g, 0, none⟩) (n + 1) c) := by rw [cell_of_row _ _ _ _ _ _ ((K1.out.block gR HGL.out (by simp)).trans HG.out)]; rfl
  have kf : W1.frozen? ⟨gR, 0, none⟩ = false := frozen_of_row W1 _ 0 _ _ ((K1.out.block gR HGL.out (by simp)).trans HG.out)
  go_wp2_with fail
  go_region
  obtain ⟨W2, hW2⟩ : ∃ W2, W2 = (W1.setCell ⟨gR, 0, none⟩ (.slice (some ⟨g, 0, none⟩) n c)).drew := ⟨_, rfl⟩
  have HR := Lib.hid (show W2.heap[gR]? = some (.cells #[.slice (some ⟨g, 0, none⟩) n c, B, L] 48 (0, 0)) ∧ Keeps [gR] w W2 from by
    constructor
    · rw [hW2]
      show (W1.setCell ⟨gR, 0, none⟩ _).heap[gR]? = _
      rw [heap_setCell_same _ gR 0 _ _ _ ((K1.out.block gR HGL.out (by simp)).trans HG.out)]
      rfl
    · rw [hW2]
      exact ((K1.out.mono (by simp)).setCell (p := ⟨gR, 0, none⟩) (.inl (by simp)) _).drew)
  have hne : gR ≠ gN := by have := HGL.out; have := HGN.out; omega
  have c0 : W2.cell? ⟨gN, 0, none⟩ = some (.int .i64 rx) := by
    rw [hW2]
    show (W1.setCell ⟨gR, 0, none⟩ _).cell? _ = _
    rw [World.cell?_setCell_far _ _ _ _ (by exact hne)]
    exact HB.out.1
  have c1 : W2.cell? ⟨gN, 1, none⟩ = some (.slice Ax nx cx) := by
    rw [hW2]
    show (W1.setCell ⟨gR, 0, none⟩ _).cell? _ = _
    rw [World.cell?_setCell_far _ _ _ _ (by exact hne)]
    exact HB.out.2
  rw [← hW2]
  clear hW2 k0 kf
  go_wp2_with fail
  go_ret
  exact ⟨_, rfl, HR.out⟩
theorem swp_front {α : Type} (o : α) (T : List α) : ((swp (o :: T) 0 T.length).take T.length).Perm T := by
  rcases List.eq_nil_or_concat T with rfl | ⟨T', x, rfl⟩
  · simp
  · have e : swp (o :: (T' ++ [x])) 0 (T' ++ [x]).length = x :: (T' ++ [o]) := by
      rw [swp_is (by simp) (by simp)]
      simp
    simp only [List.concat_eq_append]
    rw [e]
    simp only [List.length_append, List.length_cons, List.length_nil, List.take_succ_cons]
    simp
    exact (List.perm_append_comm (l₁ := [x]) (l₂ := T'))
theorem hole_swp {H : List Od} {n : Nat} (hl : H.length = n + 1) (h : HoleX ltO H 0 0 (n + 1)) : HoleX ltO (swp H 0 n) 0 0 n := by
  refine ⟨fun k hk hkn hk1 _ hk0 => ?_, fun k hk hkn hk1 _ h1 _ => by omega⟩
  rw [swp_get (by omega) (by omega) hk, swp_get (by omega) (by omega) (by rw [swp_len]; omega), if_neg (by omega), if_neg (by omega), if_neg (by omega), if_neg (by omega)]
  exact h.1 k (by omega) (by omega) hk1 (by omega) hk0
theorem heap_take {H : List Od} {n : Nat} (h : HeapX ltO H 0 n) : HeapX ltO (H.take n) 0 n := by
  intro k hk hkn hk1 hkp
  rw [List.getElem_take, List.getElem_take]
  exact h k (by simp at hk; omega) hkn hk1 hkp
theorem od_cap {w : World} {c : Nat} {A : Option Addr} {H : List Od} (h : OwnOd w A c H) : H.length ≤ c := by
  rcases h.2 with ⟨h1, h0⟩ | ⟨g, cap, cur, hv, hb, hh, hnc, _⟩
  · omega
  · injection hv with e1 e2 e3; omega
theorem OwnOd.pop {w : World} {g c n : Nat} {H : List Od} (h : OwnOd w (some ⟨g, 0, none⟩) c H) (hn : H.length = n + 1) : OwnOd w (some ⟨g, 0, none⟩) c (H.take n) := by
  unfold OwnOd at h ⊢
  have e : encOd H = encOd (H.take n) ++ encOd (H.drop n) := by rw [← encOd_append, List.take_append_drop]
  have e2 : (H.take n).length = n := by simp; omega
  rw [e, hn] at h
  rw [e2]
  exact ownsRow_pop (by rw [encOd_len, e2]; omega) h
set_option maxRecDepth 100000 in
set_option maxHeartbeats 8000000 in
theorem hpop_any (gR g c n : Nat) (H : List Od) (B L : Value) (w : World) (hn : H.length = n + 1) (hs : HS w gR g c H) (hg : w.heap[gR]? = some (.cells #[.slice (some ⟨g, 0, none⟩) H.length c, B, L] 48 (0, 0))) (hl : n + 1 ≤ 1000) (he : ∀ (t : Nat) (h : t < H.length), 1 ≤ t → H[t].es ≠ []) (hh : HoleX ltO H 0 0 (n + 1)) :
    Calls Tryd.prog 25 #[.iface 53 (.pointer (some ⟨gR, 0, none⟩))] w fun r w' => ∃ v H', r = .returned v ∧ H'.Perm H.tail ∧ HeapX ltO H' 0 n ∧ HS w' gR g c H' ∧ w'.heap[gR]? = some (.cells #[.slice (some ⟨g, 0, none⟩) n c, B, L] 48 (0, 0)) ∧ Keeps [g, gR] w w' := by
  have HI := Lib.hid (show HS w gR g c H ∧ w.heap[gR]? = some (.cells #[.slice (some ⟨g, 0, none⟩) H.length c, B, L] 48 (0, 0)) ∧ (∀ (t : Nat) (h : t < H.length), 1 ≤ t → H[t].es ≠ []) ∧ HoleX ltO H 0 0 (n + 1) from ⟨hs, hg, he, hh⟩)
  have HN := Lib.hid hn
  have HNL := Lib.hid hl
  have hc := hs.cell
  rw [hn] at hc
  have hn1 : n ≤ 1000 := by omega
  have e1 : ((n + 1 : Nat) : Int) - 1 = (n : Int) := by omega
  have M1 := m_len gR _ _ _ w hc
  have M2 := m_swap gR _ _ _ w hc
  clear hs hg hl he hh hn
  go_enter Tryd.func25, Tryd.ntmps25
  go_wp2_with fail
  clear M1
  refine (olen_any _ _ _ w).mono ?_
  rintro r w1 ⟨rfl, rfl⟩
  go_wp2_with fail
  rw [show some (⟨g, 0, none⟩ : Addr) = some ⟨g, 0, none⟩ from rfl, ← HN.out]
  refine (swap_any g c H 0 n w HI.out.1.own (by rw [HN.out]; omega) (by rw [HN.out]; omega)).mono ?_
  rintro r w2 ⟨rfl, ho2, hk2⟩
  have hL : (swp H 0 n).length = n + 1 := by rw [swp_len, HN.out]
  have H2 := Lib.hid (show HS w2 gR g c (swp H 0 n) ∧ Keeps [g] w w2 ∧ (swp H 0 n).length = n + 1 from ⟨HI.out.1.turned hk2 ho2 (swp_perm (by rw [HN.out]; omega) (by rw [HN.out]; omega)), hk2, hL⟩)
  clear M2 hc hL ho2 hk2
  go_wp2_with fail
  refine (down_any gR g c (swp H 0 n) 0 n w2 H2.out.1 (by rw [H2.out.2.2]; exact Nat.le_succ _) (by rw [H2.out.2.2]; exact HNL.out) (Nat.zero_le _) (fun t h htn => by
    have h0 := HN.out
    rw [swp_get (by omega) (by omega) h, if_neg (by omega)]
    split
    · exact HI.out.2.2.1 _ _ (by omega)
    · exact HI.out.2.2.1 _ _ (by omega)) (hole_swp HN.out HI.out.2.2.2)).mono ?_
  rintro r w3 ⟨H3, b, rfl, h1, h2, h3, h4, h5⟩
  have hL3 : H3.length = n + 1 := by rw [(perm_td h1 h2).length_eq, H2.out.2.2]
  have HR := Lib.hid (show HS w3 gR g c H3 ∧ H3.length = n + 1 ∧ Keeps [g] w w3 ∧ (H3.take n).Perm ((swp H 0 n).take n) ∧ HeapX ltO H3 0 n from ⟨h4, hL3, H2.out.2.1.trans h5 (by simp), h1, h3⟩)
  clear h1 h2 h3 h4 h5 hL3 H2
  have M3 := m_pop gR w3
  go_wp2_with fail
  clear M3
  have hg3 : w3.heap[gR]? = some (.cells #[.slice (some ⟨g, 0, none⟩) (n + 1) c, B, L] 48 (0, 0)) := by
    have h6 := HI.out.2.1
    rw [HN.out] at h6
    exact (HR.out.2.2.1.block gR (lt_of_block h6) (by simpa using HI.out.1.ne)).trans h6
  obtain ⟨a0, a1⟩ := HR.out.1.own.at_ (i := n) (by rw [HR.out.2.1]; omega)
  have hcap := od_cap HR.out.1.own
  rw [HR.out.2.1] at hcap
  refine (opop_any gR g n c B L _ _ _ _ w3 hg3 hn1 hcap a0 a1).mono ?_
  rintro r w4 ⟨v, rfl, h7, h8⟩
  have H9 := Lib.hid (show w4.heap[gR]? = some (.cells #[.slice (some ⟨g, 0, none⟩) n c, B, L] 48 (0, 0)) ∧ Keeps [gR] w3 w4 from ⟨h7, h8⟩)
  clear h7 h8 a0 a1 hcap hg3
  go_wp2_with fail
  go_ret
  have hne := HI.out.1.ne
  have hL4 : (H3.take n).length = n := by rw [List.length_take, HR.out.2.1]; omega
  refine ⟨_, H3.take n, rfl, ?_, heap_take HR.out.2.2.2.2, ⟨?_, (show OwnOd w4 _ c H3 from ownsRow_keeps HR.out.1.own H9.out.2 (fun a e => by cases e; simpa using fun e => hne e.symm)).pop HR.out.2.1, hne, fun o ho => ⟨(HR.out.1.rd o (List.mem_of_mem_take ho)).1.keeps H9.out.2 (fun a e _ => by simpa using ((HR.out.1.rd o (List.mem_of_mem_take ho)).2 a e).2), (HR.out.1.rd o (List.mem_of_mem_take ho)).2⟩⟩, H9.out.1, (HR.out.2.2.1.mono (by simp)).trans H9.out.2 (by simp)⟩
  · refine HR.out.2.2.2.1.trans ?_
    have h0 := HN.out
    cases H with
    | nil => simp at h0
    | cons o T =>
      obtain rfl : T.length = n := by simpa using h0
      exact swp_front o T
  · rw [cell_of_row _ _ _ _ _ _ H9.out.1, hL4]; rfl
end Go.Proofs.YtaedmafmflohiaaDoor
