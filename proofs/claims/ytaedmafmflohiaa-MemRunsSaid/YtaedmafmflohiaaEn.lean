/- Entries held against a key, weighed, and a key sought in a row in order: contracts. -/
import Derived.Test.YtaedmafmflohiaaEnPlain
import Derived.Test.YtaedmafmflohiaaShelf
import Derived.Test.YtaedmafmflohiaaSec
import Derived.Test.YtaedmafmflohiaaOwnV
import Derived.Deep.DeepCutAuto
namespace Go.Proofs.Ytaedmafmflohiaa
open Go.RowKit

theorem infoEn : (Try.prog.info? 27).map (fun i => (i.zero, i.size, i.bytes)) = some (some (.agg #[.string ByteArray.empty, .string ByteArray.empty, .bool false]), 3, 40) := by kernel_rfl
theorem infoEn3 : (Try.prog.info? 27).map (·.size) = some 3 := by kernel_rfl
def En.val (e : En) : Value := .agg #[.string (strB e.k), .string (strB e.v), .bool e.g]
theorem by_any (e : En) (key : List UInt8) (w : World) :
    Calls Try.prog 28 #[e.val, .string (strB key)] w fun r w' => r = .returned (.int .i64 (Lib.compareBytes e.k key)) ∧ Keeps [] w w' := by
  obtain ⟨k, v, g⟩ := e
  unfold En.val
  go_enter Try.func28, Try.ntmps28
  go_wp2_with fail
  refine (Try.strings_Compare (strB k) (strB key) _).mono ?_
  rintro e w1 ⟨rfl, rfl⟩
  go_wp2_with fail
  go_ret
  exact ⟨rfl, (Keeps.refl [] w).alloc _⟩
theorem weigh_any (e : En) (w : World) (h1 : e.k.length ≤ 140737488351232) (h2 : e.v.length ≤ 140737488351232) :
    Calls Try.prog 29 #[e.val] w fun r w' => r = .returned (.int .i64 (wE e : Nat)) ∧ Keeps [] w w' := by
  obtain ⟨k, v, g⟩ := e
  have hk : (strB k).size = k.length := rfl
  have hv : (strB v).size = v.length := rfl
  obtain ⟨lk, hlk⟩ : ∃ n, n = k.length := ⟨_, rfl⟩
  obtain ⟨lv, hlv⟩ : ∃ n, n = v.length := ⟨_, rfl⟩
  simp only at h1 h2
  rw [← hlk] at h1 hk
  rw [← hlv] at h2 hv
  have HL := Lib.hid (show lk + lv = wE ⟨k, v, g⟩ by rw [hlk, hlv]; rfl)
  unfold En.val
  clear hlk hlv
  go_enter Try.func29, Try.ntmps29
  go_wp2_with fail
  go_ret
  refine ⟨?_, (Keeps.refl [] w).alloc _⟩
  rw [← HL.out]
  simp
/-- The cells of an entry in a row. -/
theorem en_cells {w : World} {A : Option Addr} {n : Nat} {l : List En} (h : Rd w A n 3 (encEn l)) {i : Nat} (hi : i < l.length) :
    ∃ g o, A = some ⟨g, o, none⟩ ∧ w.cell? ⟨g, o + i * 3, none⟩ = some (.string (strB l[i].k)) ∧ w.cell? ⟨g, o + i * 3 + 1, none⟩ = some (.string (strB l[i].v)) ∧ w.cell? ⟨g, o + i * 3 + 2, none⟩ = some (.bool l[i].g) := by
  have hl := encEn_len l
  obtain ⟨g, o, ha, hc⟩ := h.form (by omega)
  refine ⟨g, o, ha, ?_, ?_, ?_⟩
  · exact hc _ _ (by rw [Nat.mul_comm, ← Nat.add_zero (3 * i), encEn_get l i hi 0 (by decide)]; rfl)
  · rw [Nat.add_assoc]; exact hc _ _ (by rw [Nat.mul_comm, encEn_get l i hi 1 (by decide)]; rfl)
  · rw [Nat.add_assoc]; exact hc _ _ (by rw [Nat.mul_comm, encEn_get l i hi 2 (by decide)]; rfl)
set_option maxHeartbeats 4000000 in
theorem bsearch_any (A : Option Addr) (c : Nat) (l : List En) (key : List UInt8) (w : World) (hr : Rd w A l.length 3 (encEn l)) (hs : Srt l) (hl : l.length ≤ 1000000000) :
    Calls Try.prog 27 #[.slice A l.length c, .string (strB key), .func (.func 28) #[] #[]] w fun r w' => r = .returned (.tuple #[.int .i64 (lo l key : Nat), .bool (hit l key)]) ∧ Keeps [] w w' := by
  have HR := Lib.hid hr
  have HS := Lib.hid hs
  have INV := Lib.hid (Keeps.refl [] w)
  clear hr hs
  go_enter Try.func27, Try.ntmps27
  go_wp2_with fail
  obtain ⟨n, hn⟩ : ∃ n, n = l.length := ⟨_, rfl⟩
  have HN := Lib.hid hn
  rw [← hn] at hl ⊢
  clear hn
  go_loopw [9, 10] (fun si sj wr => ∃ i j : Nat, si = .int .i64 i ∧ sj = .int .i64 j ∧ i ≤ j ∧ j ≤ n ∧ Hid ((∀ t (h : t < l.length), t < i → Op.bytesLess l[t].k key = true) ∧ (∀ t (h : t < l.length), j ≤ t → Op.bytesLess l[t].k key = false)) ∧ Hid (Keeps [] w wr)) (fun si sj _ => (intOf sj).toNat - (intOf si).toNat)
  case atStart => exact ⟨0, n, rfl, rfl, by omega, by omega, ⟨fun t h h2 => by omega, fun t h h2 => by have := HN.out; omega⟩, INV.out⟩
  case round =>
    clear INV
    obtain ⟨i, j, rfl, rfl, hij, hjn, hsp, hk⟩ := hrel
    by_cases hlt : i < j
    · have hlt' : (i : Int) < (j : Int) := by omega
      obtain ⟨h, hh⟩ : ∃ h, h = (i + j) / 2 := ⟨_, rfl⟩
      have f1 : IntKind.u64.wrap ((i : Int) + (j : Int)) = (i : Int) + (j : Int) := by rw [IntKind.wrap_u64]; omega
      have f2 : ((i : Int) + (j : Int)) / 2 = (h : Int) := by omega
      have f3 : IntKind.i64.wrap (h : Int) = (h : Int) := by rw [IntKind.wrap_i64]; omega
      have hhn : (h : Int) < (n : Int) := by omega
      have HH := Lib.hid (show i ≤ h ∧ h < j from by omega)
      have HIL := Lib.hid (show h < l.length from by have := HN.out; omega)
      obtain ⟨g, o, rfl, k0, k1, k2⟩ := en_cells (HR.out.keeps0 hk.out) (i := h) HIL.out
      obtain ⟨e, he⟩ : ∃ e, e = l[h]'(HIL.out) := ⟨_, rfl⟩
      rw [← he] at k0 k1 k2
      have HE := Lib.hid he
      clear hh hlt he
      go_wp2_with fail
      refine (by_any e key wr).mono ?_
      rintro r w2 ⟨rfl, hk2⟩
      have HK := Lib.hid (hk.out.trans hk2 (by simp))
      clear k0 k1 k2 hk2 hk
      obtain ⟨m, hm⟩ : ∃ m, m = Lib.compareBytes e.k key := ⟨_, rfl⟩
      rw [← hm]
      have HM := Lib.hid (show m < 0 ↔ Op.bytesLess e.k key = true from by rw [hm]; exact cmp_lt _ _)
      clear hm
      by_cases hm0 : m < 0
      · have HB := Lib.hid (HM.out.1 hm0)
        go_wp2_with fail
        go_roundw
        case rel => exact ⟨h + 1, j, by go_num, rfl, by have := HH.out; omega, hjn, ⟨fun t ht htj => by
            rcases Nat.lt_or_ge t h with h1 | h1
            · have h2 := HS.out.lt HIL.out h1
              have h3 := HB.out
              rw [HE.out] at h3
              exact bl_trans h2 h3
            · obtain rfl : t = h := by omega
              have h3 := HB.out
              rwa [HE.out] at h3, hsp.out.2⟩, HK.out⟩
        case measure => have := HH.out; simp [intOf]; omega
      · have HB := Lib.hid (show Op.bytesLess e.k key = false from by cases hb : Op.bytesLess e.k key with
          | false => rfl
          | true => exact absurd (HM.out.2 hb) hm0)
        go_wp2_with fail
        go_roundw
        case rel => exact ⟨i, h, rfl, rfl, by have := HH.out; omega, by have := HH.out; omega, ⟨hsp.out.1, fun t ht htj => by
            rcases Nat.lt_or_ge h t with h1 | h1
            · have h2 := HS.out.lt ht h1
              have h3 := HB.out
              rw [HE.out] at h3
              cases hb : Op.bytesLess l[t].k key with
              | false => rfl
              | true => rw [bl_trans h2 hb] at h3; cases h3
            · obtain rfl : t = h := by omega
              have h3 := HB.out
              rwa [HE.out] at h3⟩, HK.out⟩
        case measure => have := HH.out; simp [intOf]; omega
    · obtain rfl : i = j := by omega
      have hlt' : ¬ (i : Int) < (i : Int) := by omega
      have HLO := Lib.hid (show lo l key = i from lo_spec (by have := HN.out; omega) hsp.out.1 (fun h => hsp.out.2 i h (Nat.le_refl _)))
      by_cases hin : i < n
      · have hin' : (i : Int) < (n : Int) := by omega
        have HIL := Lib.hid (show i < l.length from by have := HN.out; omega)
        obtain ⟨g, o, rfl, k0, k1, k2⟩ := en_cells (HR.out.keeps0 hk.out) (i := i) HIL.out
        obtain ⟨e, he⟩ : ∃ e, e = l[i]'(HIL.out) := ⟨_, rfl⟩
        rw [← he] at k0 k1 k2
        have HE := Lib.hid he
        clear hlt he
        go_wp2_with fail
        refine (by_any e key wr).mono ?_
        rintro r w2 ⟨rfl, hk2⟩
        have HK := Lib.hid (hk.out.trans hk2 (by simp))
        clear k0 k1 k2 hk2 hk
        obtain ⟨m, hm⟩ : ∃ m, m = Lib.compareBytes e.k key := ⟨_, rfl⟩
        rw [← hm]
        have HM := Lib.hid (show m = 0 ↔ e.k = key from by rw [hm]; exact cmp_eq0 _ _)
        clear hm
        by_cases hm0 : m = 0
        · have HH := Lib.hid (show hit l key = true from hit_iff.2 (by rw [HLO.out]; exact ⟨HIL.out, by rw [← HE.out]; exact HM.out.1 hm0⟩))
          have e1 : (m == 0) = true := by simp [hm0]
          clear hm0
          go_wp2_with fail
          go_ret2
          exact ⟨by rw [HLO.out, HH.out]; rfl, HK.out⟩
        · have HH := Lib.hid (show hit l key = false from by
            cases hb : hit l key with
            | false => rfl
            | true =>
              obtain ⟨h1, h2⟩ := hit_iff.1 hb
              simp only [HLO.out, ← HE.out] at h2
              exact absurd (HM.out.2 h2) hm0)
          have e1 : (m == 0) = false := by simp [hm0]
          clear hm0
          go_wp2_with fail
          go_ret2
          exact ⟨by rw [HLO.out, HH.out]; rfl, HK.out⟩
      · have hin' : ¬ (i : Int) < (n : Int) := by omega
        have HH := Lib.hid (show hit l key = false from by unfold hit; rw [HLO.out, List.getElem?_eq_none (by have := HN.out; omega)]; rfl)
        clear hlt
        go_wp2_with fail
        go_ret2
        exact ⟨by rw [HLO.out, HH.out]; rfl, hk.out⟩
end Go.Proofs.Ytaedmafmflohiaa
