/- The law on texts that differ within three bytes: called with any bytes, any place and any three bytes it answers true. -/
import Derived.Test.YtpflfbenadgknaaDoorHornerSealsC
import Derived.Test.YtpflfbenadgknaaDoorHornerNearPlain
import Derived.Test.YtpflfbenadgknaaDoorRegionZ
import Derived.Laws.BitsAllLaws
namespace Go.Proofs.YtpflfbenadgknaaDoor
open Go.RowKit

theorem OwnB.row {E : TypeId} {w : World} {A : Option Addr} {c : Nat} {l : List UInt8} (h : OwnB E w A c l) (h0 : 0 < l.length) : ∃ g cur, A = some ⟨g, 0, none⟩ ∧ w.heap[g]? = some (.cells cur E (0, 0)) ∧ l.length ≤ c ∧ c ≤ maxLen ∧ cur.size = c ∧ cur.toList.take l.length = encB l := by
  rcases h.2 with ⟨_, h2⟩ | ⟨g, cap, cur, h1, _, h3, h4, h5, h6, h7⟩
  · omega
  · injection h1 with e1 e2 e3
    subst e3
    exact ⟨g, cur, e1, h3, h4, h5, by omega, by simpa using h7⟩
theorem OwnB.set {E : TypeId} {w : World} {g c : Nat} {l : List UInt8} (h : OwnB E w (some ⟨g, 0, none⟩) c l) (j : Nat) (hj : j < l.length) (b : UInt8) :
    OwnB E (w.setCell ⟨g, j, none⟩ (.int .u8 (b.toNat : Int))) (some ⟨g, 0, none⟩) c (l.set j b) := by
  obtain ⟨g', cur, e1, h3, h4, h5, h6, h7⟩ := h.row (by omega)
  obtain rfl : g = g' := by injection e1 with e; injection e
  refine ⟨by simp, .inr ⟨g, c, cur.setIfInBounds j (.int .u8 (b.toNat : Int)), by simp, Nat.zero_le _, heap_setCell_same w g j _ _ _ h3, by simpa using h4, h5, by simp [h6], ?_⟩⟩
  have e : encB (l.set j b) = (encB l).set j (.int .u8 (b.toNat : Int)) := by simp [encB, List.map_set]
  rw [e, ← h7]
  simp [List.take_set]
theorem OwnB.at_ {E : TypeId} {w : World} {g c : Nat} {l : List UInt8} (h : OwnB E w (some ⟨g, 0, none⟩) c l) (j : Nat) (hj : j < l.length) : w.cell? ⟨g, j, none⟩ = some (.int .u8 (l[j].toNat : Int)) ∧ w.frozen? ⟨g, j, none⟩ = false := by
  obtain ⟨g', cur, e1, h3, h4, h5, h6, h7⟩ := h.row (by omega)
  obtain rfl : g = g' := by injection e1 with e; injection e
  refine ⟨?_, frozen_of_row w g j _ _ h3⟩
  obtain ⟨ad, ea, hc⟩ := h.rd.at_ (k := j) hj
  rw [← Option.some.inj ea, add_new, Nat.zero_add] at hc
  exact hc

theorem own_any (A : Option Addr) (l : List UInt8) (c : Nat) (w : World) (hl : l.length ≤ 140737488351232) (hr : RdB w A l) :
    Calls Tryd.prog 7 #[.slice A l.length c] w (NewB 5 l w) := by
  have HR := Lib.hid hr
  clear hr
  go_enter Tryd.func7, Tryd.ntmps7
  go_wp2_with (at_builtin; refine wpList_appendB rfl (.tmp 4) (.tmp 5) 22 5 rfl Tryd.underlying22 infoB none 0 [] rfl (OwnB.nil _ _) A c l rfl HR.out (by simp <;> omega) ?_; intro A' c' w' l' hl' ho hk hb)
  go_ret
  refine ⟨A', c', l', hl', rfl, ho, fun a ha => ?_, hk⟩
  rcases hb a ha with h | h
  · simp [blk] at h
  · exact h

theorem RdB.behind {w : World} {g o : Nat} {l : List UInt8} (h : RdB w (some ⟨g, o, none⟩) l) (k : Nat) (hk : k ≤ l.length) (A' : Option Addr) (hA : 0 < l.length - k → A' = some ⟨g, o + k, none⟩) : RdB w A' (l.drop k) := by
  have := h.part k (l.length - k) (by omega) (A' := A') (fun hm ad e => by rw [hA hm, ← Option.some.inj e, add_new])
  rwa [List.take_of_length_le (by simp)] at this
def oth (bs : List UInt8) : Nat → Bool
  | 0 => false
  | k + 1 => oth bs k || decide (bs.getD k 0 ≠ 0)
theorem oth_false (bs : List UInt8) (K : Nat) : oth bs K = false ↔ ∀ k, k < K → bs.getD k 0 = 0 := by
  induction K with
  | zero => simp [oth]
  | succ K ih =>
    rw [oth, Bool.or_eq_false_iff, ih]
    constructor
    · rintro ⟨h1, h2⟩ k hk
      rcases Nat.lt_or_ge k K with h | h
      · exact h1 k h
      · obtain rfl : k = K := by omega
        simpa using h2
    · intro h
      exact ⟨fun k hk => h k (by omega), by simpa using h K (by omega)⟩

theorem hlast_inj {s t : Int} (hs : 0 ≤ s ∧ s < 4294967296) (ht : 0 ≤ t ∧ t < 4294967296) (h : hlast s = hlast t) : s = t := by
  unfold hlast at h
  simp only [List.cons.injEq, and_true] at h
  obtain ⟨h0, h1, h2, h3⟩ := h
  have f : ∀ {a b : Int}, 0 ≤ a ∧ a ≤ 255 → 0 ≤ b ∧ b ≤ 255 → UInt8.ofNat a.toNat = UInt8.ofNat b.toNat → a = b := fun ha hb hab => by
    have := u8_of ha
    have := u8_of hb
    rw [hab] at *
    omega
  have g0 := f (by omega) (by omega) h0
  have g1 := f (by omega) (by omega) h1
  have g2 := f (by omega) (by omega) h2
  have g3 := f (by omega) (by omega) h3
  omega

set_option maxHeartbeats 1000000 in
theorem law_near (A : Option Addr) (l : List UInt8) (c : Nat) (at_ : Int) (b0 b1 b2 : UInt8) (w : World) (hg : HT w) (hl : l.length ≤ 140737488351232) (hc : l.length ≤ c) (hr : RdB w A l) :
    Calls Tryd.prog 5 #[.slice A l.length c, .int .i64 at_, .agg #[.int .u8 (b0.toNat : Int), .int .u8 (b1.toNat : Int), .int .u8 (b2.toNat : Int)]] w fun e w' => e = .returned (.bool true) ∧ Below w.heap.size w w' := by
  have HR := Lib.hid hr
  have HG := Lib.hid hg
  have keep : ∀ w', Keeps [] w w' → Below w.heap.size w w' := fun w' h => h.below (Nat.le_refl _) (by simp)
  have KEEP := Lib.hid keep
  clear hr hg keep
  by_cases hz : l.length = 0 ∨ 5000 < l.length
  · have hz' : (l.length : Int) = 0 ∨ ((l.length : Int) ≠ 0 ∧ (5000 : Int) < (l.length : Int)) := by omega
    clear hz
    rcases hz' with hz | ⟨hz1, hz⟩
    · have hbe : ((l.length : Int) == 0) = true := by rw [beq_iff_eq]; exact hz
      clear hz
      go_enter Tryd.func5, Tryd.ntmps5
      go_wp2_with fail
      refine (sure_any _).mono ?_
      rintro e w' ⟨rfl, hk⟩
      go_wp2_with fail
      go_ret
      exact ⟨rfl, KEEP.out _ (((Keeps.refl [] w).alloc _).trans hk (by simp))⟩
    · have hbe : ((l.length : Int) == 0) = false := by rw [beq_eq_false_iff_ne]; exact hz1
      clear hz1
      go_enter Tryd.func5, Tryd.ntmps5
      go_wp2_with fail
      refine (sure_any _).mono ?_
      rintro e w' ⟨rfl, hk⟩
      go_wp2_with fail
      go_ret
      exact ⟨rfl, KEEP.out _ (((Keeps.refl [] w).alloc _).trans hk (by simp))⟩
  · have hz1 : ¬ (l.length : Int) = 0 := by omega
    have hz2 : ¬ (5000 : Int) < (l.length : Int) := by omega
    have hl0 : 0 < l.length := by omega
    have hl5 : l.length ≤ 5000 := by omega
    have hbe : ((l.length : Int) == 0) = false := by rw [beq_eq_false_iff_ne]; omega
    clear hz hz1
    have hu0 : 0 ≤ IntKind.u64.wrap at_ := by rw [IntKind.wrap_u64]; omega
    have hem : (IntKind.u64.wrap at_).tmod (l.length : Int) = IntKind.u64.wrap at_ % (l.length : Int) := Int.tmod_eq_emod_of_nonneg hu0
    have he0 := Int.emod_nonneg (IntKind.u64.wrap at_) (show (l.length : Int) ≠ 0 by omega)
    have he1 := Int.emod_lt_of_pos (IntKind.u64.wrap at_) (show (0 : Int) < (l.length : Int) by omega)
    obtain ⟨i, hi⟩ : ∃ i : Nat, (IntKind.u64.wrap at_).tmod (l.length : Int) = (i : Int) := ⟨(IntKind.u64.wrap at_ % (l.length : Int)).toNat, by rw [hem, Int.toNat_of_nonneg he0]⟩
    have hil : i < l.length := by rw [← hem, hi] at he1; omega
    have hil' : (i : Int) < (l.length : Int) := by omega
    clear hu0 hem he0 he1
    go_enter Tryd.func5, Tryd.ntmps5
    go_wp2_with fail
    refine (own_any A l c _ (by omega) (HR.out.alloc _)).mono ?_
    rintro e w1 ⟨A1, c1, l1, hl1, rfl, ho1, hn1, hk1⟩
    obtain rfl : l1 = l := hl1.out
    obtain ⟨g, cur, rfl, _⟩ := ho1.row hl0
    have HO1 := Lib.hid ho1
    have HK1 := Lib.hid hk1
    have hgn := hn1 _ rfl
    have hgl := ho1.lt _ rfl
    clear ho1 hk1 hn1
    go_wp2_with fail
    have hby : ∀ k, k < 3 → (w.alloc (.cells #[.int .u8 (b0.toNat : Int), .int .u8 (b1.toNat : Int), .int .u8 (b2.toNat : Int)] 42 (0, 0))).cell? ⟨w.heap.size, k, none⟩ = some (.int .u8 (([b0, b1, b2].getD k 0).toNat : Int)) := by
      intro k hk
      have hs : k = 0 ∨ k = 1 ∨ k = 2 := by omega
      rcases hs with rfl | rfl | rfl <;> simp
    have hgw : w.heap.size < g := by simp at hgn; omega
    have HBY := Lib.hid (fun k hk => HK1.out.cell (hby k hk) (by simp))
    clear hby
    go_loopw [9, 10] (fun o kk wr => ∃ k : Nat, k ≤ 3 ∧ i + k ≤ l1.length ∧ kk = .int .i64 k ∧ o = .bool (oth [b0, b1, b2] k) ∧ Hid (OwnB 5 wr (some ⟨g, 0, none⟩) c1 (xr l1 i [b0, b1, b2] k)) ∧ Hid (Keeps [g] w1 wr)) (fun _ kk _ => 3 - (intOf kk).toNat)
    case atStart => exact ⟨0, by omega, by omega, rfl, rfl, HO1.out, Keeps.refl _ _⟩
    case round =>
      obtain ⟨k, hk3, hik, rfl, rfl, hO, hK⟩ := hrel
      by_cases hgo : k < 3 ∧ i + k < l1.length
      · obtain ⟨hkl, hikl⟩ := hgo
        have g1 : (k : Int) < 3 := by omega
        have g2 : (i : Int) + (k : Int) < (l1.length : Int) := by omega
        have qb := hK.out.cell (HBY.out k hkl) (by simp; omega)
        have hat := hO.out.at_ (i + k) (by simpa using hikl)
        have hget := xr_get l1 i [b0, b1, b2] k (i + k) hikl
        rw [if_neg (by omega), List.getD_eq_getElem?_getD, List.getElem?_eq_getElem (by simpa using hikl)] at hget
        obtain ⟨qx, fx⟩ := hat
        obtain ⟨X, hX⟩ : ∃ X, X = l1.getD (i + k) 0 := ⟨_, rfl⟩
        obtain ⟨Y, hY⟩ : ∃ Y, Y = [b0, b1, b2].getD k 0 := ⟨_, rfl⟩
        have eX : (xr l1 i [b0, b1, b2] k)[i + k]'(by simpa using hikl) = X := by rw [hX, ← hget]; rfl
        rw [eX] at qx
        rw [← hY] at qb
        have HX := Lib.hid hX
        have HY := Lib.hid hY
        have hxor : bits .xor .u8 (X.toNat : Int) (Y.toNat : Int) = ((X ^^^ Y).toNat : Int) := by
          have h1 := X.toNat_lt
          have h2 := Y.toNat_lt
          rw [u8_xor_nat _ _ (by omega) (by omega), UInt8.toNat_xor]
        have ho : oth [b0, b1, b2] (k + 1) = (oth [b0, b1, b2] k || decide (Y ≠ 0)) := by rw [hY]; rfl
        have HOT := Lib.hid ho
        have hne : ((Y.toNat : Int) = 0) ↔ Y = 0 := by rw [← UInt8.toNat_inj]; simp
        have HNE := Lib.hid hne
        obtain ⟨m, hm⟩ : ∃ m, m = i + k := ⟨_, rfl⟩
        rw [← hm] at qx fx
        have hml : m < l1.length := by omega
        have hml' : (m : Int) < (l1.length : Int) := by omega
        have hwik : IntKind.i64.wrap ((i : Int) + (k : Int)) = (m : Int) := by rw [IntKind.wrap_i64]; omega
        have HMM := Lib.hid hm
        clear hm
        have q1 : ∀ w', w' = wr ∨ w' = wr.drew → w'.cell? ⟨g, m, none⟩ = some (.int .u8 (X.toNat : Int)) := fun w' h => by rcases h with rfl | rfl <;> exact qx
        have q2 : ∀ w', w' = wr ∨ w' = wr.drew → w'.cell? ⟨w.heap.size, k, none⟩ = some (.int .u8 (Y.toNat : Int)) := fun w' h => by rcases h with rfl | rfl <;> exact qb
        clear hget eX hX hY ho hne
        cases hoth : oth [b0, b1, b2] k
        · by_cases hY0 : Y = 0
          · have hYi : (Y.toNat : Int) = 0 := HNE.out.2 hY0
            have HYN := Lib.hid hY0
            clear hY0
            go_wp2_with fail
            clear hYi
            refine seqz_start (by kernel_rfl) (fun x => x = wr ∨ x = wr.drew) 15 16 [0, 1, 2, 3, 4, 5, 6, 7, 8, 9, 10, 11, 12, 13, 14, 15] rfl (.inr rfl) (fun hS => ?_)
            refine seqz_take (v := ?_) rfl (by kernel_rfl) (by kernel_rfl) (by kernel_rfl) (by kernel_rfl) (by decide) (Or.inl ⟨by rfl, fun w' hSw => ?_⟩) (by assumption) ?_
            rotate_left
            · go_simp
              with_reducible rfl
            simp only [Act.put, List.setIfInBounds_toArray, List.set_cons_zero, List.set_cons_succ]
            refine seqz_take (v := ?_) rfl (by kernel_rfl) (by kernel_rfl) (by kernel_rfl) (by kernel_rfl) (by decide) (Or.inl ⟨by rfl, fun w' hSw => ?_⟩) (by assumption) ?_
            rotate_left
            · go_simp
              with_reducible rfl
            simp only [Act.put, List.setIfInBounds_toArray, List.set_cons_zero, List.set_cons_succ]
            refine seqz_take (v := ?_) rfl (by kernel_rfl) (by kernel_rfl) (by kernel_rfl) (by kernel_rfl) (by decide) (Or.inl ⟨by rfl, fun w' hSw => ?_⟩) (by assumption) ?_
            rotate_left
            · go_simp
              with_reducible rfl
            simp only [Act.put, List.setIfInBounds_toArray, List.set_cons_zero, List.set_cons_succ]
            refine seqz_take (v := ?_) rfl (by kernel_rfl) (by kernel_rfl) (by kernel_rfl) (by kernel_rfl) (by decide) (Or.inl ⟨by rfl, fun w' hSw => ?_⟩) (by assumption) ?_
            rotate_left
            · go_simp
              with_reducible rfl
            simp only [Act.put, List.setIfInBounds_toArray, List.set_cons_zero, List.set_cons_succ]
            refine seqz_take (v := ?_) rfl (by kernel_rfl) (by kernel_rfl) (by kernel_rfl) (by kernel_rfl) (by decide) (Or.inl ⟨by rfl, fun w' hSw => ?_⟩) (by assumption) ?_
            rotate_left
            · go_simp
              with_reducible rfl
            simp only [Act.put, List.setIfInBounds_toArray, List.set_cons_zero, List.set_cons_succ]
            refine seqz_take (v := ?_) rfl (by kernel_rfl) (by kernel_rfl) (by kernel_rfl) (by kernel_rfl) (by decide) (Or.inl ⟨by rfl, fun w' hSw => ?_⟩) (by assumption) ?_
            rotate_left
            · go_simp
              with_reducible rfl
            simp only [Act.put, List.setIfInBounds_toArray, List.set_cons_zero, List.set_cons_succ]
            refine seqz_take (v := ?_) rfl (by kernel_rfl) (by kernel_rfl) (by kernel_rfl) (by kernel_rfl) (by decide) (Or.inl ⟨by rfl, fun w' hSw => ?_⟩) (by assumption) ?_
            rotate_left
            · go_simp
              with_reducible rfl
            simp only [Act.put, List.setIfInBounds_toArray, List.set_cons_zero, List.set_cons_succ]
            refine seqz_take (v := ?_) rfl (by kernel_rfl) (by kernel_rfl) (by kernel_rfl) (by kernel_rfl) (by decide) (Or.inl ⟨by rfl, fun w' hSw => ?_⟩) (by assumption) ?_
            rotate_left
            · go_simp
              with_reducible rfl
            simp only [Act.put, List.setIfInBounds_toArray, List.set_cons_zero, List.set_cons_succ]
            refine seqz_take (v := ?_) rfl (by kernel_rfl) (by kernel_rfl) (by kernel_rfl) (by kernel_rfl) (by decide) (Or.inl ⟨by rfl, fun w' hSw => ?_⟩) (by assumption) ?_
            rotate_left
            · go_simp
              with_reducible rfl
            simp only [Act.put, List.setIfInBounds_toArray, List.set_cons_zero, List.set_cons_succ]
            refine seqz_take (v := ?_) rfl (by kernel_rfl) (by kernel_rfl) (by kernel_rfl) (by kernel_rfl) (by decide) (Or.inl ⟨by rfl, fun w' hSw => ?_⟩) (by assumption) ?_
            rotate_left
            · go_simp
              with_reducible rfl
            simp only [Act.put, List.setIfInBounds_toArray, List.set_cons_zero, List.set_cons_succ]
            refine seqz_take (v := ?_) rfl (by kernel_rfl) (by kernel_rfl) (by kernel_rfl) (by kernel_rfl) (by decide) (Or.inl ⟨by rfl, fun w' hSw => ?_⟩) (by assumption) ?_
            rotate_left
            · go_simp
              with_reducible rfl
            simp only [Act.put, List.setIfInBounds_toArray, List.set_cons_zero, List.set_cons_succ]
            refine seqz_take (v := ?_) rfl (by kernel_rfl) (by kernel_rfl) (by kernel_rfl) (by kernel_rfl) (by decide) (Or.inl ⟨by rfl, fun w' hSw => ?_⟩) (by assumption) ?_
            rotate_left
            · go_simp
              with_reducible rfl
            simp only [Act.put, List.setIfInBounds_toArray, List.set_cons_zero, List.set_cons_succ]
            refine seqz_take (v := ?_) rfl (by kernel_rfl) (by kernel_rfl) (by kernel_rfl) (by kernel_rfl) (by decide) (Or.inl ⟨by rfl, fun w' hSw => ?_⟩) (by assumption) ?_
            rotate_left
            · go_simp
              with_reducible rfl
            simp only [Act.put, List.setIfInBounds_toArray, List.set_cons_zero, List.set_cons_succ]
            refine seqz_take (v := ?_) rfl (by kernel_rfl) (by kernel_rfl) (by kernel_rfl) (by kernel_rfl) (by decide) (Or.inl ⟨by rfl, fun w' hSw => ?_⟩) (by assumption) ?_
            rotate_left
            · go_simp
              with_reducible rfl
            simp only [Act.put, List.setIfInBounds_toArray, List.set_cons_zero, List.set_cons_succ]
            refine seqz_take (v := ?_) rfl (by kernel_rfl) (by kernel_rfl) (by kernel_rfl) (by kernel_rfl) (by decide) (Or.inl ⟨by rfl, fun w' hSw => ?_⟩) (by assumption) ?_
            rotate_left
            · go_simp
              with_reducible rfl
            simp only [Act.put, List.setIfInBounds_toArray, List.set_cons_zero, List.set_cons_succ]
            refine seqz_last rfl (by kernel_rfl) (by rfl) (by kernel_rfl) ?_
            all_goals skip
            go_simp
            go_wp2_with fail
            go_roundw
            case rel =>
              refine ⟨k + 1, by omega, by omega, by go_num, ?_, ?_, ?_⟩
              · rw [HOT.out, hoth]; have := HYN.out; simp [this]
              · have := OwnB.set (OwnB.drew hO.out) m (by simpa using hml) (X ^^^ Y)
                have e : xr l1 i [b0, b1, b2] (k + 1) = (xr l1 i [b0, b1, b2] k).set m (X ^^^ Y) := by rw [HMM.out, HX.out, HY.out]; rfl
                show OwnB _ _ _ _ _
                rw [e]
                exact this
              · exact Keeps.setCell (p := ⟨g, m, none⟩) hK.out.drew (.inl (by simp)) _
            case measure => simp [intOf]; omega
          · have hYi : ¬ (Y.toNat : Int) = 0 := fun h => hY0 (HNE.out.1 h)
            have HYN := Lib.hid hY0
            clear hY0
            go_wp2_with fail
            refine seqz_start (by kernel_rfl) (fun x => x = wr ∨ x = wr.drew) 15 16 [0, 1, 2, 3, 4, 5, 6, 7, 8, 9, 10, 11, 12, 13, 14, 15] rfl (.inr rfl) (fun hS => ?_)
            refine seqz_take (v := ?_) rfl (by kernel_rfl) (by kernel_rfl) (by kernel_rfl) (by kernel_rfl) (by decide) (Or.inl ⟨by rfl, fun w' hSw => ?_⟩) (by assumption) ?_
            rotate_left
            · go_simp
              with_reducible rfl
            simp only [Act.put, List.setIfInBounds_toArray, List.set_cons_zero, List.set_cons_succ]
            refine seqz_take (v := ?_) rfl (by kernel_rfl) (by kernel_rfl) (by kernel_rfl) (by kernel_rfl) (by decide) (Or.inl ⟨by rfl, fun w' hSw => ?_⟩) (by assumption) ?_
            rotate_left
            · go_simp
              with_reducible rfl
            simp only [Act.put, List.setIfInBounds_toArray, List.set_cons_zero, List.set_cons_succ]
            refine seqz_take (v := ?_) rfl (by kernel_rfl) (by kernel_rfl) (by kernel_rfl) (by kernel_rfl) (by decide) (Or.inl ⟨by rfl, fun w' hSw => ?_⟩) (by assumption) ?_
            rotate_left
            · go_simp
              with_reducible rfl
            simp only [Act.put, List.setIfInBounds_toArray, List.set_cons_zero, List.set_cons_succ]
            refine seqz_take (v := ?_) rfl (by kernel_rfl) (by kernel_rfl) (by kernel_rfl) (by kernel_rfl) (by decide) (Or.inl ⟨by rfl, fun w' hSw => ?_⟩) (by assumption) ?_
            rotate_left
            · go_simp
              with_reducible rfl
            simp only [Act.put, List.setIfInBounds_toArray, List.set_cons_zero, List.set_cons_succ]
            refine seqz_take (v := ?_) rfl (by kernel_rfl) (by kernel_rfl) (by kernel_rfl) (by kernel_rfl) (by decide) (Or.inl ⟨by rfl, fun w' hSw => ?_⟩) (by assumption) ?_
            rotate_left
            · go_simp
              with_reducible rfl
            simp only [Act.put, List.setIfInBounds_toArray, List.set_cons_zero, List.set_cons_succ]
            refine seqz_take (v := ?_) rfl (by kernel_rfl) (by kernel_rfl) (by kernel_rfl) (by kernel_rfl) (by decide) (Or.inl ⟨by rfl, fun w' hSw => ?_⟩) (by assumption) ?_
            rotate_left
            · go_simp
              with_reducible rfl
            simp only [Act.put, List.setIfInBounds_toArray, List.set_cons_zero, List.set_cons_succ]
            refine seqz_take (v := ?_) rfl (by kernel_rfl) (by kernel_rfl) (by kernel_rfl) (by kernel_rfl) (by decide) (Or.inl ⟨by rfl, fun w' hSw => ?_⟩) (by assumption) ?_
            rotate_left
            · go_simp
              with_reducible rfl
            simp only [Act.put, List.setIfInBounds_toArray, List.set_cons_zero, List.set_cons_succ]
            refine seqz_take (v := ?_) rfl (by kernel_rfl) (by kernel_rfl) (by kernel_rfl) (by kernel_rfl) (by decide) (Or.inl ⟨by rfl, fun w' hSw => ?_⟩) (by assumption) ?_
            rotate_left
            · go_simp
              with_reducible rfl
            simp only [Act.put, List.setIfInBounds_toArray, List.set_cons_zero, List.set_cons_succ]
            refine seqz_take (v := ?_) rfl (by kernel_rfl) (by kernel_rfl) (by kernel_rfl) (by kernel_rfl) (by decide) (Or.inl ⟨by rfl, fun w' hSw => ?_⟩) (by assumption) ?_
            rotate_left
            · go_simp
              with_reducible rfl
            simp only [Act.put, List.setIfInBounds_toArray, List.set_cons_zero, List.set_cons_succ]
            refine seqz_take (v := ?_) rfl (by kernel_rfl) (by kernel_rfl) (by kernel_rfl) (by kernel_rfl) (by decide) (Or.inl ⟨by rfl, fun w' hSw => ?_⟩) (by assumption) ?_
            rotate_left
            · go_simp
              with_reducible rfl
            simp only [Act.put, List.setIfInBounds_toArray, List.set_cons_zero, List.set_cons_succ]
            refine seqz_take (v := ?_) rfl (by kernel_rfl) (by kernel_rfl) (by kernel_rfl) (by kernel_rfl) (by decide) (Or.inl ⟨by rfl, fun w' hSw => ?_⟩) (by assumption) ?_
            rotate_left
            · go_simp
              with_reducible rfl
            simp only [Act.put, List.setIfInBounds_toArray, List.set_cons_zero, List.set_cons_succ]
            refine seqz_take (v := ?_) rfl (by kernel_rfl) (by kernel_rfl) (by kernel_rfl) (by kernel_rfl) (by decide) (Or.inl ⟨by rfl, fun w' hSw => ?_⟩) (by assumption) ?_
            rotate_left
            · go_simp
              with_reducible rfl
            simp only [Act.put, List.setIfInBounds_toArray, List.set_cons_zero, List.set_cons_succ]
            refine seqz_take (v := ?_) rfl (by kernel_rfl) (by kernel_rfl) (by kernel_rfl) (by kernel_rfl) (by decide) (Or.inl ⟨by rfl, fun w' hSw => ?_⟩) (by assumption) ?_
            rotate_left
            · go_simp
              with_reducible rfl
            simp only [Act.put, List.setIfInBounds_toArray, List.set_cons_zero, List.set_cons_succ]
            refine seqz_take (v := ?_) rfl (by kernel_rfl) (by kernel_rfl) (by kernel_rfl) (by kernel_rfl) (by decide) (Or.inl ⟨by rfl, fun w' hSw => ?_⟩) (by assumption) ?_
            rotate_left
            · go_simp
              with_reducible rfl
            simp only [Act.put, List.setIfInBounds_toArray, List.set_cons_zero, List.set_cons_succ]
            refine seqz_take (v := ?_) rfl (by kernel_rfl) (by kernel_rfl) (by kernel_rfl) (by kernel_rfl) (by decide) (Or.inl ⟨by rfl, fun w' hSw => ?_⟩) (by assumption) ?_
            rotate_left
            · go_simp
              with_reducible rfl
            simp only [Act.put, List.setIfInBounds_toArray, List.set_cons_zero, List.set_cons_succ]
            refine seqz_last rfl (by kernel_rfl) (by rfl) (by kernel_rfl) ?_
            all_goals skip
            go_simp
            go_wp2_with fail
            go_roundw
            case rel =>
              refine ⟨k + 1, by omega, by omega, by go_num, ?_, ?_, ?_⟩
              · rw [HOT.out, hoth]; simp [HYN.out, show ¬ Y.toNat = 0 from fun h => HYN.out (UInt8.toNat_inj.1 (by simpa using h))]
              · have := OwnB.set (OwnB.drew hO.out) m (by simpa using hml) (X ^^^ Y)
                have e : xr l1 i [b0, b1, b2] (k + 1) = (xr l1 i [b0, b1, b2] k).set m (X ^^^ Y) := by rw [HMM.out, HX.out, HY.out]; rfl
                show OwnB _ _ _ _ _
                rw [e]
                exact this
              · exact Keeps.setCell (p := ⟨g, m, none⟩) hK.out.drew (.inl (by simp)) _
            case measure => simp [intOf]; omega
        ·
          go_wp2_with fail
          refine seqz_start (by kernel_rfl) (fun x => x = wr ∨ x = wr.drew) 15 16 [0, 1, 2, 3, 4, 5, 6, 7, 8, 9, 10, 11, 12, 13, 14, 15] rfl (.inr rfl) (fun hS => ?_)
          refine seqz_take (v := ?_) rfl (by kernel_rfl) (by kernel_rfl) (by kernel_rfl) (by kernel_rfl) (by decide) (Or.inl ⟨by rfl, fun w' hSw => ?_⟩) (by assumption) ?_
          rotate_left
          · go_simp
            with_reducible rfl
          simp only [Act.put, List.setIfInBounds_toArray, List.set_cons_zero, List.set_cons_succ]
          refine seqz_take (v := ?_) rfl (by kernel_rfl) (by kernel_rfl) (by kernel_rfl) (by kernel_rfl) (by decide) (Or.inl ⟨by rfl, fun w' hSw => ?_⟩) (by assumption) ?_
          rotate_left
          · go_simp
            with_reducible rfl
          simp only [Act.put, List.setIfInBounds_toArray, List.set_cons_zero, List.set_cons_succ]
          refine seqz_take (v := ?_) rfl (by kernel_rfl) (by kernel_rfl) (by kernel_rfl) (by kernel_rfl) (by decide) (Or.inl ⟨by rfl, fun w' hSw => ?_⟩) (by assumption) ?_
          rotate_left
          · go_simp
            with_reducible rfl
          simp only [Act.put, List.setIfInBounds_toArray, List.set_cons_zero, List.set_cons_succ]
          refine seqz_take (v := ?_) rfl (by kernel_rfl) (by kernel_rfl) (by kernel_rfl) (by kernel_rfl) (by decide) (Or.inl ⟨by rfl, fun w' hSw => ?_⟩) (by assumption) ?_
          rotate_left
          · go_simp
            with_reducible rfl
          simp only [Act.put, List.setIfInBounds_toArray, List.set_cons_zero, List.set_cons_succ]
          refine seqz_take (v := ?_) rfl (by kernel_rfl) (by kernel_rfl) (by kernel_rfl) (by kernel_rfl) (by decide) (Or.inl ⟨by rfl, fun w' hSw => ?_⟩) (by assumption) ?_
          rotate_left
          · go_simp
            with_reducible rfl
          simp only [Act.put, List.setIfInBounds_toArray, List.set_cons_zero, List.set_cons_succ]
          refine seqz_take (v := ?_) rfl (by kernel_rfl) (by kernel_rfl) (by kernel_rfl) (by kernel_rfl) (by decide) (Or.inl ⟨by rfl, fun w' hSw => ?_⟩) (by assumption) ?_
          rotate_left
          · go_simp
            with_reducible rfl
          simp only [Act.put, List.setIfInBounds_toArray, List.set_cons_zero, List.set_cons_succ]
          refine seqz_take (v := ?_) rfl (by kernel_rfl) (by kernel_rfl) (by kernel_rfl) (by kernel_rfl) (by decide) (Or.inl ⟨by rfl, fun w' hSw => ?_⟩) (by assumption) ?_
          rotate_left
          · go_simp
            with_reducible rfl
          simp only [Act.put, List.setIfInBounds_toArray, List.set_cons_zero, List.set_cons_succ]
          refine seqz_take (v := ?_) rfl (by kernel_rfl) (by kernel_rfl) (by kernel_rfl) (by kernel_rfl) (by decide) (Or.inl ⟨by rfl, fun w' hSw => ?_⟩) (by assumption) ?_
          rotate_left
          · go_simp
            with_reducible rfl
          simp only [Act.put, List.setIfInBounds_toArray, List.set_cons_zero, List.set_cons_succ]
          refine seqz_take (v := ?_) rfl (by kernel_rfl) (by kernel_rfl) (by kernel_rfl) (by kernel_rfl) (by decide) (Or.inl ⟨by rfl, fun w' hSw => ?_⟩) (by assumption) ?_
          rotate_left
          · go_simp
            with_reducible rfl
          simp only [Act.put, List.setIfInBounds_toArray, List.set_cons_zero, List.set_cons_succ]
          refine seqz_take (v := ?_) rfl (by kernel_rfl) (by kernel_rfl) (by kernel_rfl) (by kernel_rfl) (by decide) (Or.inl ⟨by rfl, fun w' hSw => ?_⟩) (by assumption) ?_
          rotate_left
          · go_simp
            with_reducible rfl
          simp only [Act.put, List.setIfInBounds_toArray, List.set_cons_zero, List.set_cons_succ]
          refine seqz_take (v := ?_) rfl (by kernel_rfl) (by kernel_rfl) (by kernel_rfl) (by kernel_rfl) (by decide) (Or.inl ⟨by rfl, fun w' hSw => ?_⟩) (by assumption) ?_
          rotate_left
          · go_simp
            with_reducible rfl
          simp only [Act.put, List.setIfInBounds_toArray, List.set_cons_zero, List.set_cons_succ]
          refine seqz_take (v := ?_) rfl (by kernel_rfl) (by kernel_rfl) (by kernel_rfl) (by kernel_rfl) (by decide) (Or.inl ⟨by rfl, fun w' hSw => ?_⟩) (by assumption) ?_
          rotate_left
          · go_simp
            with_reducible rfl
          simp only [Act.put, List.setIfInBounds_toArray, List.set_cons_zero, List.set_cons_succ]
          refine seqz_take (v := ?_) rfl (by kernel_rfl) (by kernel_rfl) (by kernel_rfl) (by kernel_rfl) (by decide) (Or.inl ⟨by rfl, fun w' hSw => ?_⟩) (by assumption) ?_
          rotate_left
          · go_simp
            with_reducible rfl
          simp only [Act.put, List.setIfInBounds_toArray, List.set_cons_zero, List.set_cons_succ]
          refine seqz_take (v := ?_) rfl (by kernel_rfl) (by kernel_rfl) (by kernel_rfl) (by kernel_rfl) (by decide) (Or.inl ⟨by rfl, fun w' hSw => ?_⟩) (by assumption) ?_
          rotate_left
          · go_simp
            with_reducible rfl
          simp only [Act.put, List.setIfInBounds_toArray, List.set_cons_zero, List.set_cons_succ]
          refine seqz_take (v := ?_) rfl (by kernel_rfl) (by kernel_rfl) (by kernel_rfl) (by kernel_rfl) (by decide) (Or.inl ⟨by rfl, fun w' hSw => ?_⟩) (by assumption) ?_
          rotate_left
          · go_simp
            with_reducible rfl
          simp only [Act.put, List.setIfInBounds_toArray, List.set_cons_zero, List.set_cons_succ]
          refine seqz_last rfl (by kernel_rfl) (by rfl) (by kernel_rfl) ?_
          all_goals skip
          go_simp
          go_wp2_with fail
          go_roundw
          case rel =>
            refine ⟨k + 1, by omega, by omega, by go_num, ?_, ?_, ?_⟩
            · rw [HOT.out, hoth]; rfl
            · have := OwnB.set (OwnB.drew hO.out) m (by simpa using hml) (X ^^^ Y)
              have e : xr l1 i [b0, b1, b2] (k + 1) = (xr l1 i [b0, b1, b2] k).set m (X ^^^ Y) := by rw [HMM.out, HX.out, HY.out]; rfl
              show OwnB _ _ _ _ _
              rw [e]
              exact this
            · exact Keeps.setCell (p := ⟨g, m, none⟩) hK.out.drew (.inl (by simp)) _
          case measure => simp [intOf]; omega
      · have hnear := (near_iff l1 i [b0, b1, b2] k hk3 hik).trans (oth_false [b0, b1, b2] k).symm
        have hxl : (xr l1 i [b0, b1, b2] k).length = l1.length := by simp
        obtain ⟨x, hx⟩ : ∃ x, x = xr l1 i [b0, b1, b2] k := ⟨_, rfl⟩
        obtain ⟨ot, hot⟩ : ∃ ot, ot = oth [b0, b1, b2] k := ⟨_, rfl⟩
        rw [← hx, ← hot] at hnear
        rw [← hx] at hO hxl
        rw [← hot]
        have HNEAR := Lib.hid hnear
        have HXL := Lib.hid hxl
        have hA : ∀ a, A = some a → 0 < l1.length → a.block < w.heap.size := fun a ha h => Rd.lt HR.out (by simpa using h) ha
        have HRr := Lib.hid (((HR.out.alloc (.cells #[.int .u8 (b0.toNat : Int), .int .u8 (b1.toNat : Int), .int .u8 (b2.toNat : Int)] 42 (0, 0))).keeps0 HK1.out).keeps hK.out (fun a ha h => by have := hA a ha h; simp; omega))
        have KR := Lib.hid (show Keeps [] w wr from (((Keeps.refl [] w).alloc (.cells #[.int .u8 (b0.toNat : Int), .int .u8 (b1.toNat : Int), .int .u8 (b2.toNat : Int)] 42 (0, 0))).trans HK1.out (by simp)).trans hK.out (fun t ht => .inr (by simp at ht; omega)))
        have hrg := hmore_range 1 l1 (by omega)
        have hrx := hmore_range 1 x (by omega)
        have HRG := Lib.hid (And.intro hrg hrx)
        have hcond : (¬ (k : Int) < 3) ∨ ((k : Int) < 3 ∧ ¬ (i : Int) + (k : Int) < (l1.length : Int)) := by omega
        clear hnear hx hot hxl hA hrg hrx hgo hK HBY HO1
        rcases hcond with hq | ⟨hq, hq2⟩
        all_goals
          go_wp2_with fail
          refine (seal_any A l1 c wr (by omega) HRr.out).mono ?_
          rintro e w3 ⟨A3, c3, l3, hl3, rfl, ho3, hn3, hk3'⟩
          have hlen3 : l3.length = l1.length + 4 := by rw [hl3.out]; simp [length_hlast]
          obtain ⟨g3, cur3, rfl, _⟩ := ho3.row (by omega)
          have HO3 := Lib.hid ho3
          have HO := Lib.hid (hO.out.keeps0 hk3')
          have HRb := Lib.hid (HRr.out.keeps0 hk3')
          have K3 := Lib.hid (KR.out.trans hk3' (by simp))
          have hcap3 : l3.length ≤ c3 := by obtain ⟨_, _, _, _, h, _⟩ := ho3.row (by omega); exact h
          have hl3i : (l3.length : Int) = (l1.length : Int) + 4 := by omega
          clear ho3 hn3 hk3' hO
          go_wp2_with fail
          have OX := own_any (some ⟨g, 0, none⟩) x c1 w3.drew (by rw [HXL.out]; omega) HO.out.drew.rd
          rw [HXL.out] at OX
          have OXH := Lib.hid OX
          have SX := sum_any (some ⟨g, 0, none⟩) x c1
          rw [HXL.out] at SX
          have SXH := Lib.hid SX
          have j1 : (l1.length : Int) ≤ (l1.length : Int) + 4 := by omega
          have j2 : (l1.length : Int) + 4 ≤ (c3 : Int) := by omega
          have j3 : ¬ c3 = l1.length := by omega
          have j4 : (l1.length : Int) ≤ (c3 : Int) := by omega
          have RL := Lib.hid (show RdB w3 (some ⟨g3, l1.length, none⟩) (hlast (hmore 1 l1)) by
            have h := RdB.behind (l := l3) HO3.out.rd l1.length (by omega) (some ⟨g3, 0 + l1.length, none⟩) (fun _ => rfl)
            rw [Nat.zero_add] at h
            have e : l3.drop l1.length = hlast (hmore 1 l1) := by rw [hl3.out]; simp
            rwa [e] at h)
          clear OX SX hl3i
          refine seq_start (by kernel_rfl) (fun x => Keeps [] w3 x) 13 [0, 1, 2, 3, 4, 5, 6, 7, 8, 9, 10, 11, 12] rfl ((Keeps.refl [] w3).drew) (fun hS => ?_)
          refine seq_take (v := ?_) rfl (by kernel_rfl) (by kernel_rfl) (by kernel_rfl) (Or.inl ⟨by rfl, fun w' hSw => ?_⟩) (by assumption) ?_
          rotate_left
          · go_simp
            with_reducible rfl
          simp only [Act.put, List.setIfInBounds_toArray, List.set_cons_zero, List.set_cons_succ]
          iterate 1 (refine seq_later ?_; simp only [List.cons_append, List.nil_append])
          refine seq_take (v := ?_) rfl (by kernel_rfl) (by kernel_rfl) (by kernel_rfl) (Or.inl ⟨by rfl, fun w' hSw => ?_⟩) (by assumption) ?_
          rotate_left
          · go_simp
            with_reducible rfl
          simp only [Act.put, List.setIfInBounds_toArray, List.set_cons_zero, List.set_cons_succ]
          refine seq_take (v := ?_) rfl (by kernel_rfl) (by kernel_rfl) (by kernel_rfl) (Or.inl ⟨by rfl, fun w' hSw => ?_⟩) (by assumption) ?_
          rotate_left
          · go_simp
            with_reducible rfl
          simp only [Act.put, List.setIfInBounds_toArray, List.set_cons_zero, List.set_cons_succ]
          refine seq_take (v := ?_) rfl (by kernel_rfl) (by kernel_rfl) (by kernel_rfl) (Or.inl ⟨by rfl, fun w' hSw => ?_⟩) (by assumption) ?_
          rotate_left
          · go_simp
            with_reducible rfl
          simp only [Act.put, List.setIfInBounds_toArray, List.set_cons_zero, List.set_cons_succ]
          refine seq_take (v := ?_) rfl (by kernel_rfl) (by kernel_rfl) (by kernel_rfl) (Or.inl ⟨by rfl, fun w' hSw => ?_⟩) (by assumption) ?_
          rotate_left
          · go_simp
            with_reducible rfl
          simp only [Act.put, List.setIfInBounds_toArray, List.set_cons_zero, List.set_cons_succ]
          iterate 7 (refine seq_later ?_; simp only [List.cons_append, List.nil_append])
          refine seq_do rfl (by kernel_rfl) (by rfl) (fun K hK => ?_)
          go_simp
          refine OXH.out.mono ?_
          rintro e w4 ⟨A4, c4, l4, hl4, rfl, ho4, hn4, hk4⟩
          have HO4 := Lib.hid ho4
          have HN4 := Lib.hid hn4
          have K34 := Lib.hid hk4.undrew
          have hx4 : l4.length = l1.length := by rw [hl4.out, HXL.out]
          have HX4 := Lib.hid hx4
          have hb4 : l4.length ≤ 5000 := by omega
          clear ho4 hn4 hk4 hx4
          refine hK.out (fun x => Keeps [] w3 x) _ _ (fun x h => h) K34.out (fun hS => ?_)
          refine seq_do rfl (by kernel_rfl) (by rfl) (fun K hK => ?_)
          refine op_appendB (.tmp 76) (.tmp 80) 22 5 rfl Tryd.underlying22 infoB A4 c4 l4 rfl HO4.out (some ⟨g3, l1.length, none⟩) (c3 - l1.length) (hlast (hmore 1 l1)) (by first | rfl | (rw [length_hlast]; simp) | trace_state) (RL.out.keeps0 K34.out) (by rw [length_hlast]; omega) ?_
          intro A5 c5 w5 l5 hl5 hO5 hk5 hb5
          have HO5 := Lib.hid hO5
          have K35 := Lib.hid (K34.out.fresh hk5 HN4.out)
          have hb5' : l5.length ≤ 6000 := by rw [hl5.out]; simp [length_hlast]; omega
          have hc5 : l5.length ≤ c5 := by obtain ⟨_, _, _, _, h, _⟩ := hO5.row (by rw [hl5.out]; simp [length_hlast]); exact h
          have E5 := Lib.hid (show l5 = x ++ hlast (hmore 1 l1) by rw [hl5.out, hl4.out])
          clear hO5 hk5 hb5
          refine hK.out (fun x => Keeps [] w3 x) _ _ (fun x h => h) K35.out (fun hS => ?_)
          refine seq_do rfl (by kernel_rfl) (by rfl) (fun K hK => ?_)
          go_simp
          refine (open_any A5 l5 c5 w5 (by omega) hc5 HO5.out.rd).mono ?_
          rintro e w6 ⟨A6, c6, l6, hl6, rfl, hr6, hk6⟩
          have K36 := Lib.hid (K35.out.trans hk6 (by simp))
          clear hr6 hk6
          obtain ⟨er, her⟩ : ∃ er, er = (hopen l5).2 := ⟨_, rfl⟩
          rw [← her]
          have HER := Lib.hid her
          clear her
          refine hK.out (fun x => Keeps [] w3 x) _ _ (fun x h => h) K36.out (fun hS => ?_)
          refine seq_take (v := ?_) rfl (by kernel_rfl) (by kernel_rfl) (by kernel_rfl) (Or.inl ⟨by rfl, fun w' hSw => ?_⟩) (by assumption) ?_
          rotate_left
          · go_simp
            with_reducible rfl
          simp only [Act.put, List.setIfInBounds_toArray, List.set_cons_zero, List.set_cons_succ]
          refine seq_take (v := ?_) rfl (by kernel_rfl) (by kernel_rfl) (by kernel_rfl) (Or.inl ⟨by rfl, fun w' hSw => ?_⟩) (by assumption) ?_
          rotate_left
          · go_simp
            with_reducible rfl
          simp only [Act.put, List.setIfInBounds_toArray, List.set_cons_zero, List.set_cons_succ]
          refine seq_take (v := ?_) rfl (by kernel_rfl) (by kernel_rfl) (by kernel_rfl) (Or.inl ⟨by rfl, fun w' hSw => ?_⟩) (by assumption) ?_
          rotate_left
          · go_simp
            with_reducible rfl
          simp only [Act.put, List.setIfInBounds_toArray, List.set_cons_zero, List.set_cons_succ]
          refine seq_take (v := ?_) rfl (by kernel_rfl) (by kernel_rfl) (by kernel_rfl) (Or.inl ⟨by rfl, fun w' hSw => ?_⟩) (by assumption) ?_
          rotate_left
          · go_simp
            with_reducible rfl
          simp only [Act.put, List.setIfInBounds_toArray, List.set_cons_zero, List.set_cons_succ]
          refine seq_take (v := ?_) rfl (by kernel_rfl) (by kernel_rfl) (by kernel_rfl) (Or.inl ⟨by rfl, fun w' hSw => ?_⟩) (by assumption) ?_
          rotate_left
          · go_simp
            with_reducible rfl
          simp only [Act.put, List.setIfInBounds_toArray, List.set_cons_zero, List.set_cons_succ]
          refine seq_done (by kernel_rfl) ?_
          all_goals skip
          clear hS
          have HG6 := Lib.hid (HG.out.keeps (K3.out.trans K36.out (by simp)) (by simp))
          have RX6 := Lib.hid (HO.out.rd.keeps0 K36.out)
          have RB6 := Lib.hid (HRb.out.keeps0 K36.out)
          have KE := Lib.hid (K3.out.trans K36.out (by simp))
          cases ot
          · have hs : hmore 1 x = hmore 1 l1 := HNEAR.out.2 rfl
            have he : er = 0 := by rw [HER.out, E5.out, ← hs, hopen_sealed]
            subst he
            rw [errV_zero]
            have HS := Lib.hid hs
            clear hs
            go_wp2_with fail
            refine (SXH.out w6 hl RX6.out).mono ?_
            rintro e w' ⟨rfl, rfl⟩
            rw [HS.out]
            go_wp2_with fail
            refine (sum_any A l1 c _ (by omega) RB6.out).mono ?_
            rintro e w' ⟨rfl, rfl⟩
            go_wp2_with fail
            refine (sure_any _).mono ?_
            rintro e w7 ⟨rfl, hk7⟩
            go_wp2_with fail
            go_ret
            exact ⟨rfl, KEEP.out _ (KE.out.trans hk7 (by simp))⟩
          · have hs : ¬ hmore 1 x = hmore 1 l1 := fun h => by have := HNEAR.out.1 h; cases this
            have he : er = 11 := by
              rw [HER.out, E5.out, hopen_bad rfl]
              intro h
              have := HRG.out
              exact hs (hlast_inj (by omega) (by omega) h)
            subst he
            rw [errV_other (by decide)]
            obtain ⟨S1, hS1⟩ : ∃ S1, S1 = hmore 1 x := ⟨_, rfl⟩
            obtain ⟨S2, hS2⟩ : ∃ S2, S2 = hmore 1 l1 := ⟨_, rfl⟩
            rw [← hS1, ← hS2] at hs
            have hbne : (S1 != S2) = true := by simp [hs]
            have HS1 := Lib.hid hS1
            have HS2 := Lib.hid hS2
            clear hS1 hS2
            go_wp2_with fail
            refine (SXH.out w6 hl RX6.out).mono ?_
            rintro e w' ⟨rfl, rfl⟩
            rw [← HS1.out]
            go_wp2_with fail
            refine (sum_any A l1 c _ (by omega) RB6.out).mono ?_
            rintro e w' ⟨rfl, rfl⟩
            rw [← HS2.out]
            go_wp2_with fail
            have hnum := num_err 11 w6 HG6.out
            refine hnum.mono ?_
            rintro e w7 ⟨rfl, hk7⟩
            go_wp2_with fail
            refine (sure_any _).mono ?_
            rintro e w8 ⟨rfl, hk8⟩
            go_wp2_with fail
            go_ret
            exact ⟨rfl, KEEP.out _ ((KE.out.trans hk7 (by simp)).trans hk8 (by simp))⟩
end Go.Proofs.YtpflfbenadgknaaDoor
