/- The law on whatever is put: called with any entries and any keys it answers true. -/
import Derived.Test.YtaedmafmflohiaaMemRangesC
namespace Go.Proofs.Ytaedmafmflohiaa
open Go.RowKit

theorem nput_any (e : En) (w : World) : Calls Try.prog 9 #[.pointer none, e.val] w fun r w' => r = .returned (.tuple #[]) ∧ Keeps [] w w' := by
  obtain ⟨k, v, g⟩ := e
  unfold En.val
  go_enter Try.func9, Try.ntmps9
  go_wp2_with fail
  (try simp only [Exit.inBlock, Exit.then])
  refine bodyPost_ret (results_none rfl _ _ _) rfl ?_
  exact ⟨rfl, (Keeps.refl [] w).alloc _⟩
theorem nclear_any (w : World) : Calls Try.prog 19 #[.pointer none] w fun r w' => r = .returned (.tuple #[]) ∧ w = w' := by
  go_enter Try.func19, Try.ntmps19
  go_wp2_with fail
  go_end0
  exact ⟨rfl, rfl⟩
theorem nget_any (s : ByteArray) (w : World) : Calls Try.prog 15 #[.pointer none, .string s] w fun r w' => r = .returned (.tuple #[.agg #[.string ⟨#[]⟩, .string ⟨#[]⟩, .bool false], .bool false]) ∧ Keeps [] w w' := by
  obtain ⟨gr, hgr⟩ : ∃ gr, gr = w.heap.size := ⟨_, rfl⟩
  obtain ⟨W0, hW0⟩ : ∃ W0, W0 = w.alloc (.cells #[.string ⟨#[]⟩, .string ⟨#[]⟩, .bool false] 27) := ⟨_, rfl⟩
  have H0 := Lib.hid (show W0.heap[gr]? = some (.cells #[.string ⟨#[]⟩, .string ⟨#[]⟩, .bool false] 27 (0, 0)) ∧ Keeps [] w W0 from by
    have hka : Keeps [] w W0 := by rw [hW0]; exact (Keeps.refl [] w).alloc _
    exact ⟨by rw [hW0, hgr]; exact heap_alloc_new _ _, hka⟩)
  have HW0 := Lib.hid (And.intro hW0 hgr)
  have z0 : W0.cell? ⟨gr, 0, none⟩ = some (.string ⟨#[]⟩) := by rw [cell_of_row _ _ _ _ _ _ H0.out.1]; rfl
  have z1 : W0.cell? ⟨gr, 1, none⟩ = some (.string ⟨#[]⟩) := by rw [cell_of_row _ _ _ _ _ _ H0.out.1]; rfl
  have z2 : W0.cell? ⟨gr, 2, none⟩ = some (.bool false) := by rw [cell_of_row _ _ _ _ _ _ H0.out.1]; rfl
  have fz : ∀ j, W0.frozen? ⟨gr, j, none⟩ = false := fun j => frozen_of_row W0 _ j _ _ H0.out.1
  clear hgr hW0
  go_enter Try.func15, Try.ntmps15
  go_upto_region 1 with fail
  rw [← HW0.out.1, ← HW0.out.2]
  go_wp2_with fail
  (try simp only [Exit.inBlock, Exit.then])
  have hks : Keeps [gr] W0 (((W0.setCell ⟨gr, 0, none⟩ (.string ⟨#[]⟩)).setCell ⟨gr, 1, none⟩ (.string ⟨#[]⟩)).setCell ⟨gr, 2, none⟩ (.bool false)) := (((Keeps.refl [gr] W0).setCell (p := ⟨gr, 0, none⟩) (.inl (by simp)) _).setCell (p := ⟨gr, 1, none⟩) (.inl (by simp)) _).setCell (p := ⟨gr, 2, none⟩) (.inl (by simp)) _
  have hrw : (((W0.setCell ⟨gr, 0, none⟩ (.string ⟨#[]⟩)).setCell ⟨gr, 1, none⟩ (.string ⟨#[]⟩)).setCell ⟨gr, 2, none⟩ (.bool false)).heap[gr]? = some (.cells #[.string ⟨#[]⟩, .string ⟨#[]⟩, .bool false] 27 (0, 0)) := by
    rw [heap_setCell_same _ gr 2 _ _ _ (heap_setCell_same _ gr 1 _ _ _ (heap_setCell_same _ gr 0 _ _ _ H0.out.1))]
    rfl
  refine bodyPost_ret (v := .tuple #[.agg #[.string ⟨#[]⟩, .string ⟨#[]⟩, .bool false], .bool false]) (results_cell_tmp2 Try.results15 _ _ gr 27 _ (0, 0) _ _ rfl rfl hrw Try.underlying27 rfl infoEn3) rfl ?_
  exact ⟨rfl, H0.out.2.trans hks (fun t ht => .inr (by simp at ht; have := HW0.out.2; omega))⟩
theorem nlen_any (w : World) : Calls Try.prog 20 #[.pointer none] w fun r w' => r = .returned (.int .i64 0) ∧ w = w' := by
  go_enter Try.func20, Try.ntmps20
  go_wp2_with fail
  go_ret
  exact ⟨rfl, rfl⟩
theorem nsize_any (w : World) : Calls Try.prog 18 #[.pointer none] w fun r w' => r = .returned (.int .i64 0) ∧ w = w' := by
  go_enter Try.func18, Try.ntmps18
  go_wp2_with fail
  go_ret
  exact ⟨rfl, rfl⟩
theorem nrange_any (a b : ByteArray) (w : World) : Calls Try.prog 12 #[.pointer none, .string a, .string b] w fun r w' => r = .returned (.slice none 0 0) ∧ w = w' := by
  go_enter Try.func12, Try.ntmps12
  go_wp2_with fail
  go_ret
  exact ⟨rfl, rfl⟩
theorem nentries_any (w : World) : Calls Try.prog 16 #[.pointer none] w fun r w' => r = .returned (.slice none 0 0) ∧ w = w' := by
  go_enter Try.func16, Try.ntmps16
  go_wp2_with fail
  refine (nrange_any _ _ w).mono ?_
  rintro r w1 ⟨rfl, rfl⟩
  go_wp2_with fail
  go_ret
  exact ⟨rfl, rfl⟩
theorem clear_any (g : Nat) (A : Option Addr) (c : Nat) (l : List En) (w : World) (hm : MemS w g A c l) : Calls Try.prog 19 #[.pointer (some ⟨g, 0, none⟩)] w fun r w' => r = .returned (.tuple #[]) ∧ MemS w' g none 0 [] ∧ Keeps [g] w w' := by
  have HM := Lib.hid hm
  have q0 := hm.cells.1
  have q1 := hm.cells.2
  have fz : ∀ j, w.frozen? ⟨g, j, none⟩ = false := fun j => frozen_of_row w _ j _ _ hm.1
  clear hm
  go_enter Try.func19, Try.ntmps19
  go_wp2_with fail
  go_end0
  refine ⟨rfl, ⟨?_, World.ownsRow_nil _ _ _ _, by simp⟩, ((Keeps.refl [g] w).setCell (p := ⟨g, 0, none⟩) (.inl (by simp)) _).setCell (p := ⟨g, 1, none⟩) (.inl (by simp)) _⟩
  rw [heap_setCell_same _ g 1 _ _ _ (heap_setCell_same w g 0 _ _ _ HM.out.1)]
  rfl
set_option maxRecDepth 100000 in
set_option maxHeartbeats 32000000 in
theorem mruns_any (A : Option Addr) (c : Nat) (l : List En) (a b : List UInt8) (w : World) (hr : Rd w A l.length 3 (encEn l)) (hok : EnOk l) :
    Calls Try.prog 6 #[.slice A l.length c, .string (strB a), .string (strB b)] w fun r w' => r = .returned (.bool true) ∧ Keeps [] w w' := by
  have HRD := Lib.hid hr
  have HOK := Lib.hid hok
  obtain ⟨N, hN⟩ : ∃ N, N = l.length := ⟨_, rfl⟩
  have HN := Lib.hid hN
  rw [← hN]
  clear hr hok hN
  go_enter Try.func6, Try.ntmps6
  go_wp2_with fail
  refine (mnew_any w).mono ?_
  rintro r w1 ⟨g, rfl, hm1, hk1, hg1⟩
  have H1 := Lib.hid (show MemW w w1 g none none 0 0 (putsE (enAt l) 0) from ⟨hm1, World.ownsRow_nil _ _ _ _, hk1, hg1, by simp, by simp⟩)
  clear hm1 hk1 hg1
  go_wp2_with fail
  refine (nput_any ⟨[97], [], false⟩ w1).mono ?_
  rintro r w2 ⟨rfl, hk2⟩
  have H2 := Lib.hid (H1.out.keeps0 hk2)
  clear hk2 H1
  go_wp2_with fail
  refine (nclear_any w2).mono ?_
  rintro r w3 ⟨rfl, rfl⟩
  go_wp2_with fail
  refine (nget_any _ w2).mono ?_
  rintro r w3 ⟨rfl, hk3⟩
  have H3 := Lib.hid ((H2.out.keeps0 hk3).keeps0 ((Keeps.refl [] w3).alloc (.cells #[.string ⟨#[]⟩, .string ⟨#[]⟩, .bool false] 27)))
  clear hk3 H2
  go_wp2_with fail
  generalize w3.alloc (.cells #[.string ⟨#[]⟩, .string ⟨#[]⟩, .bool false] 27) = w4 at H3 ⊢
  refine (nlen_any w4).mono ?_
  rintro r w5 ⟨rfl, rfl⟩
  go_wp2_with fail
  refine (nsize_any w4).mono ?_
  rintro r w5 ⟨rfl, rfl⟩
  go_wp2_with fail
  refine (nentries_any w4).mono ?_
  rintro r w5 ⟨rfl, rfl⟩
  have INV := Lib.hid H3.out
  clear H3
  go_wp2_with fail
  go_loopw [11, 12] (fun so si wr => ∃ (i : Nat) (L : List En) (A1 B : Option Addr) (c1 d : Nat), si = .int .i64 i ∧ so = .slice B L.length d ∧ i ≤ 60 ∧ Hid (L = putsE (enAt l) i) ∧ Hid (MemW w wr g A1 B c1 d L)) (fun _ si _ => 60 - (intOf si).toNat)
  case atStart => exact ⟨0, [], none, none, 0, 0, rfl, rfl, by omega, rfl, INV.out⟩
  case round =>
    clear INV
    obtain ⟨i, L, A1, B, c1, d, rfl, rfl, hi, hL, hinv⟩ := hrel
    have HLL := Lib.hid (show Srt L ∧ L.length ≤ i ∧ EnOk L from by rw [hL.out]; exact ⟨puts_srt _ _, puts_len _ _, puts_ok l HOK.out i⟩)
    by_cases hgo : i < N ∧ i < 60
    · have hik : (i : Int) < (N : Int) := by omega
      have hi60 : (i : Int) < 60 := by omega
      have HIL := Lib.hid (show i < l.length ∧ i < 60 from by have := HN.out; omega)
      obtain ⟨ga, o, hA, k0, k1, k2⟩ := en_cells (HRD.out.keeps0 hinv.out.kp) (i := i) HIL.out.1
      rw [enAt_get] at k0 k1 k2
      obtain ⟨e, he⟩ : ∃ e, e = enAt l i := ⟨_, rfl⟩
      rw [← he] at k0 k1 k2
      have HE := Lib.hid he
      subst hA
      clear he hgo
      go_wp2_with fail
      have HPT := put_any g A1 c1 L e wr hinv.out.ms HLL.out.1 HLL.out.2.2 (by rw [HE.out]; exact (enAt_ok HOK.out i).1) (by rw [HE.out]; exact (enAt_ok HOK.out i).2) (by have := HLL.out.2.1; have := HIL.out; omega)
      unfold En.val at HPT
      refine HPT.mono ?_
      clear HPT
      intro r w6 hp
      obtain ⟨rfl, A3, c3, h3⟩ := hinv.out.put hp
      have H3 := Lib.hid h3
      obtain ⟨ga', o', hA', m0, m1, m2⟩ := en_cells (HRD.out.keeps0 h3.kp) (i := i) HIL.out.1
      obtain ⟨rfl, rfl⟩ : ga = ga' ∧ o = o' := by injection hA' with e1; injection e1 with e2 e3; exact ⟨e2, e3⟩
      rw [enAt_get, ← HE.out] at m0 m1 m2
      clear hp h3 hA' k0 k1 k2 hinv
      go_wp2_with fail
      have HRP := rput_any B d L e w6 (Rd.of_own H3.out.ow) (own_cap H3.out.ow) (by have := HLL.out.2.1; have := HIL.out; omega)
      unfold En.val at HRP
      refine HRP.mono ?_
      clear HRP
      intro r w7 hp
      obtain ⟨B4, d4, rfl, h4⟩ := H3.out.put hp
      have H4 := Lib.hid h4
      have HL4 := Lib.hid (show putE L e = putsE (enAt l) (i + 1) from by rw [hL.out, HE.out]; rfl)
      have HOK4 := Lib.hid (show EnOk (putE L e) ∧ (putE L e).length ≤ 10000 from by rw [HL4.out]; exact ⟨puts_ok l HOK.out _, by have := puts_len (enAt l) (i + 1); have := HIL.out; omega⟩)
      obtain ⟨L4, hL4⟩ : ∃ L4, L4 = putE L e := ⟨_, rfl⟩
      rw [← hL4] at H4 HL4 HOK4 ⊢
      clear hp h4 H3 m0 m1 m2 hL4
      go_wp2_with fail
      refine (len_any g A3 c3 L4 w7 H4.out.ms).mono ?_
      rintro r w8 ⟨rfl, rfl⟩
      go_wp2_with fail
      refine (size_any g A3 c3 L4 w7 H4.out.ms).mono ?_
      rintro r w8 ⟨rfl, rfl⟩
      go_wp2_with fail
      refine (rsize_any B4 d4 L4 w7 H4.out.rd HOK4.out.1 HOK4.out.2).mono ?_
      rintro r w8 ⟨rfl, hk8⟩
      have H5 := Lib.hid (H4.out.keeps0 hk8)
      clear hk8 H4
      go_wp2_with fail
      go_roundw
      case rel => exact ⟨i + 1, L4, A3, B4, c3, d4, by go_num, rfl, by have := HIL.out; omega, HL4.out, H5.out⟩
      case measure => have := HIL.out; simp [intOf]; omega
    · have HLX := Lib.hid (show L.length ≤ 60 from by have := HLL.out.2.1; omega)
      rcases (show (¬ (i : Int) < (N : Int)) ∨ ((i : Int) < (N : Int) ∧ ¬ (i : Int) < 60) from by omega) with hj1 | ⟨hj1, hj2⟩
      all_goals
        clear hgo hL
        go_wp2_with fail
        refine (get_any g A1 c1 L a wr hinv.out.ms HLL.out.1 (by have := HLX.out; omega)).mono ?_
        rintro r w6 ⟨rfl, hk6⟩
        unfold getV
        obtain ⟨x, hx⟩ : ∃ x, x = (getE L a).getD zeroE := ⟨_, rfl⟩
        obtain ⟨bb, hbb⟩ : ∃ bb, bb = (getE L a).isSome := ⟨_, rfl⟩
        rw [← hx, ← hbb]
        have HX := Lib.hid (And.intro hx hbb)
        have fbb : (bb != bb) = false := by simp
        unfold En.val
        have hka6 : Keeps [] w6 (w6.alloc (.cells #[.string (strB x.k), .string (strB x.v), .bool x.g] 27)) := (Keeps.refl [] w6).alloc _
        obtain ⟨g6, hg6⟩ : ∃ g6, g6 = w6.heap.size := ⟨_, rfl⟩
        have H6 := Lib.hid (show MemW w (w6.alloc (.cells #[.string (strB x.k), .string (strB x.v), .bool x.g] 27)) g A1 B c1 d L ∧ (w6.alloc (.cells #[.string (strB x.k), .string (strB x.v), .bool x.g] 27)).heap[g6]? = some (.cells #[.string (strB x.k), .string (strB x.v), .bool x.g] 27 (0, 0)) from ⟨(hinv.out.keeps0 hk6).keeps0 hka6, by rw [hg6]; exact heap_alloc_new _ _⟩)
        have HG6 := Lib.hid hg6
        clear hx hbb hk6 hka6 hg6 hinv
        go_wp2_with fail
        rw [← HG6.out]
        generalize w6.alloc (.cells #[.string (strB x.k), .string (strB x.v), .bool x.g] 27) = w7 at H6 ⊢
        refine (rget_any B d L a w7 H6.out.1.rd (by have := HLX.out; omega)).mono ?_
        rintro r w8 ⟨rfl, hk8⟩
        unfold getV
        rw [← HX.out.1, ← HX.out.2]
        unfold En.val
        have hka8 : Keeps [] w8 (w8.alloc (.cells #[.string (strB x.k), .string (strB x.v), .bool x.g] 27)) := (Keeps.refl [] w8).alloc _
        obtain ⟨g8, hg8⟩ : ∃ g8, g8 = w8.heap.size := ⟨_, rfl⟩
        have H8 := Lib.hid (show MemW w (w8.alloc (.cells #[.string (strB x.k), .string (strB x.v), .bool x.g] 27)) g A1 B c1 d L ∧ (w8.alloc (.cells #[.string (strB x.k), .string (strB x.v), .bool x.g] 27)).heap[g6]? = some (.cells #[.string (strB x.k), .string (strB x.v), .bool x.g] 27 (0, 0)) ∧ (w8.alloc (.cells #[.string (strB x.k), .string (strB x.v), .bool x.g] 27)).heap[g8]? = some (.cells #[.string (strB x.k), .string (strB x.v), .bool x.g] 27 (0, 0)) from
          ⟨(H6.out.1.keeps0 hk8).keeps0 hka8, ((hk8.trans hka8 (by simp)).block g6 (lt_of_block H6.out.2) (by simp)).trans H6.out.2, by rw [hg8]; exact heap_alloc_new _ _⟩)
        have HG8 := Lib.hid hg8
        clear hk8 hka8 hg8 H6
        go_upto_region 18 with fail
        rw [← HG8.out]
        generalize w8.alloc (.cells #[.string (strB x.k), .string (strB x.v), .bool x.g] 27) = w9 at H8 ⊢
        have a0 : w9.cell? ⟨g6, 0, none⟩ = some (.string (strB x.k)) := by rw [cell_of_row _ _ _ _ _ _ H8.out.2.1]; rfl
        have a1 : w9.cell? ⟨g6, 1, none⟩ = some (.string (strB x.v)) := by rw [cell_of_row _ _ _ _ _ _ H8.out.2.1]; rfl
        have a2 : w9.cell? ⟨g6, 2, none⟩ = some (.bool x.g) := by rw [cell_of_row _ _ _ _ _ _ H8.out.2.1]; rfl
        have b0 : w9.cell? ⟨g8, 0, none⟩ = some (.string (strB x.k)) := by rw [cell_of_row _ _ _ _ _ _ H8.out.2.2]; rfl
        have b1 : w9.cell? ⟨g8, 1, none⟩ = some (.string (strB x.v)) := by rw [cell_of_row _ _ _ _ _ _ H8.out.2.2]; rfl
        have b2 : w9.cell? ⟨g8, 2, none⟩ = some (.bool x.g) := by rw [cell_of_row _ _ _ _ _ _ H8.out.2.2]; rfl
        go_wp2_with fail
        refine (entries_any g A1 c1 L w9 H8.out.1.ms HLL.out.1 (by have := HLX.out; omega)).mono ?_
        rintro r w10 ⟨A10, c10, rfl, ho10, hk10, _⟩
        have H10 := Lib.hid (And.intro (H8.out.1.keeps0 hk10) (Rd.of_own ho10))
        clear ho10 hk10 H8 a0 a1 a2 b0 b1 b2 fbb
        go_wp2_with fail
        refine (entries_same _ A10 B c10 d w10 H10.out.2 H10.out.1.rd (by have := HLX.out; omega)).mono ?_
        rintro r w11 ⟨rfl, hk11⟩
        have H11 := Lib.hid (H10.out.1.keeps0 hk11)
        clear hk11 H10
        go_wp2_with fail
        refine (range_any g A1 c1 L a b w11 H11.out.ms HLL.out.1 (by have := HLX.out; omega)).mono ?_
        rintro r w12 ⟨A3, c3, rfl, ho3, hk3, _⟩
        rw [rangeE_filter HLL.out.1] at ho3 ⊢
        have H12 := Lib.hid (And.intro (H11.out.keeps0 hk3) (Rd.of_own ho3))
        clear ho3 hk3 H11
        go_wp2_with fail
        refine (rrange_any B d L a b w12 H12.out.1.rd (by have := HLX.out; omega)).mono ?_
        rintro r w13 ⟨A4, c4, rfl, ho4, hk4, _⟩
        have H13 := Lib.hid (And.intro (H12.out.1.keeps0 hk4) (And.intro (H12.out.2.keeps0 hk4) (Rd.of_own ho4)))
        have HFL := Lib.hid (show (L.filter (inR a b)).length ≤ 1000000 from by have := List.length_filter_le (inR a b) L; have := HLX.out; omega)
        clear ho4 hk4 H12
        go_wp2_with fail
        refine (entries_same _ A3 A4 c3 c4 w13 H13.out.2.1 H13.out.2.2 HFL.out).mono ?_
        rintro r w14 ⟨rfl, hk14⟩
        have H14 := Lib.hid (H13.out.1.keeps0 hk14)
        clear hk14 H13
        go_wp2_with fail
        refine (clear_any g A1 c1 L w14 H14.out.ms).mono ?_
        rintro r w15 ⟨rfl, hm15, hk15⟩
        have H15 := Lib.hid (show MemS w15 g none 0 [] ∧ Keeps [] w w15 from ⟨hm15, H14.out.kp.trans hk15 (fun t ht => .inr (by simp at ht; subst ht; exact H14.out.g0))⟩)
        clear hm15 hk15 H14
        go_wp2_with fail
        refine (len_any g none 0 [] w15 H15.out.1).mono ?_
        rintro r w16 ⟨rfl, rfl⟩
        rw [show (([] : List En).length : Int) = 0 from rfl]
        go_wp2_with fail
        refine (size_any g none 0 [] w15 H15.out.1).mono ?_
        rintro r w16 ⟨rfl, rfl⟩
        rw [show ((sizeE [] : Nat) : Int) = 0 from rfl]
        go_wp2_with fail
        refine (entries_any g none 0 [] w15 H15.out.1 List.Pairwise.nil (by decide)).mono ?_
        rintro r w16 ⟨A16, c16, rfl, _, hk16, _⟩
        have H16 := Lib.hid (H15.out.2.trans hk16 (by simp))
        rw [show ([] : List En).length = 0 from rfl]
        clear hk16 H15
        go_wp2_with fail
        refine (msure_any w16).mono ?_
        rintro r w17 ⟨rfl, hk17⟩
        have H17 := Lib.hid (H16.out.trans hk17 (by simp))
        clear hk17
        go_wp2_with fail
        go_ret
        exact ⟨rfl, H17.out⟩
theorem mruns_row (A : Option Addr) (c : Nat) (xs : List (ByteArray × ByteArray × Bool × Unit)) (a b : ByteArray) (w : World) (hok : (K.slice 40 KE).ok w ((A, c), xs)) :
    Calls Try.prog 6 #[.slice A xs.length c, .string a, .string b] w fun e w' => e = .returned (.bool true) ∧ Below w.heap.size w w' := by
  obtain ⟨h1, h2, h3, _⟩ := read_en hok
  rw [← h1]
  exact (mruns_any A c _ a.data.toList b.data.toList w h2 h3).mono fun _ _ h => ⟨h.1, h.2.below (Nat.le_refl _) (by simp)⟩
end Go.Proofs.Ytaedmafmflohiaa
