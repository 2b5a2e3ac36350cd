/- The theorem of stage 2: called with any things (of bulk at most 1048576) PackBack answers true. -/
import Derived.Test.YtficgbeolmdbiaaPackThings
import Derived.Test.YtficgbeolmdbiaaPackSure
import Derived.Test.YtficgbeolmdbiaaPackBackP
namespace Go.Proofs.Ytficgbeolmdbiaa
open Go.RowKit

/-- Between two rounds of the first loop. -/
def LayInv (w : World) (s : List UInt8) (wr : World) : Prop := ∃ A c out, Hid (out = s) ∧ Wr wr w.heap.size A c out ∧ Keeps [] w wr ∧ (∀ a, A = some a → w.heap.size ≤ a.block)
theorem LayInv.step {w wr w1 : World} {A : Option Addr} {s : List UInt8} {en : Ending} (hn : ∀ a, A = some a → w.heap.size ≤ a.block) (hk : Keeps [] w wr) (h : WrPost w.heap.size A s wr en w1) : en = .returned (.pointer (some ⟨w.heap.size, 0, none⟩)) ∧ LayInv w s w1 := by
  obtain ⟨he, A1, c1, out1, ho1, hw1, hk1, hn1⟩ := h.step
  refine ⟨he, A1, c1, out1, ho1, hw1, Keeps.wr hk (Nat.le_refl _) hk1 hn, fun a ha => ?_⟩
  rcases hn1 a ha with h | h
  · obtain ⟨a1, e3, e4⟩ := mem_blk.1 h
    have := hn a1 e3
    omega
  · have := hk.size; omega
/-- What is still to come. -/
theorem thsB_drop (xs : List Th) (j m : Nat) (hj : j < m) (hm : m ≤ xs.length) : thsB ((xs.take m).drop j) = (xs[j]'(by omega)).spec ++ thsB ((xs.take m).drop (j + 1)) := by
  rw [List.drop_eq_getElem_cons (by simp; omega)]
  simp [thsB]
/-- Between two rounds of the second loop: what the reader has left. -/
def TakeInv (w : World) (g : Nat) (s : List UInt8) (wr : World) : Prop := ∃ A c l, Hid (l = s) ∧ Rdr wr g A c l 0 ∧ Keeps [] w wr ∧ w.heap.size ≤ g ∧ (∀ a, A = some a → w.heap.size ≤ a.block)
theorem TakeInv.kw {w wr : World} {g : Nat} {s : List UInt8} (h : TakeInv w g s wr) : Keeps [] w wr := by
  obtain ⟨_, _, _, _, _, h1, _⟩ := h
  exact h1
theorem TakeInv.step {w wr w1 : World} {g : Nat} {A : Option Addr} {s : List UInt8} {v : Value} {en : Ending} (hg : w.heap.size ≤ g) (hn : ∀ a, A = some a → w.heap.size ≤ a.block) (hk : Keeps [] w wr) (h : RdPost g A s 0 v wr en w1) : en = .returned v ∧ TakeInv w g s w1 ∧ Keeps [g] wr w1 := by
  obtain ⟨A', c', l', hl, he, hr, hk1, hb⟩ := h
  refine ⟨he, ⟨A', c', l', hl, hr, hk.trans hk1 (fun t ht => .inr (by simp at ht; omega)), hg, fun a ha => ?_⟩, hk1⟩
  obtain ⟨b, e1, e2⟩ := mem_blk.1 (hb a ha)
  rw [← e2]; exact hn b e1
theorem TakeInv.stepB {w wr w1 : World} {g : Nat} {A : Option Addr} {r : List UInt8 × Int × List UInt8} {en : Ending} (hg : w.heap.size ≤ g) (hn : ∀ a, A = some a → w.heap.size ≤ a.block) (hk : Keeps [] w wr) (he : r.2.1 = 0) (h : BytP g A r wr en w1) :
    ∃ A2 c2 t, en = .returned (.slice A2 t.length c2) ∧ Hid (t = r.2.2) ∧ RdB w1 A2 t ∧ TakeInv w g r.1 w1 ∧ Keeps [g] wr w1 := by
  obtain ⟨A', c', l', A2, c2, t, e, hl, ht, hr, ho, _, hk1, hb⟩ := h
  rw [he] at hr
  refine ⟨A2, c2, t, e, ht, ho.rd, ⟨A', c', l', hl, hr, hk.trans hk1 (fun t ht => .inr (by simp at ht; omega)), hg, fun a ha => ?_⟩, hk1⟩
  obtain ⟨b, e1, e2⟩ := mem_blk.1 (hb a ha)
  rw [← e2]; exact hn b e1
theorem TakeInv.keeps0 {w wr w' : World} {g : Nat} {s : List UInt8} (h : TakeInv w g s wr) (hk : Keeps [] wr w') : TakeInv w g s w' := by
  obtain ⟨A, c, l, hl, hr, h1, h2, h3⟩ := h
  exact ⟨A, c, l, hl, hr.keeps0 hk, h1.trans hk (by simp), h2, h3⟩

theorem guard_print : Try.prog.eqGuardType Try.prog.depth 33 = false := by kernel_rfl
theorem one_thing {w : World} {x : Th} (h : x.fine w) : ∀ u ∈ (K.st KTh).cells x, u.oneCell' = true := by
  rw [h.cells]
  intro u hu
  simp only [List.mem_cons] at hu
  rcases hu with rfl | rfl | rfl | hu
  · rfl
  · rfl
  · rfl
  · exact encB_one _ u hu

set_option maxHeartbeats 16000000 in
set_option maxRecDepth 100000 in
theorem law_any (A0 : Option Addr) (c0 : Nat) (xs : List Th) (w : World) (hok : (K.slice 72 (K.st KTh)).ok w ((A0, c0), xs)) (hbk : (K.slice 72 (K.st KTh)).bulk ((A0, c0), xs) ≤ 1048576) :
    Calls Try.prog 5 #[.slice A0 xs.length c0] w fun e w' => e = .returned (.bool true) ∧ Below w.heap.size w w' := by
  have keep : ∀ w', Keeps [] w w' → Below w.heap.size w w' := fun w' h => h.below (Nat.le_refl _) (by simp)
  obtain ⟨hcap, hsz, hrd, hels⟩ := hok
  have hfine : ∀ x ∈ xs, x.fine w := fun x hx => Th.fine_of (hels x hx)
  have hbl : ∀ x ∈ xs, x.b.length ≤ 1048576 ∧ x.p.length = 32 := by
    intro x hx
    refine ⟨?_, (hfine x hx).p32⟩
    have h1 : (K.st KTh).bulk x ≤ 1048576 := Nat.le_trans (bulk_mem hx) hbk
    have h2 : (K.slice 1 (K.int .u8)).bulk x.2.2.1 ≤ (K.st KTh).bulk x := by
      show _ ≤ 1 + (1 + (_ + _))
      omega
    have h3 : (K.slice 1 (K.int .u8)).bulk x.2.2.1 = x.b.length := by
      rw [Th.b, length_toB]; exact bulk_ints _
    omega
  have hlen : xs.length ≤ 1048576 := Nat.le_trans (bulk_len (k := K.st KTh) (fun y => by show 1 ≤ 1 + _; omega) xs) hbk
  have hel : 0 < xs.length → ∃ g o, A0 = some ⟨g, o, none⟩ ∧ g < w.heap.size ∧ ∀ i (hi : i < xs.length), w.rangeAt g (o + i * 35) ((K.st KTh).cells xs[i]) := fun h => Rd.elems hrd (fun x hx => (hfine x hx).length) (by decide) h
  have KEEP := Lib.hid keep
  have FINE := Lib.hid hfine
  have EL := Lib.hid hel
  have LEN := Lib.hid (fun j => length_thsB xs 1048576 hbl j)
  have BL := Lib.hid hbl
  clear keep hcap hsz hrd hels hfine hbk hbl hel
  go_enter Try.func5, Try.ntmps5
  go_wp2_with fail
  refine (new_any _).mono ?_
  rintro e w1 ⟨rfl, hw1, hk1⟩
  have INV := Lib.hid (show LayInv w (thsB (xs.take 0)) w1 from ⟨none, 0, [], by show [] = _; simp [thsB], hw1, hk1, by simp⟩)
  clear hw1 hk1
  go_wp2_with fail
  go_loopw [3, 4] (fun v i wr => ∃ j : Nat, j ≤ xs.length ∧ j ≤ 200 ∧ i = .int .i64 j ∧ v = .pointer (some ⟨w.heap.size, 0, none⟩) ∧ Hid (LayInv w (thsB (xs.take j)) wr)) (fun _ i _ => 200 - (intOf i).toNat)
  case atStart => exact ⟨0, Nat.zero_le _, by omega, rfl, rfl, INV.out⟩
  case round =>
    clear INV
    obtain ⟨j, hj, hj2, rfl, rfl, hinv⟩ := hrel
    obtain ⟨A, c, out, ho, hw, hk, hn⟩ := hinv.out
    have HW := Lib.hid hw
    have HK := Lib.hid hk
    have HN := Lib.hid hn
    have hol : out.length ≤ 300000000 := by
      have h1 := LEN.out j
      rw [ho.out]
      have h2 : j * (1048576 + 40) ≤ 200 * (1048576 + 40) := Nat.mul_le_mul_right _ hj2
      omega
    clear hw hk hn hinv
    by_cases hlt : j < xs.length ∧ j < 200
    · obtain ⟨hlt1, hlt2⟩ := hlt
      have hi1 : (j : Int) < (xs.length : Int) := by omega
      have hi2 : (j : Int) < 200 := by omega
      obtain ⟨g0, o0, rfl, hg0, hrange⟩ := EL.out (by omega)
      have HRG := Lib.hid (rangeAt_keeps (hrange j hlt1) HK.out (by simp))
      have F := Lib.hid (FINE.out xs[j] (List.getElem_mem hlt1))
      have HB := Lib.hid (BL.out xs[j] (List.getElem_mem hlt1))
      have HSN := Lib.hid (thsB_snoc xs j hlt1)
      obtain ⟨x, hx⟩ : ∃ x : Th, x = xs[j] := ⟨_, rfl⟩
      rw [← hx] at HRG F HB HSN
      have HI : Hid ((Try.prog.info? 35).map (·.size) = some ((K.st KTh).cells x).length) := by
        show _ = _
        rw [F.out.length]; exact info_thing
      obtain ⟨cs, hcs⟩ : ∃ cs : List Value, cs = (K.st KTh).cells x := ⟨_, rfl⟩
      rw [← hcs] at HRG HI
      have HAG := Lib.hid (show Value.agg cs.toArray = thV x.1 x.2.1 x.ad x.b.length x.cp x.p by rw [hcs]; exact F.out.agg)
      clear hrange hx hj hj2 hcs
      have hxl : x.b.length ≤ 1048576 := HB.out.1
      go_wp2_with (refine wpList_load_mid rfl 35 (.tmp 23) rfl g0 (o0 + j * 35) rfl cs _ HRG.out Try.underlying35 rfl HI.out ?_)
      rw [HAG.out]
      refine (lay_any x.1 x.2.1 F.out.lo F.out.hi w.heap.size A c out x.ad x.b x.cp x.p F.out.p32 _ HW.out (by omega) (F.out.rd.keeps0 HK.out) (fun a ha hl => by have h0 := F.out.lt a ha hl; exact ⟨by omega, fun hm => by obtain ⟨a1, e1, e2⟩ := mem_blk.1 hm; have := HN.out a1 e1; omega⟩)).mono ?_
      intro e w2 hp
      obtain ⟨rfl, hst⟩ := LayInv.step HN.out HK.out hp
      have INV2 : Hid (LayInv w (thsB (xs.take (j + 1))) w2) := by
        show LayInv _ _ _
        rw [HSN.out, ← ho.out]; exact hst
      clear hp hst HRG
      go_wp2_with fail
      go_roundw
      case rel => exact ⟨j + 1, by omega, by omega, by go_num, rfl, INV2.out⟩
      case measure => simp [intOf]; omega
    · have hjm : j = min xs.length 200 := by omega
      have hend : thsB (xs.take j) = thsB ((xs.take (min xs.length 200)).drop 0) := by rw [List.drop_zero, hjm]
      have HE := Lib.hid hend
      clear hend hjm
      have hcase : ((j : Int) < (xs.length : Int) ∧ ¬ (j : Int) < 200) ∨ ¬ (j : Int) < (xs.length : Int) := by omega
      clear hlt hj hj2
      rcases hcase with ⟨h1, h2⟩ | h1
      all_goals
        go_wp2_with fail
        refine (done_any w.heap.size A c out wr HW.out (by omega)).mono ?_
        rintro e w4 ⟨A4, c4, o4, ho4, rfl, hO4, hn4, hk4⟩
        have hol4 : o4.length ≤ 300000000 := by rw [ho4.out]; exact hol
        have HO := Lib.hid (And.intro hO4 (And.intro hn4 (HK.out.trans hk4 (by simp))))
        have HS4 := Lib.hid (show o4 = thsB ((xs.take (min xs.length 200)).drop 0) by rw [ho4.out, ho.out, HE.out])
        clear hO4 hn4 hk4
        go_wp2_with fail
        refine (read_any A4 o4 c4 w4 (by omega) HO.out.1.cap HO.out.1.rd (fun a ha _ => HO.out.1.lt a ha)).mono ?_
        rintro e w5 ⟨rfl, hr5, hk5⟩
        have hg5 : w.heap.size ≤ w4.heap.size := HO.out.2.2.size
        have INV := Lib.hid (show TakeInv w w4.heap.size (thsB ((xs.take (min xs.length 200)).drop 0)) w5 from ⟨A4, c4, o4, HS4.out, hr5, HO.out.2.2.trans hk5 (by simp), hg5, fun a ha => by have := HO.out.2.1 a ha; have := HK.out.size; omega⟩)
        clear hr5 hk5 hol HE HS4 HO HW HK HN
        go_wp2_with fail
        go_loopw [6] (fun i wr => ∃ j : Nat, j ≤ xs.length ∧ j ≤ 200 ∧ i = .int .i64 j ∧ Hid (TakeInv w w4.heap.size (thsB ((xs.take (min xs.length 200)).drop j)) wr)) (fun i _ => 200 - (intOf i).toNat)
        case atStart => exact ⟨0, Nat.zero_le _, by omega, rfl, INV.out⟩
        case round =>
          clear INV
          obtain ⟨j, hj, hj2, rfl, hinv⟩ := hrel
          obtain ⟨A, c, l, hl, hr, hk, hg, hn⟩ := hinv.out
          have HR := Lib.hid hr
          have HK := Lib.hid hk
          have HN := Lib.hid hn
          clear hr hk hn hinv
          by_cases hlt : j < xs.length ∧ j < 200
          · obtain ⟨hlt1, hlt2⟩ := hlt
            have hi1 : (j : Int) < (xs.length : Int) := by omega
            have hi2 : (j : Int) < 200 := by omega
            obtain ⟨g0, o0, rfl, hg0, hrange⟩ := EL.out (by omega)
            have HRG := Lib.hid (rangeAt_keeps (hrange j hlt1) HK.out (by simp))
            have F := Lib.hid (FINE.out xs[j] (List.getElem_mem hlt1))
            have HB := Lib.hid (BL.out xs[j] (List.getElem_mem hlt1))
            have HDR := Lib.hid (thsB_drop xs j (min xs.length 200) (by omega) (by omega))
            obtain ⟨x, hx⟩ : ∃ x : Th, x = xs[j] := ⟨_, rfl⟩
            rw [← hx] at HRG F HB HDR
            have HI : Hid ((Try.prog.info? 35).map (·.size) = some ((K.st KTh).cells x).length) := by
              show _ = _
              rw [F.out.length]; exact info_thing
            obtain ⟨cs, hcs⟩ : ∃ cs : List Value, cs = (K.st KTh).cells x := ⟨_, rfl⟩
            have HONE := Lib.hid (one_thing F.out)
            have H35 := Lib.hid F.out.length
            rw [← hcs] at HRG HI HONE H35
            have HCS := Lib.hid (hcs.trans F.out.cells)
            obtain ⟨rest, hrest⟩ : ∃ rest, rest = thsB ((xs.take (min xs.length 200)).drop (j + 1)) := ⟨_, rfl⟩
            rw [← hrest] at HDR
            have HREST := Lib.hid hrest
            have HL := Lib.hid (hl.out.trans HDR.out)
            have FF := conv_keeps (P := Try.prog) (dst := 9) Try.underlying23 Try.underlying5 Try.underlying9 F.out.rd x.cp
            clear hrange hx hj hj2 hcs hrest HDR hl
            have hxl : x.b.length ≤ 1048576 := HB.out.1
            have hkr := kind6_range x.1
            obtain ⟨q, hq⟩ : ∃ q, kind6 x.1 = q := ⟨_, rfl⟩
            have HQ := Lib.hid hq
            have hk' : (IntKind.u64.wrap x.1).tmod 6 = q := hq
            rw [hq] at hkr
            have hc6 : q = 0 ∨ q = 1 ∨ q = 2 ∨ q = 3 ∨ q = 4 ∨ q = 5 := by omega
            have HFC1 := Lib.hid (show ∀ (b : Nat) (z : World), z.heap[b]? = some (.cells cs.toArray 35 (0, 0)) → z.cell? ⟨b, 1, none⟩ = some (.int .i64 x.2.1) from fun b z hz => by rw [cell_of_row _ _ _ _ _ _ hz, HCS.out]; rfl)
            have HFC2 := Lib.hid (show ∀ (b : Nat) (z : World), z.heap[b]? = some (.cells cs.toArray 35 (0, 0)) → z.cell? ⟨b, 2, none⟩ = some (.slice x.ad x.b.length x.cp) from fun b z hz => by rw [cell_of_row _ _ _ _ _ _ hz, HCS.out]; rfl)
            have HFC0 := Lib.hid (show ∀ (b : Nat) (z : World), z.heap[b]? = some (.cells cs.toArray 35 (0, 0)) → z.cell? ⟨b, 0, none⟩ = some (.int .i64 x.1) from fun b z hz => by rw [cell_of_row _ _ _ _ _ _ hz, HCS.out]; rfl)
            have HPR := Lib.hid (show ∀ (b : Nat) (z : World), z.heap[b]? = some (.cells cs.toArray 35 (0, 0)) → z.rangeAt b 3 (encB x.p) from fun b z hz k v hv => by rw [cell_of_row _ _ _ _ _ _ hz, HCS.out]; simpa [Nat.add_comm 3 k] using hv)
            clear hkr hq
            rcases hc6 with rfl | rfl | rfl | rfl | rfl | rfl
            · -- kind 0
              have HSP := Lib.hid (show x.spec = uintB (IntKind.u64.wrap x.2.1).toNat by unfold Th.spec thB; rw [HQ.out]; simp)
              obtain ⟨m, hm⟩ : ∃ m : Nat, IntKind.u64.wrap x.2.1 = (m : Int) := ⟨(IntKind.u64.wrap x.2.1).toNat, by rw [IntKind.wrap_u64]; omega⟩
              have hml : m < 18446744073709551616 := by rw [IntKind.wrap_u64] at hm; omega
              have HRV := Lib.hid (show uintR 18446744073709551615 l 0 = (rest, 0, m) by rw [HL.out, HSP.out, hm, Int.toNat_natCast]; exact uintR_uint m hml rest)
              clear FF
              clear HQ
              go_wp2_with (first
                | (refine wpList_load_mid rfl 35 (.tmp 41) rfl g0 (o0 + j * 35) rfl cs _ HRG.out Try.underlying35 rfl HI.out ?_)
                | (refine wpList_store_rowK rfl 35 (.tmp 7) (.tmp 42) rfl wr.heap.size cs ([.int .i64 0, .int .i64 0, .slice none 0 0] ++ (encB (List.replicate 32 0))) 35 rfl rfl (heap_alloc_new _ _) (by rw [H35.out]; rfl) HI.out HONE.out ?_; intro w6 h6 hk6; have q0 := HFC0.out _ _ h6.out; have H6 := Lib.hid h6.out; have HK6 := Lib.hid (((Keeps.refl [] wr).alloc _).trans hk6 (fun t ht => .inr (by simp at ht; omega))); clear h6 hk6))
              refine seq_start (by kernel_rfl) (fun z => Keeps [] w z ∧ z.heap[wr.heap.size]? = some (.cells cs.toArray 35 (0, 0))) 7 [0, 1, 2, 3, 4, 5, 6] rfl (⟨(HK.out.trans HK6.out (by simp)).drew, H6.out⟩) (fun hS => ?_)
              have HRD := Lib.hid (show Rdr w6.drew w4.heap.size A c l 0 from HR.out.keeps0 HK6.out.drew)
              have HKD := Lib.hid (show Keeps [] w w6.drew from HK.out.trans HK6.out.drew (by simp))
              have HBX := Lib.hid (show w6.drew.heap[wr.heap.size]? = some (.cells cs.toArray 35 (0, 0)) from H6.out)
              have hgb : w4.heap.size < wr.heap.size := HR.out.lt
              have hbs := lt_of_block HBX.out
              have FC1 := HFC1.out wr.heap.size
              have FC2 := HFC2.out wr.heap.size
              generalize w6.drew = V at HRD HKD HBX hbs hS ⊢
              refine seq_take (v := ?_) rfl (by kernel_rfl) (by kernel_rfl) (by kernel_rfl) (Or.inl ⟨by rfl, fun w' hSw => ?_⟩) (by assumption) ?_
              rotate_left
              · go_simp
                with_reducible rfl
              simp only [Act.put, List.setIfInBounds_toArray, List.set_cons_zero, List.set_cons_succ]
              iterate 1 (refine seq_later ?_; simp only [List.cons_append, List.nil_append])
              refine seq_take (v := ?_) rfl (by kernel_rfl) (by kernel_rfl) (by kernel_rfl) (Or.inl ⟨by rfl, fun w' hSw => ?_⟩) (by assumption) ?_
              rotate_left
              · go_simp
                with_reducible rfl
              simp only [Act.put, List.setIfInBounds_toArray, List.set_cons_zero, List.set_cons_succ]
              refine seq_take (v := ?_) rfl (by kernel_rfl) (by kernel_rfl) (by kernel_rfl) (Or.inl ⟨by rfl, fun w' hSw => ?_⟩) (by assumption) ?_
              rotate_left
              · go_simp
                with_reducible rfl
              simp only [Act.put, List.setIfInBounds_toArray, List.set_cons_zero, List.set_cons_succ]
              refine seq_take (v := ?_) rfl (by kernel_rfl) (by kernel_rfl) (by kernel_rfl) (Or.inl ⟨by rfl, fun w' hSw => ?_⟩) (by assumption) ?_
              rotate_left
              · go_simp
                with_reducible rfl
              simp only [Act.put, List.setIfInBounds_toArray, List.set_cons_zero, List.set_cons_succ]
              iterate 2 (refine seq_later ?_; simp only [List.cons_append, List.nil_append])
              refine seq_do rfl (by kernel_rfl) (by rfl) (fun K hK => ?_)
              go_simp
              have hc := rduint_any w4.heap.size A c l 0 V HRD.out 18446744073709551615
              rw [HRV.out] at hc
              refine Calls.mono hc ?_
              intro e w7 hp
              obtain ⟨rfl, hst, hkk⟩ := TakeInv.step hg HN.out HKD.out (show RdPost w4.heap.size A rest 0 (.int .u64 (m : Nat)) V e w7 from hp)
              have HBX7 := Lib.hid ((hkk.block wr.heap.size hbs (by simp; omega)).trans HBX.out)
              obtain ⟨hk7, hst⟩ : Keeps [] w w7 ∧ _ := ⟨hst.kw, hst⟩
              refine hK.out (fun z => Keeps [] w z ∧ z.heap[wr.heap.size]? = some (.cells cs.toArray 35 (0, 0))) _ _ (fun x h => h) ⟨hk7, HBX7.out⟩ (fun hS => ?_)
              clear hc
              refine seq_take (v := ?_) rfl (by kernel_rfl) (by kernel_rfl) (by kernel_rfl) (Or.inl ⟨by rfl, fun w' hSw => ?_⟩) (by assumption) ?_
              rotate_left
              · go_simp
                with_reducible rfl
              simp only [Act.put, List.setIfInBounds_toArray, List.set_cons_zero, List.set_cons_succ]
              refine seq_take (v := ?_) rfl (by kernel_rfl) (by kernel_rfl) (by kernel_rfl) (Or.inl ⟨by rfl, fun w' hSw => ?_⟩) (by assumption) ?_
              rotate_left
              · go_simp
                with_reducible rfl
              simp only [Act.put, List.setIfInBounds_toArray, List.set_cons_zero, List.set_cons_succ]
              refine seq_done (by kernel_rfl) ?_
              all_goals skip
              clear FC1 FC2 hk7 
              have INV5 := Lib.hid (show TakeInv w w4.heap.size (thsB ((xs.take (min xs.length 200)).drop (j + 1))) w7 by rw [← HREST.out]; exact hst)
              clear hst hkk hS
              go_wp2_with fail
              go_roundw
              case rel => exact ⟨j + 1, by omega, by omega, by go_num, INV5.out⟩
              case measure => simp [intOf]; omega
            · -- kind 1
              have HSP := Lib.hid (show x.spec = intB x.2.1 by unfold Th.spec thB; rw [HQ.out]; simp)
              have HRV := Lib.hid (show intR l 0 = (rest, 0, x.2.1) by rw [HL.out, HSP.out]; exact intR_int x.2.1 F.out.lo F.out.hi rest)
              clear FF
              clear HQ
              go_wp2_with (first
                | (refine wpList_load_mid rfl 35 (.tmp 41) rfl g0 (o0 + j * 35) rfl cs _ HRG.out Try.underlying35 rfl HI.out ?_)
                | (refine wpList_store_rowK rfl 35 (.tmp 7) (.tmp 42) rfl wr.heap.size cs ([.int .i64 0, .int .i64 0, .slice none 0 0] ++ (encB (List.replicate 32 0))) 35 rfl rfl (heap_alloc_new _ _) (by rw [H35.out]; rfl) HI.out HONE.out ?_; intro w6 h6 hk6; have q0 := HFC0.out _ _ h6.out; have H6 := Lib.hid h6.out; have HK6 := Lib.hid (((Keeps.refl [] wr).alloc _).trans hk6 (fun t ht => .inr (by simp at ht; omega))); clear h6 hk6))
              refine seq_start (by kernel_rfl) (fun z => Keeps [] w z ∧ z.heap[wr.heap.size]? = some (.cells cs.toArray 35 (0, 0))) 6 [0, 1, 2, 3, 4, 5] rfl (⟨(HK.out.trans HK6.out (by simp)).drew, H6.out⟩) (fun hS => ?_)
              have HRD := Lib.hid (show Rdr w6.drew w4.heap.size A c l 0 from HR.out.keeps0 HK6.out.drew)
              have HKD := Lib.hid (show Keeps [] w w6.drew from HK.out.trans HK6.out.drew (by simp))
              have HBX := Lib.hid (show w6.drew.heap[wr.heap.size]? = some (.cells cs.toArray 35 (0, 0)) from H6.out)
              have hgb : w4.heap.size < wr.heap.size := HR.out.lt
              have hbs := lt_of_block HBX.out
              have FC1 := HFC1.out wr.heap.size
              have FC2 := HFC2.out wr.heap.size
              generalize w6.drew = V at HRD HKD HBX hbs hS ⊢
              refine seq_take (v := ?_) rfl (by kernel_rfl) (by kernel_rfl) (by kernel_rfl) (Or.inl ⟨by rfl, fun w' hSw => ?_⟩) (by assumption) ?_
              rotate_left
              · go_simp
                with_reducible rfl
              simp only [Act.put, List.setIfInBounds_toArray, List.set_cons_zero, List.set_cons_succ]
              iterate 1 (refine seq_later ?_; simp only [List.cons_append, List.nil_append])
              refine seq_take (v := ?_) rfl (by kernel_rfl) (by kernel_rfl) (by kernel_rfl) (Or.inl ⟨by rfl, fun w' hSw => ?_⟩) (by assumption) ?_
              rotate_left
              · go_simp
                with_reducible rfl
              simp only [Act.put, List.setIfInBounds_toArray, List.set_cons_zero, List.set_cons_succ]
              refine seq_take (v := ?_) rfl (by kernel_rfl) (by kernel_rfl) (by kernel_rfl) (Or.inl ⟨by rfl, fun w' hSw => ?_⟩) (by assumption) ?_
              rotate_left
              · go_simp
                with_reducible rfl
              simp only [Act.put, List.setIfInBounds_toArray, List.set_cons_zero, List.set_cons_succ]
              iterate 2 (refine seq_later ?_; simp only [List.cons_append, List.nil_append])
              refine seq_do rfl (by kernel_rfl) (by rfl) (fun K hK => ?_)
              go_simp
              have hc := rdint_any w4.heap.size A c l 0 V HRD.out
              rw [HRV.out] at hc
              refine Calls.mono hc ?_
              intro e w7 hp
              obtain ⟨rfl, hst, hkk⟩ := TakeInv.step hg HN.out HKD.out (show RdPost w4.heap.size A rest 0 (.int .i64 x.2.1) V e w7 from hp)
              have HBX7 := Lib.hid ((hkk.block wr.heap.size hbs (by simp; omega)).trans HBX.out)
              obtain ⟨hk7, hst⟩ : Keeps [] w w7 ∧ _ := ⟨hst.kw, hst⟩
              refine hK.out (fun z => Keeps [] w z ∧ z.heap[wr.heap.size]? = some (.cells cs.toArray 35 (0, 0))) _ _ (fun x h => h) ⟨hk7, HBX7.out⟩ (fun hS => ?_)
              clear hc
              refine seq_take (v := ?_) rfl (by kernel_rfl) (by kernel_rfl) (by kernel_rfl) (Or.inl ⟨by rfl, fun w' hSw => ?_⟩) (by assumption) ?_
              rotate_left
              · go_simp
                with_reducible rfl
              simp only [Act.put, List.setIfInBounds_toArray, List.set_cons_zero, List.set_cons_succ]
              refine seq_take (v := ?_) rfl (by kernel_rfl) (by kernel_rfl) (by kernel_rfl) (Or.inl ⟨by rfl, fun w' hSw => ?_⟩) (by assumption) ?_
              rotate_left
              · go_simp
                with_reducible rfl
              simp only [Act.put, List.setIfInBounds_toArray, List.set_cons_zero, List.set_cons_succ]
              refine seq_done (by kernel_rfl) ?_
              all_goals skip
              clear FC1 FC2 hk7 
              have INV5 := Lib.hid (show TakeInv w w4.heap.size (thsB ((xs.take (min xs.length 200)).drop (j + 1))) w7 by rw [← HREST.out]; exact hst)
              clear hst hkk hS
              go_wp2_with fail
              go_roundw
              case rel => exact ⟨j + 1, by omega, by omega, by go_num, INV5.out⟩
              case measure => simp [intOf]; omega
            · -- kind 2
              have HSP := Lib.hid (show x.spec = [if decide (0 < x.2.1) then 1 else 0] by unfold Th.spec thB; rw [HQ.out]; simp)
              have HRV := Lib.hid (show boolR l 0 = (rest, 0, decide (0 < x.2.1)) by rw [HL.out, HSP.out]; exact boolR_bool _ rest)
              clear FF
              clear HQ
              go_wp2_with (first
                | (refine wpList_load_mid rfl 35 (.tmp 41) rfl g0 (o0 + j * 35) rfl cs _ HRG.out Try.underlying35 rfl HI.out ?_)
                | (refine wpList_store_rowK rfl 35 (.tmp 7) (.tmp 42) rfl wr.heap.size cs ([.int .i64 0, .int .i64 0, .slice none 0 0] ++ (encB (List.replicate 32 0))) 35 rfl rfl (heap_alloc_new _ _) (by rw [H35.out]; rfl) HI.out HONE.out ?_; intro w6 h6 hk6; have q0 := HFC0.out _ _ h6.out; have H6 := Lib.hid h6.out; have HK6 := Lib.hid (((Keeps.refl [] wr).alloc _).trans hk6 (fun t ht => .inr (by simp at ht; omega))); clear h6 hk6))
              refine seq_start (by kernel_rfl) (fun z => Keeps [] w z ∧ z.heap[wr.heap.size]? = some (.cells cs.toArray 35 (0, 0))) 7 [0, 1, 2, 3, 4, 5, 6] rfl (⟨(HK.out.trans HK6.out (by simp)).drew, H6.out⟩) (fun hS => ?_)
              have HRD := Lib.hid (show Rdr w6.drew w4.heap.size A c l 0 from HR.out.keeps0 HK6.out.drew)
              have HKD := Lib.hid (show Keeps [] w w6.drew from HK.out.trans HK6.out.drew (by simp))
              have HBX := Lib.hid (show w6.drew.heap[wr.heap.size]? = some (.cells cs.toArray 35 (0, 0)) from H6.out)
              have hgb : w4.heap.size < wr.heap.size := HR.out.lt
              have hbs := lt_of_block HBX.out
              have FC1 := HFC1.out wr.heap.size
              have FC2 := HFC2.out wr.heap.size
              generalize w6.drew = V at HRD HKD HBX hbs hS ⊢
              refine seq_take (v := ?_) rfl (by kernel_rfl) (by kernel_rfl) (by kernel_rfl) (Or.inl ⟨by rfl, fun w' hSw => ?_⟩) (by assumption) ?_
              rotate_left
              · go_simp
                with_reducible rfl
              simp only [Act.put, List.setIfInBounds_toArray, List.set_cons_zero, List.set_cons_succ]
              iterate 1 (refine seq_later ?_; simp only [List.cons_append, List.nil_append])
              refine seq_take (v := ?_) rfl (by kernel_rfl) (by kernel_rfl) (by kernel_rfl) (Or.inl ⟨by rfl, fun w' hSw => ?_⟩) (by assumption) ?_
              rotate_left
              · go_simp
                with_reducible rfl
              simp only [Act.put, List.setIfInBounds_toArray, List.set_cons_zero, List.set_cons_succ]
              refine seq_take (v := ?_) rfl (by kernel_rfl) (by kernel_rfl) (by kernel_rfl) (Or.inl ⟨by rfl, fun w' hSw => ?_⟩) (by assumption) ?_
              rotate_left
              · go_simp
                with_reducible rfl
              simp only [Act.put, List.setIfInBounds_toArray, List.set_cons_zero, List.set_cons_succ]
              refine seq_take (v := ?_) rfl (by kernel_rfl) (by kernel_rfl) (by kernel_rfl) (Or.inl ⟨by rfl, fun w' hSw => ?_⟩) (by assumption) ?_
              rotate_left
              · go_simp
                with_reducible rfl
              simp only [Act.put, List.setIfInBounds_toArray, List.set_cons_zero, List.set_cons_succ]
              iterate 2 (refine seq_later ?_; simp only [List.cons_append, List.nil_append])
              refine seq_do rfl (by kernel_rfl) (by rfl) (fun K hK => ?_)
              go_simp
              have hc := rdbool_any w4.heap.size A c l 0 V HRD.out
              rw [HRV.out] at hc
              refine Calls.mono hc ?_
              intro e w7 hp
              obtain ⟨rfl, hst, hkk⟩ := TakeInv.step hg HN.out HKD.out (show RdPost w4.heap.size A rest 0 (.bool (decide (0 < x.2.1))) V e w7 from hp)
              have HBX7 := Lib.hid ((hkk.block wr.heap.size hbs (by simp; omega)).trans HBX.out)
              obtain ⟨hk7, hst⟩ : Keeps [] w w7 ∧ _ := ⟨hst.kw, hst⟩
              refine hK.out (fun z => Keeps [] w z ∧ z.heap[wr.heap.size]? = some (.cells cs.toArray 35 (0, 0))) _ _ (fun x h => h) ⟨hk7, HBX7.out⟩ (fun hS => ?_)
              clear hc
              refine seq_take (v := ?_) rfl (by kernel_rfl) (by kernel_rfl) (by kernel_rfl) (Or.inl ⟨by rfl, fun w' hSw => ?_⟩) (by assumption) ?_
              rotate_left
              · go_simp
                with_reducible rfl
              simp only [Act.put, List.setIfInBounds_toArray, List.set_cons_zero, List.set_cons_succ]
              refine seq_take (v := ?_) rfl (by kernel_rfl) (by kernel_rfl) (by kernel_rfl) (Or.inl ⟨by rfl, fun w' hSw => ?_⟩) (by assumption) ?_
              rotate_left
              · go_simp
                with_reducible rfl
              simp only [Act.put, List.setIfInBounds_toArray, List.set_cons_zero, List.set_cons_succ]
              refine seq_done (by kernel_rfl) ?_
              all_goals skip
              clear FC1 FC2 hk7 
              have INV5 := Lib.hid (show TakeInv w w4.heap.size (thsB ((xs.take (min xs.length 200)).drop (j + 1))) w7 by rw [← HREST.out]; exact hst)
              clear hst hkk hS
              go_wp2_with fail
              go_roundw
              case rel => exact ⟨j + 1, by omega, by omega, by go_num, INV5.out⟩
              case measure => simp [intOf]; omega
            · -- kind 3
              have HSP := Lib.hid (show x.spec = lenB x.b by unfold Th.spec thB; rw [HQ.out]; simp)
              have HRV := Lib.hid (show bytesR (x.b.length : Int) l 0 = (rest, 0, x.b) by rw [HL.out, HSP.out]; exact bytesR_bytes x.b rest (by omega))
              clear HQ
              go_wp2_with (first
                | (refine wpList_load_mid rfl 35 (.tmp 41) rfl g0 (o0 + j * 35) rfl cs _ HRG.out Try.underlying35 rfl HI.out ?_)
                | (refine wpList_store_rowK rfl 35 (.tmp 7) (.tmp 42) rfl wr.heap.size cs ([.int .i64 0, .int .i64 0, .slice none 0 0] ++ (encB (List.replicate 32 0))) 35 rfl rfl (heap_alloc_new _ _) (by rw [H35.out]; rfl) HI.out HONE.out ?_; intro w6 h6 hk6; have q0 := HFC0.out _ _ h6.out; have H6 := Lib.hid h6.out; have HK6 := Lib.hid (((Keeps.refl [] wr).alloc _).trans hk6 (fun t ht => .inr (by simp at ht; omega))); clear h6 hk6))
              refine seq_start (by kernel_rfl) (fun z => Keeps [] w z ∧ z.heap[wr.heap.size]? = some (.cells cs.toArray 35 (0, 0))) 10 [0, 1, 2, 3, 4, 5, 6, 7, 8, 9] rfl (⟨(HK.out.trans HK6.out (by simp)).drew, H6.out⟩) (fun hS => ?_)
              have HRD := Lib.hid (show Rdr w6.drew w4.heap.size A c l 0 from HR.out.keeps0 HK6.out.drew)
              have HKD := Lib.hid (show Keeps [] w w6.drew from HK.out.trans HK6.out.drew (by simp))
              have HBX := Lib.hid (show w6.drew.heap[wr.heap.size]? = some (.cells cs.toArray 35 (0, 0)) from H6.out)
              have hgb : w4.heap.size < wr.heap.size := HR.out.lt
              have hbs := lt_of_block HBX.out
              have FC1 := HFC1.out wr.heap.size
              have FC2 := HFC2.out wr.heap.size
              generalize w6.drew = V at HRD HKD HBX hbs hS ⊢
              refine seq_take (v := ?_) rfl (by kernel_rfl) (by kernel_rfl) (by kernel_rfl) (Or.inl ⟨by rfl, fun w' hSw => ?_⟩) (by assumption) ?_
              rotate_left
              · go_simp
                with_reducible rfl
              simp only [Act.put, List.setIfInBounds_toArray, List.set_cons_zero, List.set_cons_succ]
              refine seq_take (v := ?_) rfl (by kernel_rfl) (by kernel_rfl) (by kernel_rfl) (Or.inl ⟨by rfl, fun w' hSw => ?_⟩) (by assumption) ?_
              rotate_left
              · go_simp
                with_reducible rfl
              simp only [Act.put, List.setIfInBounds_toArray, List.set_cons_zero, List.set_cons_succ]
              refine seq_take (v := ?_) rfl (by kernel_rfl) (by kernel_rfl) (by kernel_rfl) (Or.inl ⟨by rfl, fun w' hSw => ?_⟩) (by assumption) ?_
              rotate_left
              · go_simp
                with_reducible rfl
              simp only [Act.put, List.setIfInBounds_toArray, List.set_cons_zero, List.set_cons_succ]
              refine seq_take (v := ?_) rfl (by kernel_rfl) (by kernel_rfl) (by kernel_rfl) (Or.inl ⟨by rfl, fun w' hSw => ?_⟩) (by assumption) ?_
              rotate_left
              · go_simp
                with_reducible rfl
              simp only [Act.put, List.setIfInBounds_toArray, List.set_cons_zero, List.set_cons_succ]
              iterate 1 (refine seq_later ?_; simp only [List.cons_append, List.nil_append])
              refine seq_take (v := ?_) rfl (by kernel_rfl) (by kernel_rfl) (by kernel_rfl) (Or.inl ⟨by rfl, fun w' hSw => ?_⟩) (by assumption) ?_
              rotate_left
              · go_simp
                with_reducible rfl
              simp only [Act.put, List.setIfInBounds_toArray, List.set_cons_zero, List.set_cons_succ]
              refine seq_take (v := ?_) rfl (by kernel_rfl) (by kernel_rfl) (by kernel_rfl) (Or.inl ⟨by rfl, fun w' hSw => ?_⟩) (by assumption) ?_
              rotate_left
              · go_simp
                with_reducible rfl
              simp only [Act.put, List.setIfInBounds_toArray, List.set_cons_zero, List.set_cons_succ]
              refine seq_take (v := ?_) rfl (by kernel_rfl) (by kernel_rfl) (by kernel_rfl) (Or.inl ⟨by rfl, fun w' hSw => ?_⟩) (by assumption) ?_
              rotate_left
              · go_simp
                with_reducible rfl
              simp only [Act.put, List.setIfInBounds_toArray, List.set_cons_zero, List.set_cons_succ]
              iterate 2 (refine seq_later ?_; simp only [List.cons_append, List.nil_append])
              refine seq_do rfl (by kernel_rfl) (by rfl) (fun K hK => ?_)
              go_simp
              have hc := rdtext_any w4.heap.size A c l 0 V HRD.out (x.b.length : Int) (by omega) (by omega)
              rw [HRV.out] at hc
              refine Calls.mono hc ?_
              intro e w7 hp
              obtain ⟨rfl, hst, hkk⟩ := TakeInv.step hg HN.out HKD.out (show RdPost w4.heap.size A rest 0 (.string (strB x.b)) V e w7 from hp)
              have HBX7 := Lib.hid ((hkk.block wr.heap.size hbs (by simp; omega)).trans HBX.out)
              obtain ⟨hk7, hst⟩ : Keeps [] w w7 ∧ _ := ⟨hst.kw, hst⟩
              refine hK.out (fun z => Keeps [] w z ∧ z.heap[wr.heap.size]? = some (.cells cs.toArray 35 (0, 0))) _ _ (fun x h => h) ⟨hk7, HBX7.out⟩ (fun hS => ?_)
              clear hc
              refine seq_take (v := ?_) rfl (by kernel_rfl) (by kernel_rfl) (by kernel_rfl) (Or.inl ⟨by rfl, fun w' hSw => ?_⟩) (by assumption) ?_
              rotate_left
              · go_simp
                with_reducible rfl
              simp only [Act.put, List.setIfInBounds_toArray, List.set_cons_zero, List.set_cons_succ]
              refine seq_take (v := ?_) rfl (by kernel_rfl) (by kernel_rfl) (by kernel_rfl) (Or.inl ⟨by rfl, fun w' hSw => ?_⟩) (by assumption) ?_
              rotate_left
              · go_simp
                with_reducible rfl
              simp only [Act.put, List.setIfInBounds_toArray, List.set_cons_zero, List.set_cons_succ]
              refine seq_done (by kernel_rfl) ?_
              all_goals skip
              clear FC1 FC2 hk7 FF
              have INV5 := Lib.hid (show TakeInv w w4.heap.size (thsB ((xs.take (min xs.length 200)).drop (j + 1))) w7 by rw [← HREST.out]; exact hst)
              clear hst hkk hS
              go_wp2_with fail
              go_roundw
              case rel => exact ⟨j + 1, by omega, by omega, by go_num, INV5.out⟩
              case measure => simp [intOf]; omega
            · -- kind 4
              have HSP := Lib.hid (show x.spec = lenB x.b by unfold Th.spec thB; rw [HQ.out]; simp)
              have HRV := Lib.hid (show bytesR (x.b.length : Int) l 0 = (rest, 0, x.b) by rw [HL.out, HSP.out]; exact bytesR_bytes x.b rest (by omega))
              clear HQ
              go_wp2_with (first
                | (refine wpList_load_mid rfl 35 (.tmp 41) rfl g0 (o0 + j * 35) rfl cs _ HRG.out Try.underlying35 rfl HI.out ?_)
                | (refine wpList_store_rowK rfl 35 (.tmp 7) (.tmp 42) rfl wr.heap.size cs ([.int .i64 0, .int .i64 0, .slice none 0 0] ++ (encB (List.replicate 32 0))) 35 rfl rfl (heap_alloc_new _ _) (by rw [H35.out]; rfl) HI.out HONE.out ?_; intro w6 h6 hk6; have q0 := HFC0.out _ _ h6.out; have H6 := Lib.hid h6.out; have HK6 := Lib.hid (((Keeps.refl [] wr).alloc _).trans hk6 (fun t ht => .inr (by simp at ht; omega))); clear h6 hk6))
              refine seq_start (by kernel_rfl) (fun z => Keeps [] w z ∧ z.heap[wr.heap.size]? = some (.cells cs.toArray 35 (0, 0))) 11 [0, 1, 2, 3, 4, 5, 6, 7, 8, 9, 10] rfl (⟨(HK.out.trans HK6.out (by simp)).drew, H6.out⟩) (fun hS => ?_)
              have HRD := Lib.hid (show Rdr w6.drew w4.heap.size A c l 0 from HR.out.keeps0 HK6.out.drew)
              have HKD := Lib.hid (show Keeps [] w w6.drew from HK.out.trans HK6.out.drew (by simp))
              have HBX := Lib.hid (show w6.drew.heap[wr.heap.size]? = some (.cells cs.toArray 35 (0, 0)) from H6.out)
              have hgb : w4.heap.size < wr.heap.size := HR.out.lt
              have hbs := lt_of_block HBX.out
              have FC1 := HFC1.out wr.heap.size
              have FC2 := HFC2.out wr.heap.size
              generalize w6.drew = V at HRD HKD HBX hbs hS ⊢
              refine seq_take (v := ?_) rfl (by kernel_rfl) (by kernel_rfl) (by kernel_rfl) (Or.inl ⟨by rfl, fun w' hSw => ?_⟩) (by assumption) ?_
              rotate_left
              · go_simp
                with_reducible rfl
              simp only [Act.put, List.setIfInBounds_toArray, List.set_cons_zero, List.set_cons_succ]
              refine seq_take (v := ?_) rfl (by kernel_rfl) (by kernel_rfl) (by kernel_rfl) (Or.inl ⟨by rfl, fun w' hSw => ?_⟩) (by assumption) ?_
              rotate_left
              · go_simp
                with_reducible rfl
              simp only [Act.put, List.setIfInBounds_toArray, List.set_cons_zero, List.set_cons_succ]
              refine seq_take (v := ?_) rfl (by kernel_rfl) (by kernel_rfl) (by kernel_rfl) (Or.inl ⟨by rfl, fun w' hSw => ?_⟩) (by assumption) ?_
              rotate_left
              · go_simp
                with_reducible rfl
              simp only [Act.put, List.setIfInBounds_toArray, List.set_cons_zero, List.set_cons_succ]
              refine seq_take (v := ?_) rfl (by kernel_rfl) (by kernel_rfl) (by kernel_rfl) (Or.inl ⟨by rfl, fun w' hSw => ?_⟩) (by assumption) ?_
              rotate_left
              · go_simp
                with_reducible rfl
              simp only [Act.put, List.setIfInBounds_toArray, List.set_cons_zero, List.set_cons_succ]
              iterate 2 (refine seq_later ?_; simp only [List.cons_append, List.nil_append])
              refine seq_take (v := ?_) rfl (by kernel_rfl) (by kernel_rfl) (by kernel_rfl) (Or.inl ⟨by rfl, fun w' hSw => ?_⟩) (by assumption) ?_
              rotate_left
              · go_simp
                with_reducible rfl
              simp only [Act.put, List.setIfInBounds_toArray, List.set_cons_zero, List.set_cons_succ]
              refine seq_take (v := ?_) rfl (by kernel_rfl) (by kernel_rfl) (by kernel_rfl) (Or.inl ⟨by rfl, fun w' hSw => ?_⟩) (by assumption) ?_
              rotate_left
              · go_simp
                with_reducible rfl
              simp only [Act.put, List.setIfInBounds_toArray, List.set_cons_zero, List.set_cons_succ]
              refine seq_take (v := ?_) rfl (by kernel_rfl) (by kernel_rfl) (by kernel_rfl) (Or.inl ⟨by rfl, fun w' hSw => ?_⟩) (by assumption) ?_
              rotate_left
              · go_simp
                with_reducible rfl
              simp only [Act.put, List.setIfInBounds_toArray, List.set_cons_zero, List.set_cons_succ]
              iterate 2 (refine seq_later ?_; simp only [List.cons_append, List.nil_append])
              refine seq_do rfl (by kernel_rfl) (by rfl) (fun K hK => ?_)
              go_simp
              have hc := rdbytes_any w4.heap.size A c l 0 V HRD.out (x.b.length : Int) (by omega) (by omega)
              rw [HRV.out] at hc
              refine Calls.mono hc ?_
              intro e w7 hp
              obtain ⟨A2, c2, t, rfl, ht, hrt, hst, hkk⟩ := TakeInv.stepB hg HN.out HKD.out rfl hp
              have HBX7 := Lib.hid ((hkk.block wr.heap.size hbs (by simp; omega)).trans HBX.out)
              obtain ⟨hk7, hst⟩ : Keeps [] w w7 ∧ _ := ⟨hst.kw, hst⟩
              have F7 := conv_keeps (P := Try.prog) (dst := 9) Try.underlying23 Try.underlying5 Try.underlying9 hrt c2
              have b1 : ((strB t).toList == (strB x.b).toList) = true := strB_beq_true ht.out
              clear hrt
              refine hK.out (fun z => (Keeps [] w z ∧ z.heap[wr.heap.size]? = some (.cells cs.toArray 35 (0, 0))) ∧ Keeps [] w7 z) _ _ (fun x h => h.1) ⟨⟨hk7, HBX7.out⟩, Keeps.refl [] w7⟩ (fun hS => ?_)
              clear hc
              refine seq_take (v := ?_) rfl (by kernel_rfl) (by kernel_rfl) (by kernel_rfl) (Or.inl ⟨by rfl, fun w' hSw => ?_⟩) (by assumption) ?_
              rotate_left
              · go_simp
                with_reducible rfl
              simp only [Act.put, List.setIfInBounds_toArray, List.set_cons_zero, List.set_cons_succ]
              refine seq_take (v := ?_) rfl (by kernel_rfl) (by kernel_rfl) (by kernel_rfl) (Or.inl ⟨by rfl, fun w' hSw => ?_⟩) (by assumption) ?_
              rotate_left
              · go_simp
                with_reducible rfl
              simp only [Act.put, List.setIfInBounds_toArray, List.set_cons_zero, List.set_cons_succ]
              refine seq_take (v := ?_) rfl (by kernel_rfl) (by kernel_rfl) (by kernel_rfl) (Or.inl ⟨by rfl, fun w' hSw => ?_⟩) (by assumption) ?_
              rotate_left
              · go_simp
                with_reducible rfl
              simp only [Act.put, List.setIfInBounds_toArray, List.set_cons_zero, List.set_cons_succ]
              refine seq_done (by kernel_rfl) ?_
              all_goals skip
              clear FC1 FC2 hk7 FF F7 b1
              have INV5 := Lib.hid (show TakeInv w w4.heap.size (thsB ((xs.take (min xs.length 200)).drop (j + 1))) w7 by rw [← HREST.out]; exact hst)
              clear hst hkk hS
              go_wp2_with fail
              go_roundw
              case rel => exact ⟨j + 1, by omega, by omega, by go_num, INV5.out⟩
              case measure => simp [intOf]; omega
            · -- kind 5
              have HSP := Lib.hid (show x.spec = x.p by unfold Th.spec thB; rw [HQ.out]; simp)
              have HRV := Lib.hid (show printR l 0 = (rest, 0, x.p) by rw [HL.out, HSP.out]; exact printR_print x.p rest F.out.p32)
              have HPI := Lib.hid (show (Try.prog.info? 33).map (·.size) = some (encB x.p).length by rw [length_encB, F.out.p32]; exact info_print)
              clear FF
              clear HQ
              go_wp2_with (first
                | (refine wpList_load_mid rfl 35 (.tmp 41) rfl g0 (o0 + j * 35) rfl cs _ HRG.out Try.underlying35 rfl HI.out ?_)
                | (refine wpList_store_rowK rfl 35 (.tmp 7) (.tmp 42) rfl wr.heap.size cs ([.int .i64 0, .int .i64 0, .slice none 0 0] ++ (encB (List.replicate 32 0))) 35 rfl rfl (heap_alloc_new _ _) (by rw [H35.out]; rfl) HI.out HONE.out ?_; intro w6 h6 hk6; have q0 := HFC0.out _ _ h6.out; have H6 := Lib.hid h6.out; have HK6 := Lib.hid (((Keeps.refl [] wr).alloc _).trans hk6 (fun t ht => .inr (by simp at ht; omega))); clear h6 hk6))
              refine seq_start (by kernel_rfl) (fun z => Keeps [] w z ∧ z.heap[wr.heap.size]? = some (.cells cs.toArray 35 (0, 0))) 6 [0, 1, 2, 3, 4, 5] rfl (⟨(HK.out.trans HK6.out (by simp)).drew, H6.out⟩) (fun hS => ?_)
              have HRD := Lib.hid (show Rdr w6.drew w4.heap.size A c l 0 from HR.out.keeps0 HK6.out.drew)
              have HKD := Lib.hid (show Keeps [] w w6.drew from HK.out.trans HK6.out.drew (by simp))
              have HBX := Lib.hid (show w6.drew.heap[wr.heap.size]? = some (.cells cs.toArray 35 (0, 0)) from H6.out)
              have hgb : w4.heap.size < wr.heap.size := HR.out.lt
              have hbs := lt_of_block HBX.out
              have FC1 := HFC1.out wr.heap.size
              have FC2 := HFC2.out wr.heap.size
              generalize w6.drew = V at HRD HKD HBX hbs hS ⊢
              refine seq_take (v := ?_) rfl (by kernel_rfl) (by kernel_rfl) (by kernel_rfl) (Or.inl ⟨by rfl, fun w' hSw => ?_⟩) (by assumption) ?_
              rotate_left
              · go_simp
                with_reducible rfl
              simp only [Act.put, List.setIfInBounds_toArray, List.set_cons_zero, List.set_cons_succ]
              iterate 1 (refine seq_later ?_; simp only [List.cons_append, List.nil_append])
              refine seq_take (v := ?_) rfl (by kernel_rfl) (by kernel_rfl) (by kernel_rfl) (Or.inl ⟨by rfl, fun w' hSw => ?_⟩) (by assumption) ?_
              rotate_left
              · go_simp
                with_reducible rfl
              simp only [Act.put, List.setIfInBounds_toArray, List.set_cons_zero, List.set_cons_succ]
              refine seq_take (v := .agg (encB x.p).toArray) rfl (by kernel_rfl) (by kernel_rfl) (by kernel_rfl) ?_ (by assumption) ?_
              · exact yieldsIf_load_mid (by rfl) 33 (.tmp 50) (by rfl) wr.heap.size 3 (by rfl) (encB x.p) _ (fun z hz => HPR.out _ z hz.2) Try.underlying33 rfl HPI.out
              simp only [Act.put, List.setIfInBounds_toArray, List.set_cons_zero, List.set_cons_succ]
              iterate 2 (refine seq_later ?_; simp only [List.cons_append, List.nil_append])
              refine seq_do rfl (by kernel_rfl) (by rfl) (fun K hK => ?_)
              go_simp
              have hc := rdprint_any w4.heap.size A c l 0 V HRD.out
              rw [HRV.out] at hc
              refine Calls.mono hc ?_
              intro e w7 hp
              obtain ⟨rfl, hst, hkk⟩ := TakeInv.step hg HN.out HKD.out (show RdPost w4.heap.size A rest 0 (.agg (encB x.p).toArray) V e w7 from hp)
              have HBX7 := Lib.hid ((hkk.block wr.heap.size hbs (by simp; omega)).trans HBX.out)
              obtain ⟨hk7, hst⟩ : Keeps [] w w7 ∧ _ := ⟨hst.kw, hst⟩
              refine hK.out (fun z => Keeps [] w z ∧ z.heap[wr.heap.size]? = some (.cells cs.toArray 35 (0, 0))) _ _ (fun x h => h) ⟨hk7, HBX7.out⟩ (fun hS => ?_)
              clear hc
              refine seq_take (v := .bool (x.p == x.p)) rfl (by kernel_rfl) (by kernel_rfl) (by kernel_rfl) ?_ (by assumption) ?_
              · exact yieldsIf_eql_arrB (by rfl) 33 5 32 (.tmp 49) (.tmp 51) (by rfl) Try.underlying33 Try.underlying5 (by kernel_rfl) (by kernel_rfl) guard_print x.p x.p (by rfl) (by rfl) F.out.p32 F.out.p32
              simp only [Act.put, List.setIfInBounds_toArray, List.set_cons_zero, List.set_cons_succ]
              refine seq_take (v := ?_) rfl (by kernel_rfl) (by kernel_rfl) (by kernel_rfl) (Or.inl ⟨by rfl, fun w' hSw => ?_⟩) (by assumption) ?_
              rotate_left
              · go_simp
                with_reducible rfl
              simp only [Act.put, List.setIfInBounds_toArray, List.set_cons_zero, List.set_cons_succ]
              refine seq_done (by kernel_rfl) ?_
              all_goals skip
              clear FC1 FC2 hk7 
              have INV5 := Lib.hid (show TakeInv w w4.heap.size (thsB ((xs.take (min xs.length 200)).drop (j + 1))) w7 by rw [← HREST.out]; exact hst)
              clear hst hkk hS
              go_wp2_with fail
              go_roundw
              case rel => exact ⟨j + 1, by omega, by omega, by go_num, INV5.out⟩
              case measure => simp [intOf]; omega
          · have hl0 : l = [] := by
              rw [hl.out, List.drop_of_length_le (by simp; omega)]
              rfl
            have HL0 := Lib.hid hl0
            have hcase : ((j : Int) < (xs.length : Int) ∧ ¬ (j : Int) < 200) ∨ ¬ (j : Int) < (xs.length : Int) := by omega
            clear hlt hj hj2 hl0 hl
            rcases hcase with ⟨h1, h2⟩ | h1
            all_goals
              go_wp2_with fail
              refine (rddone_any w4.heap.size A c l 0 wr HR.out).mono ?_
              rintro e w7 ⟨rfl, rfl⟩
              have hd0 : errV (doneR l 0) = .nilIface := by rw [HL0.out]; rfl
              rw [hd0]
              clear hd0
              go_wp2_with fail
              refine (sure_any _).mono ?_
              rintro e w8 ⟨rfl, hk8⟩
              have HK8 := Lib.hid (HK.out.trans hk8 (by simp))
              clear hk8
              go_wp2_with fail
              go_ret
              exact ⟨rfl, KEEP.out _ HK8.out⟩
end Go.Proofs.Ytficgbeolmdbiaa
