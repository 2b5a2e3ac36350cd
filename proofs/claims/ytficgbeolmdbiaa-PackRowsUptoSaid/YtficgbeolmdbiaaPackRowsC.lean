/- The law on things laid: called with any things (of bulk at most 1048576) it answers true. -/
import Derived.Test.YtficgbeolmdbiaaPackLaid
import Derived.Test.YtficgbeolmdbiaaPackSure
namespace Go.Proofs.Ytficgbeolmdbiaa
open Go.RowKit

/-- A thing: its kind. -/
abbrev KTh : K := K.pair (K.int .i64) (K.pair (K.int .i64) (K.pair (K.slice 1 (K.int .u8)) (K.pair (K.arr 32 (K.int .u8)) K.nil)))
abbrev Th : Type := Int × Int × ((Option Addr × Nat) × List Int) × List Int × Unit
def Th.b (x : Th) : List UInt8 := toB x.2.2.1.2
def Th.p (x : Th) : List UInt8 := toB x.2.2.2.1
def Th.spec (x : Th) : List UInt8 := thB x.1 x.2.1 x.b x.p
def Th.ad (x : Th) : Option Addr := x.2.2.1.1.1
def Th.cp (x : Th) : Nat := x.2.2.1.1.2
/-- What is known of a thing. -/
structure Th.fine (w : World) (x : Th) : Prop where
  cells : (K.st KTh).cells x = (.int .i64 x.1 :: .int .i64 x.2.1 :: .slice x.ad x.b.length x.cp :: encB x.p)
  lo : -9223372036854775808 ≤ x.2.1
  hi : x.2.1 ≤ 9223372036854775807
  rd : RdB w x.ad x.b
  p32 : x.p.length = 32
  cap : x.b.length ≤ x.cp
  lt : ∀ a, x.ad = some a → 0 < x.b.length → a.block < w.heap.size
theorem Th.fine_of {w : World} {x : Th} (h : (K.st KTh).ok w x) : x.fine w := by
  obtain ⟨h0, h1, h2, h3, _⟩ := h
  have hb := RdB.of_k h2
  have hp := arrB_of_k h3
  have hw : (Lit.int .i64 x.2.1).wf = true := h1
  have hr : -9223372036854775808 ≤ x.2.1 ∧ x.2.1 ≤ 9223372036854775807 := by simpa [Lit.wf, IntKind.min, IntKind.max, IntKind.signed, IntKind.bits] using hw
  refine ⟨?_, hr.1, hr.2, hb.1, hp.2, hb.2.1, fun a ha hl => Rd.lt hb.1 (by rw [length_encB]; exact hl) ha⟩
  have e1 : (K.arr 32 (K.int .u8)).cells x.2.2.2.1 = encB x.p := hp.1
  have e2 : x.b.length = x.2.2.1.2.length := length_toB _
  rw [e2]
  show Value.int .i64 x.1 :: Value.int .i64 x.2.1 :: Value.slice x.2.2.1.1.1 x.2.2.1.2.length x.2.2.1.1.2 :: ((K.arr 32 (K.int .u8)).cells x.2.2.2.1 ++ []) = _
  rw [e1, List.append_nil]
  rfl
theorem Th.fine.agg {w : World} {x : Th} (h : x.fine w) : Value.agg ((K.st KTh).cells x).toArray = thV x.1 x.2.1 x.ad x.b.length x.cp x.p := by
  rw [h.cells]
  simp [thV]
theorem Th.fine.length {w : World} {x : Th} (h : x.fine w) : ((K.st KTh).cells x).length = 35 := by
  rw [h.cells]
  simp [h.p32]

theorem length_thB (kd n : Int) (l p : List UInt8) (h32 : p.length = 32) : (thB kd n l p).length ≤ l.length + 40 := by
  unfold thB
  have h1 := length_uintB_le (IntKind.u64.wrap n).toNat
  have h2 := length_intB_le n
  have h3 := length_uintB_le l.length
  split
  · omega
  · split
    · omega
    · split
      · simp
      · split
        · simp only [lenB, List.length_append]; omega
        · omega
/-- All of them, laid. -/
def thsB (xs : List Th) : List UInt8 := xs.flatMap Th.spec
theorem thsB_snoc (xs : List Th) (j : Nat) (h : j < xs.length) : thsB (xs.take (j + 1)) = thsB (xs.take j) ++ (xs[j]).spec := by
  rw [List.take_succ_eq_append_getElem h]
  unfold thsB
  rw [List.flatMap_append, List.flatMap_singleton]
theorem length_thsB (xs : List Th) (B : Nat) (h : ∀ x ∈ xs, x.b.length ≤ B ∧ x.p.length = 32) (j : Nat) : (thsB (xs.take j)).length ≤ j * (B + 40) := by
  induction j with
  | zero => simp [thsB]
  | succ j ih =>
    by_cases hj : j < xs.length
    · rw [thsB_snoc xs j hj, List.length_append, Nat.succ_mul]
      have hx := h _ (List.getElem_mem hj)
      have : ((xs[j]).spec).length ≤ (xs[j]).b.length + 40 := length_thB _ _ _ _ hx.2
      omega
    · rw [List.take_of_length_le (by omega)]
      rw [List.take_of_length_le (by omega)] at ih
      rw [Nat.succ_mul]
      omega

/-- Between two rounds. -/
def RowsInv (w : World) (s : List UInt8) (vb : Value) (wr : World) : Prop :=
  ∃ A c out Ab cb, vb = .slice Ab out.length cb ∧ Hid (out = s) ∧ Wr wr w.heap.size A c out ∧ RdB wr Ab out ∧ (∀ a, Ab = some a → 0 < out.length → a.block ∉ w.heap.size :: blk A) ∧ Keeps [] w wr ∧ (∀ a, A = some a → w.heap.size ≤ a.block)

theorem info_thing : (Try.prog.info? 35).map (·.size) = some 35 := by kernel_rfl
theorem RowsInv.keeps0 {w wr w' : World} {s : List UInt8} {vb : Value} (h : RowsInv w s vb wr) (hk : Keeps [] wr w') : RowsInv w s vb w' := by
  obtain ⟨A, c, out, Ab, cb, e, ho, hw, hr, hb, h1, hn⟩ := h
  exact ⟨A, c, out, Ab, cb, e, ho, hw.keeps hk (by simp) (fun _ _ => by simp), hr.keeps0 hk, hb, h1.trans hk (by simp), hn⟩
theorem RowsInv.step {w wr w1 w2 : World} {A A1 Ab : Option Addr} {c1 : Nat} {out1 l2 s : List UInt8} (hn : ∀ a, A = some a → w.heap.size ≤ a.block) (hk : Keeps [] w wr)
    (h1 : Wr w1 w.heap.size A1 c1 out1) (hk1 : Keeps (w.heap.size :: blk A) wr w1) (hn1 : ∀ a, A1 = some a → a.block ∈ blk A ∨ wr.heap.size ≤ a.block) (e1 : out1 = s)
    {cb : Nat} (h2 : NewStep 5 s w1 w2 Ab cb l2) : RowsInv w s (.slice Ab l2.length cb) w2 ∧ Keeps [] w w2 := by
  obtain ⟨hs, ho, hn2, hk2⟩ := h2
  have hkw : Keeps [] w w1 := Keeps.wr hk (Nat.le_refl _) hk1 hn
  have e2 : l2 = s := hs.out
  subst e2
  subst e1
  refine ⟨⟨A1, c1, out1, Ab, cb, rfl, rfl, h1.keeps hk2 (by simp) (fun _ _ => by simp), ho.rd, fun a ha _ => ?_, hkw.trans hk2 (by simp), fun a ha => ?_⟩, hkw.trans hk2 (by simp)⟩
  · have h0 := hn2 a ha
    have hg := h1.lt
    intro hm
    rcases List.mem_cons.1 hm with e | hm
    · omega
    · obtain ⟨a1, e3, e4⟩ := mem_blk.1 hm
      have := h1.2.1.lt a1 e3
      omega
  · rcases hn1 a ha with h | h
    · obtain ⟨a1, e3, e4⟩ := mem_blk.1 h
      have := hn a1 e3
      omega
    · have := hk.size; omega

set_option maxHeartbeats 8000000 in
theorem law_any (A0 : Option Addr) (c0 : Nat) (xs : List Th) (w : World) (hok : (K.slice 72 (K.st KTh)).ok w ((A0, c0), xs)) (hbk : (K.slice 72 (K.st KTh)).bulk ((A0, c0), xs) ≤ 1048576) :
    Calls Try.prog 4 #[.slice A0 xs.length c0] w fun e w' => e = .returned (.bool true) ∧ Below w.heap.size w w' := by
  have keep : ∀ w', Keeps [] w w' → Below w.heap.size w w' := fun w' h => h.below (Nat.le_refl _) (by simp)
  obtain ⟨hcap, hsz, hrd, hels⟩ := hok
  have hfine : ∀ x ∈ xs, x.fine w := fun x hx => Th.fine_of (hels x hx)
  have hbl : ∀ x ∈ xs, x.b.length ≤ 1048576 ∧ x.p.length = 32 := by
    intro x hx
    refine ⟨?_, (hfine x hx).p32⟩
    have h1 : (K.st KTh).bulk x ≤ 1048576 := Nat.le_trans (bulk_mem hx) hbk
    have h2 : (K.slice 1 (K.int .u8)).bulk x.2.2.1 ≤ (K.st KTh).bulk x := by
      show _ ≤ 1 + (1 + (_ + _))
      omega
    have h3 : (K.slice 1 (K.int .u8)).bulk x.2.2.1 = x.b.length := by
      rw [Th.b, length_toB]; exact bulk_ints _
    omega
  have hlen : xs.length ≤ 1048576 := Nat.le_trans (bulk_len (k := K.st KTh) (fun y => by show 1 ≤ 1 + _; omega) xs) hbk
  have hel : 0 < xs.length → ∃ g o, A0 = some ⟨g, o, none⟩ ∧ g < w.heap.size ∧ ∀ i (hi : i < xs.length), w.rangeAt g (o + i * 35) ((K.st KTh).cells xs[i]) := fun h => Rd.elems hrd (fun x hx => (hfine x hx).length) (by decide) h
  have KEEP := Lib.hid keep
  have FINE := Lib.hid hfine
  have EL := Lib.hid hel
  have LEN := Lib.hid (fun j => length_thsB xs 1048576 hbl j)
  have BL := Lib.hid hbl
  clear keep hcap hsz hrd hels hfine hbk hbl hel
  go_enter Try.func4, Try.ntmps4
  go_wp2_with fail
  refine (new_any _).mono ?_
  rintro e w1 ⟨rfl, hw1, hk1⟩
  have INV := Lib.hid (show RowsInv w (thsB (xs.take 0)) (.slice none 0 0) w1 from ⟨none, 0, [], none, 0, rfl, by show [] = _; simp [thsB], hw1, RdB.nil _ _, by simp, hk1, by simp⟩)
  clear hw1 hk1
  go_wp2_with fail
  go_loopw [4, 5, 6] (fun v b i wr => ∃ j : Nat, j ≤ xs.length ∧ j ≤ 200 ∧ i = .int .i64 j ∧ v = .pointer (some ⟨w.heap.size, 0, none⟩) ∧ Hid (RowsInv w (thsB (xs.take j)) b wr)) (fun _ _ i _ => 200 - (intOf i).toNat)
  case atStart => exact ⟨0, Nat.zero_le _, by omega, rfl, rfl, INV.out⟩
  case round =>
    clear INV
    obtain ⟨j, hj, hj2, rfl, rfl, hinv⟩ := hrel
    obtain ⟨A, c, out, Ab, cb, rfl, ho, hw, hrb, hAb, hk, hn⟩ := hinv.out
    have HW := Lib.hid hw
    have HRB := Lib.hid hrb
    have HAB := Lib.hid hAb
    have HK := Lib.hid hk
    have HN := Lib.hid hn
    have hol : out.length ≤ 300000000 := by
      have h1 := LEN.out j
      rw [ho.out]
      have h2 : j * (1048576 + 40) ≤ 200 * (1048576 + 40) := Nat.mul_le_mul_right _ hj2
      omega
    clear hw hrb hAb hk hn hinv
    by_cases hlt : j < xs.length ∧ j < 200
    · obtain ⟨hlt1, hlt2⟩ := hlt
      have hi1 : (j : Int) < (xs.length : Int) := by omega
      have hi2 : (j : Int) < 200 := by omega
      obtain ⟨g0, o0, rfl, hg0, hrange⟩ := EL.out (by omega)
      have HRG := Lib.hid (hrange j hlt1)
      have F := Lib.hid (FINE.out xs[j] (List.getElem_mem hlt1))
      have HB := Lib.hid (BL.out xs[j] (List.getElem_mem hlt1))
      have HSN := Lib.hid (thsB_snoc xs j hlt1)
      obtain ⟨x, hx⟩ : ∃ x : Th, x = xs[j] := ⟨_, rfl⟩
      rw [← hx] at HRG F HB HSN
      have HI : Hid ((Try.prog.info? 35).map (·.size) = some ((K.st KTh).cells x).length) := by
        show _ = _
        rw [F.out.length]; exact info_thing
      obtain ⟨cs, hcs⟩ : ∃ cs : List Value, cs = (K.st KTh).cells x := ⟨_, rfl⟩
      rw [← hcs] at HRG HI
      have HAG := Lib.hid (show Value.agg cs.toArray = thV x.1 x.2.1 x.ad x.b.length x.cp x.p by rw [hcs]; exact F.out.agg)
      clear hrange hx hj hj2 hcs
      have hxl : x.b.length ≤ 1048576 := HB.out.1
      go_wp2_with fail
      refine seq_start (by kernel_rfl) (fun x => Keeps [] w x) 14 [0, 1, 2, 3, 4, 5, 6, 7, 8, 9, 10, 11, 12, 13] rfl (HK.out.drew) (fun hS => ?_)
      have HW := Lib.hid (show Wr wr.drew w.heap.size A c out from HW.out)
      have HRB := Lib.hid (show RdB wr.drew Ab out from HRB.out)
      have HK := Lib.hid HK.out.drew
      generalize wr.drew = wd at *
      refine seq_take (v := ?_) rfl (by kernel_rfl) (by kernel_rfl) (by kernel_rfl) (Or.inl ⟨by rfl, fun w' hSw => ?_⟩) (by assumption) ?_
      rotate_left
      · go_simp
        with_reducible rfl
      simp only [Act.put, List.setIfInBounds_toArray, List.set_cons_zero, List.set_cons_succ]
      refine seq_take (v := ?_) rfl (by kernel_rfl) (by kernel_rfl) (by kernel_rfl) (Or.inl ⟨by rfl, fun w' hSw => ?_⟩) (by assumption) ?_
      rotate_left
      · go_simp
        with_reducible rfl
      simp only [Act.put, List.setIfInBounds_toArray, List.set_cons_zero, List.set_cons_succ]
      refine seq_take (v := ?_) rfl (by kernel_rfl) (by kernel_rfl) (by kernel_rfl) (Or.inl ⟨by rfl, fun w' hSw => ?_⟩) (by assumption) ?_
      rotate_left
      · go_simp
        with_reducible rfl
      simp only [Act.put, List.setIfInBounds_toArray, List.set_cons_zero, List.set_cons_succ]
      refine seq_take (v := ?_) rfl (by kernel_rfl) (by kernel_rfl) (by kernel_rfl) (Or.inl ⟨by rfl, fun w' hSw => ?_⟩) (by assumption) ?_
      rotate_left
      · go_simp
        with_reducible rfl
      simp only [Act.put, List.setIfInBounds_toArray, List.set_cons_zero, List.set_cons_succ]
      refine seq_take (v := .agg cs.toArray) rfl (by kernel_rfl) (by kernel_rfl) (by kernel_rfl) ?_ (by assumption) ?_
      · exact yieldsIf_load_mid (by rfl) 35 (.tmp 21) (by rfl) g0 (o0 + j * 35) (by rfl) cs _ (fun w' hw' => rangeAt_keeps HRG.out hw' (by simp)) Try.underlying35 rfl HI.out
      simp only [Act.put, List.setIfInBounds_toArray, List.set_cons_zero, List.set_cons_succ]
      iterate 1 (refine seq_later ?_; simp only [List.cons_append, List.nil_append])
      refine seq_take (v := ?_) rfl (by kernel_rfl) (by kernel_rfl) (by kernel_rfl) (Or.inl ⟨by rfl, fun w' hSw => ?_⟩) (by assumption) ?_
      rotate_left
      · go_simp
        with_reducible rfl
      simp only [Act.put, List.setIfInBounds_toArray, List.set_cons_zero, List.set_cons_succ]
      refine seq_take (v := ?_) rfl (by kernel_rfl) (by kernel_rfl) (by kernel_rfl) (Or.inl ⟨by rfl, fun w' hSw => ?_⟩) (by assumption) ?_
      rotate_left
      · go_simp
        with_reducible rfl
      simp only [Act.put, List.setIfInBounds_toArray, List.set_cons_zero, List.set_cons_succ]
      refine seq_take (v := ?_) rfl (by kernel_rfl) (by kernel_rfl) (by kernel_rfl) (Or.inl ⟨by rfl, fun w' hSw => ?_⟩) (by assumption) ?_
      rotate_left
      · go_simp
        with_reducible rfl
      simp only [Act.put, List.setIfInBounds_toArray, List.set_cons_zero, List.set_cons_succ]
      refine seq_take (v := ?_) rfl (by kernel_rfl) (by kernel_rfl) (by kernel_rfl) (Or.inl ⟨by rfl, fun w' hSw => ?_⟩) (by assumption) ?_
      rotate_left
      · go_simp
        with_reducible rfl
      simp only [Act.put, List.setIfInBounds_toArray, List.set_cons_zero, List.set_cons_succ]
      refine seq_take (v := .agg cs.toArray) rfl (by kernel_rfl) (by kernel_rfl) (by kernel_rfl) ?_ (by assumption) ?_
      · exact yieldsIf_load_mid (by rfl) 35 (.tmp 27) (by rfl) g0 (o0 + j * 35) (by rfl) cs _ (fun w' hw' => rangeAt_keeps HRG.out hw' (by simp)) Try.underlying35 rfl HI.out
      simp only [Act.put, List.setIfInBounds_toArray, List.set_cons_zero, List.set_cons_succ]
      iterate 3 (refine seq_later ?_; simp only [List.cons_append, List.nil_append])
      refine seq_do rfl (by kernel_rfl) (by rfl) (fun K hK => ?_)
      go_simp
      rw [HAG.out]
      refine (lay_any x.1 x.2.1 F.out.lo F.out.hi w.heap.size A c out x.ad x.b x.cp x.p F.out.p32 _ HW.out (by omega) (F.out.rd.keeps0 HK.out) (fun a ha hl => by have h0 := F.out.lt a ha hl; exact ⟨by omega, fun hm => by obtain ⟨a1, e1, e2⟩ := mem_blk.1 hm; have := HN.out a1 e1; omega⟩)).mono ?_
      intro e w2 hp
      obtain ⟨rfl, hst⟩ := hp.step
      obtain ⟨A1, c1, out1, ho1, hw1, hk1, hn1⟩ := hst
      have HW1 := Lib.hid hw1
      have HKK := Lib.hid hk1
      have HN1 := Lib.hid hn1
      have HK1 := Lib.hid (Keeps.wr HK.out (Nat.le_refl _) hk1 HN.out)
      have HRB1 := Lib.hid (HRB.out.keeps hk1 (fun a ha hl => HAB.out a ha hl))
      clear hw1 hk1 hn1 hp
      refine hK.out (fun x => Keeps [] w x) _ _ (fun x h => h) HK1.out (fun hS => ?_)
      refine seq_do rfl (by kernel_rfl) (by rfl) (fun K hK => ?_)
      go_simp
      refine (laid_any x.1 x.2.1 F.out.lo F.out.hi Ab out cb x.ad x.b x.cp x.p F.out.p32 w2 (by omega) HRB1.out (F.out.rd.keeps0 HK1.out)).mono ?_
      intro e w3 hp
      obtain ⟨A3, c3, l3, rfl, hst⟩ := hp.step
      have INV := Lib.hid (RowsInv.step (cb := c3) (s := thsB (xs.take (j + 1))) HN.out HK.out HW1.out HKK.out HN1.out (by rw [ho1.out, HSN.out, ho.out]; rfl) (by rw [HSN.out, ← ho.out]; exact hst))
      clear hp hst
      refine hK.out (fun x => Keeps [] w x) _ _ (fun x h => h) INV.out.2 (fun hS => ?_)
      refine seq_take (v := ?_) rfl (by kernel_rfl) (by kernel_rfl) (by kernel_rfl) (Or.inl ⟨by rfl, fun w' hSw => ?_⟩) (by assumption) ?_
      rotate_left
      · go_simp
        with_reducible rfl
      simp only [Act.put, List.setIfInBounds_toArray, List.set_cons_zero, List.set_cons_succ]
      refine seq_take (v := ?_) rfl (by kernel_rfl) (by kernel_rfl) (by kernel_rfl) (Or.inl ⟨by rfl, fun w' hSw => ?_⟩) (by assumption) ?_
      rotate_left
      · go_simp
        with_reducible rfl
      simp only [Act.put, List.setIfInBounds_toArray, List.set_cons_zero, List.set_cons_succ]
      refine seq_done (by kernel_rfl) ?_
      all_goals skip
      have HS := Lib.hid hS
      have HRG3 := Lib.hid (rangeAt_keeps HRG.out INV.out.2 (by simp))
      clear hS
      go_wp2_with (refine wpList_load_mid rfl 35 (.tmp 33) rfl g0 (o0 + j * 35) rfl cs _ HRG3.out Try.underlying35 rfl HI.out ?_)
      rw [HAG.out]
      refine (lay_nil x.1 x.2.1 F.out.lo F.out.hi x.ad x.b x.cp x.p F.out.p32 _ (by omega) (F.out.rd.keeps0 INV.out.2)).mono ?_
      rintro e w4 ⟨rfl, hk4⟩
      have INV4 : Hid (RowsInv w (thsB (xs.take (j + 1))) (.slice A3 l3.length c3) w4) := INV.out.1.keeps0 hk4
      clear hk4 INV HS HRG3
      go_wp2_with fail
      go_roundw
      case rel => exact ⟨j + 1, by omega, by omega, by go_num, rfl, INV4.out⟩
      case measure => simp [intOf]; omega
    · have hend : thsB (xs.take j) = thsB (xs.take 200) := by
        rw [Decidable.not_and_iff_or_not] at hlt
        rcases hlt with h | h
        · rw [List.take_of_length_le (by omega), List.take_of_length_le (by omega)]
        · rw [show j = 200 by omega]
      have HE := Lib.hid hend
      have F1 := conv_keeps (P := Try.prog) (dst := 9) Try.underlying23 Try.underlying5 Try.underlying9 HRB.out cb
      clear hend
      have hcase : ((j : Int) < (xs.length : Int) ∧ ¬ (j : Int) < 200) ∨ ¬ (j : Int) < (xs.length : Int) := by omega
      clear hlt hj hj2
      rcases hcase with ⟨h1, h2⟩ | h1
      all_goals
        go_wp2_with fail
        refine seq_start (by kernel_rfl) (fun x => Keeps [] w x ∧ Keeps [] wr x) 16 [0, 1, 2, 3, 4, 5, 6, 7, 8, 9, 10, 11, 12, 13, 14, 15] rfl (⟨HK.out.drew, (Keeps.refl [] wr).drew⟩) (fun hS => ?_)
        have HWd := Lib.hid (show Wr wr.drew w.heap.size A c out from HW.out)
        have HKd := Lib.hid (show Keeps [] w wr.drew ∧ Keeps [] wr wr.drew from ⟨HK.out.drew, (Keeps.refl [] wr).drew⟩)
        generalize wr.drew = wd at HWd HKd hS ⊢
        refine seq_take (v := ?_) rfl (by kernel_rfl) (by kernel_rfl) (by kernel_rfl) (Or.inl ⟨by rfl, fun w' hSw => ?_⟩) (by assumption) ?_
        rotate_left
        · go_simp
          with_reducible rfl
        simp only [Act.put, List.setIfInBounds_toArray, List.set_cons_zero, List.set_cons_succ]
        iterate 2 (refine seq_later ?_; simp only [List.cons_append, List.nil_append])
        refine seq_take (v := ?_) rfl (by kernel_rfl) (by kernel_rfl) (by kernel_rfl) (Or.inl ⟨by rfl, fun w' hSw => ?_⟩) (by assumption) ?_
        rotate_left
        · go_simp
          with_reducible rfl
        simp only [Act.put, List.setIfInBounds_toArray, List.set_cons_zero, List.set_cons_succ]
        refine seq_take (v := ?_) rfl (by kernel_rfl) (by kernel_rfl) (by kernel_rfl) (Or.inl ⟨by rfl, fun w' hSw => ?_⟩) (by assumption) ?_
        rotate_left
        · go_simp
          with_reducible rfl
        simp only [Act.put, List.setIfInBounds_toArray, List.set_cons_zero, List.set_cons_succ]
        iterate 11 (refine seq_later ?_; simp only [List.cons_append, List.nil_append])
        refine seq_do rfl (by kernel_rfl) (by rfl) (fun K hK => ?_)
        go_simp
        refine (done_any w.heap.size A c out wd HWd.out (by omega)).mono ?_
        rintro e w4 ⟨A4, c4, o4, ho4, rfl, hO4, hn4, hk4⟩
        have F4 := conv_keeps (P := Try.prog) (dst := 9) Try.underlying23 Try.underlying5 Try.underlying9 hO4.rd c4
        have HK4 := Lib.hid (And.intro (HKd.out.1.trans hk4 (by simp)) (HKd.out.2.trans hk4 (by simp)))
        have b1 : ((strB o4).toList == (strB out).toList) = true := strB_beq_true ho4.out
        clear hk4 hn4 hO4
        refine hK.out (fun x => (Keeps [] w x ∧ Keeps [] wr x) ∧ Keeps [] w4 x) _ _ (fun x h => h.1) ⟨HK4.out, Keeps.refl [] w4⟩ (fun hS => ?_)
        refine seq_take (v := ?_) rfl (by kernel_rfl) (by kernel_rfl) (by kernel_rfl) (Or.inl ⟨by rfl, fun w' hSw => ?_⟩) (by assumption) ?_
        rotate_left
        · go_simp
          with_reducible rfl
        simp only [Act.put, List.setIfInBounds_toArray, List.set_cons_zero, List.set_cons_succ]
        refine seq_take (v := ?_) rfl (by kernel_rfl) (by kernel_rfl) (by kernel_rfl) (Or.inl ⟨by rfl, fun w' hSw => ?_⟩) (by assumption) ?_
        rotate_left
        · go_simp
          with_reducible rfl
        simp only [Act.put, List.setIfInBounds_toArray, List.set_cons_zero, List.set_cons_succ]
        refine seq_take (v := ?_) rfl (by kernel_rfl) (by kernel_rfl) (by kernel_rfl) (Or.inl ⟨by rfl, fun w' hSw => ?_⟩) (by assumption) ?_
        rotate_left
        · go_simp
          with_reducible rfl
        simp only [Act.put, List.setIfInBounds_toArray, List.set_cons_zero, List.set_cons_succ]
        refine seq_take (v := ?_) rfl (by kernel_rfl) (by kernel_rfl) (by kernel_rfl) (Or.inl ⟨by rfl, fun w' hSw => ?_⟩) (by assumption) ?_
        rotate_left
        · go_simp
          with_reducible rfl
        simp only [Act.put, List.setIfInBounds_toArray, List.set_cons_zero, List.set_cons_succ]
        refine seq_do rfl (by kernel_rfl) (by rfl) (fun K hK => ?_)
        go_simp
        refine (done_nil _).mono ?_
        rintro e w5 ⟨rfl, rfl⟩
        refine hK.out (fun x => (Keeps [] w x ∧ Keeps [] wr x) ∧ Keeps [] w4 x) _ _ (fun x h => h) ⟨HK4.out, Keeps.refl [] w4⟩ (fun hS => ?_)
        refine seq_take (v := ?_) rfl (by kernel_rfl) (by kernel_rfl) (by kernel_rfl) (Or.inl ⟨by rfl, fun w' hSw => ?_⟩) (by assumption) ?_
        rotate_left
        · go_simp
          with_reducible rfl
        simp only [Act.put, List.setIfInBounds_toArray, List.set_cons_zero, List.set_cons_succ]
        refine seq_take (v := ?_) rfl (by kernel_rfl) (by kernel_rfl) (by kernel_rfl) (Or.inl ⟨by rfl, fun w' hSw => ?_⟩) (by assumption) ?_
        rotate_left
        · go_simp
          with_reducible rfl
        simp only [Act.put, List.setIfInBounds_toArray, List.set_cons_zero, List.set_cons_succ]
        refine seq_take (v := ?_) rfl (by kernel_rfl) (by kernel_rfl) (by kernel_rfl) (Or.inl ⟨by rfl, fun w' hSw => ?_⟩) (by assumption) ?_
        rotate_left
        · go_simp
          with_reducible rfl
        simp only [Act.put, List.setIfInBounds_toArray, List.set_cons_zero, List.set_cons_succ]
        refine seq_take (v := ?_) rfl (by kernel_rfl) (by kernel_rfl) (by kernel_rfl) (Or.inl ⟨by rfl, fun w' hSw => ?_⟩) (by assumption) ?_
        rotate_left
        · go_simp
          with_reducible rfl
        simp only [Act.put, List.setIfInBounds_toArray, List.set_cons_zero, List.set_cons_succ]
        refine seq_do rfl (by kernel_rfl) (by rfl) (fun K hK => ?_)
        go_simp
        refine (sure_any _).mono ?_
        rintro e w6 ⟨rfl, hk6⟩
        have HK6 := Lib.hid (And.intro (And.intro (HK4.out.1.trans hk6 (by simp)) (HK4.out.2.trans hk6 (by simp))) hk6)
        clear hk6
        refine hK.out (fun x => (Keeps [] w x ∧ Keeps [] wr x) ∧ Keeps [] w4 x) _ _ (fun x h => h) HK6.out (fun hS => ?_)
        refine seq_take (v := ?_) rfl (by kernel_rfl) (by kernel_rfl) (by kernel_rfl) (Or.inl ⟨by rfl, fun w' hSw => ?_⟩) (by assumption) ?_
        rotate_left
        · go_simp
          with_reducible rfl
        simp only [Act.put, List.setIfInBounds_toArray, List.set_cons_zero, List.set_cons_succ]
        refine seq_take (v := ?_) rfl (by kernel_rfl) (by kernel_rfl) (by kernel_rfl) (Or.inl ⟨by rfl, fun w' hSw => ?_⟩) (by assumption) ?_
        rotate_left
        · go_simp
          with_reducible rfl
        simp only [Act.put, List.setIfInBounds_toArray, List.set_cons_zero, List.set_cons_succ]
        refine seq_done (by kernel_rfl) ?_
        all_goals skip
        clear F1 F4 b1
        go_wp2_with fail
        go_ret
        exact ⟨rfl, KEEP.out _ HK6.out.1.1⟩
end Go.Proofs.Ytficgbeolmdbiaa
