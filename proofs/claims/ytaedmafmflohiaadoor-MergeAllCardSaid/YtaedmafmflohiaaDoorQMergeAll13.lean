/- The document's answer for many rows: a contract. -/
import Derived.Test.YtaedmafmflohiaaDoorQMergeAll11
import Derived.Test.YtaedmafmflohiaaDoorQMergeAll12
import Derived.RegionTactic
import Derived.Laws.Cover1
namespace Go.Proofs.YtaedmafmflohiaaDoor
open Go.RowKit

theorem RdL.cell {w : World} {gl ol : Nat} {rs : List Ro} (h : RdL w (some ⟨gl, ol, none⟩) rs) {i : Nat} (hi : i < rs.length) : w.cell? ⟨gl, ol + i, none⟩ = some (.slice rs[i].A rs[i].es.length rs[i].c) := by
  obtain ⟨g, o, e, hc⟩ := h.at_ hi
  injection e with e
  injection e with e1 e2
  subst e1 e2
  exact hc
theorem en_cell14 {w : World} {g o n : Nat} {l : List En} (h : Rd w (some ⟨g, o, none⟩) n 3 (encEn l)) {i : Nat} (hi : i < l.length) : w.cell? ⟨g, o + i * 3, none⟩ = some (.string (strB l[i].k)) ∧ w.cell? ⟨g, o + i * 3 + 1, none⟩ = some (.string (strB l[i].v)) ∧ w.cell? ⟨g, o + i * 3 + 2, none⟩ = some (.bool l[i].g) := by
  obtain ⟨g', o', e, h1, h2, h3⟩ := en_cells h hi
  injection e with e
  injection e with e1 e2
  subst e1 e2
  exact ⟨h1, h2, h3⟩
theorem len_le_sum14 {es : List En} : ∀ {Ls : List (List En)}, es ∈ Ls → es.length ≤ (Ls.map List.length).sum
  | [], h => by cases h
  | x :: Ls, h => by
    rw [List.map_cons, List.sum_cons]
    rcases List.mem_cons.1 h with rfl | h
    · omega
    · have := len_le_sum14 h
      omega
theorem fold_len : ∀ (es m : List En), (es.foldl putE m).length ≤ es.length + m.length
  | [], m => by simp
  | e :: es, m => by
    have := fold_len es (putE m e)
    rw [putE_len] at this
    rw [List.foldl_cons, List.length_cons]
    split at this <;> omega
theorem drop_sum (Ls : List (List En)) {i : Nat} (hi : i < Ls.length) (m : Nat) : ((Ls[i].take m).foldl putE (refM (Ls.drop (i + 1)))).length ≤ (Ls.map List.length).sum := by
  have h1 := fold_len (Ls[i].take m) (refM (Ls.drop (i + 1)))
  have h2 := refM_len (Ls.drop (i + 1))
  have h3 : (Ls[i].take m).length ≤ Ls[i].length := by rw [List.length_take]; omega
  have h4 : (Ls.map List.length).sum = ((Ls.take i).map List.length).sum + (Ls[i].length + ((Ls.drop (i + 1)).map List.length).sum) := by
    conv => lhs; rw [← List.take_append_drop i Ls, List.drop_eq_getElem_cons hi, List.map_append, List.sum_append, List.map_cons, List.sum_cons]
  omega
/-- What the document says of many rows. -/
def RAllP (Ls : List (List En)) (drop : Bool) (w : World) (r : Ending) (w' : World) : Prop :=
  Keeps [] w w' ∧ (((∀ es ∈ Ls, Srt es) ∧ ∃ A c, r = .returned (.tuple #[.slice A (keepE drop (refM Ls)).length c, .int .i64 0]) ∧ Rd w' A (keepE drop (refM Ls)).length 3 (encEn (keepE drop (refM Ls))) ∧ ∀ a, A = some a → w.heap.size ≤ a.block) ∨
    ((¬ ∀ es ∈ Ls, Srt es) ∧ r = .returned (.tuple #[.slice none 0 0, .int .i64 41])))
/-- Rows from i on put one behind the other. -/
structure RfI (w wr : World) (Ls : List (List En)) (j : Nat) (mA : Option Addr) (mc : Nat) (m : List En) : Prop where
  srt : ∀ es ∈ Ls.drop j, Srt es
  m_ : m = refM (Ls.drop j)
  rd : Rd wr mA m.length 3 (encEn m)
  cap : m.length ≤ mc
  kp : Keeps [] w wr
/-- The same within a row. -/
structure RfK (w wr : World) (Ls : List (List En)) (i : Nat) (es : List En) (k : Nat) (mA : Option Addr) (mc : Nat) (m : List En) : Prop where
  adj : ∀ t (h : t < es.length), 1 ≤ t → t < k → Op.bytesLess (es[t - 1]'(by omega)).k es[t].k = true
  m_ : m = (es.take k).foldl putE (refM (Ls.drop (i + 1)))
  rd : Rd wr mA m.length 3 (encEn m)
  cap : m.length ≤ mc
  kp : Keeps [] w wr
theorem RfK.keeps0 {w wr wr' : World} {Ls : List (List En)} {i : Nat} {es : List En} {k : Nat} {mA : Option Addr} {mc : Nat} {m : List En} (h : RfK w wr Ls i es k mA mc m) (hk : Keeps [] wr wr') : RfK w wr' Ls i es k mA mc m := ⟨h.adj, h.m_, h.rd.keeps0 hk, h.cap, h.kp.trans hk (by simp)⟩
/-- What is kept of the first i. -/
structure OuI (w2 wr : World) (A' : Option Addr) (c' N : Nat) (drop : Bool) (m : List En) (i : Nat) : Prop where
  own : wr.ownsRow 0 39 3 (.slice A' N c') N (encEn (keepE drop (m.take i)))
  len : N = (keepE drop (m.take i)).length
  ap : ∀ a, A' = some a → w2.heap.size ≤ a.block
  kp : Keeps [] w2 wr
theorem OuI.skip {w2 wr : World} {A' : Option Addr} {c' N : Nat} {m : List En} {i : Nat} (h : OuI w2 wr A' c' N true m i) (hi : i + 1 ≤ m.length) (hg : (m[i]'hi).g = true) : OuI w2 wr A' c' N true m (i + 1) := by
  have e : keepE true (m.take (i + 1)) = keepE true (m.take i) := by rw [take_snoc hi, keepE_snoc, hg]; simp
  exact ⟨by rw [e]; exact h.own, by rw [e]; exact h.len, h.ap, h.kp⟩
theorem OuI.add {w2 wr wa w4 : World} {A' A2 : Option Addr} {c' c2 N N2 : Nat} {drop : Bool} {m : List En} {i : Nat} {x : En} (h : OuI w2 wr A' c' N drop m i) (hi : i + 1 ≤ m.length) (hx : x = m[i]'hi) (hg : (!drop || !x.g) = true) (hka : Keeps [] wr wa)
    (ho : w4.ownsRow 0 39 3 (.slice A2 N2 c2) N2 (encEn (keepE drop (m.take i)) ++ x.cells)) (hN : N2 = N + 1) (hk : Keeps (blk A') wa w4) (hb : ∀ a, A2 = some a → a.block ∈ blk A' ∨ wa.heap.size ≤ a.block) : OuI w2 w4 A2 c2 N2 drop m (i + 1) := by
  have e : keepE drop (m.take (i + 1)) = keepE drop (m.take i) ++ [x] := by rw [take_snoc hi, keepE_snoc, ← hx, if_pos hg]
  have s1 := h.kp.size
  have s2 := hka.size
  refine ⟨by rw [e, encEn_append]; simpa [encEn] using ho, by rw [e, List.length_append, ← h.len, hN]; rfl, fun a ha => ?_, (h.kp.trans hka (by simp)).fresh hk h.ap⟩
  rcases hb a ha with h1 | h1
  · obtain ⟨b, e1, e2⟩ := mem_blk.1 h1
    rw [← e2]; exact h.ap b e1
  · omega
set_option maxRecDepth 100000 in
set_option maxHeartbeats 16000000 in
theorem rall14_any (A : Option Addr) (c : Nat) (rs : List Ro) (drop : Bool) (w : World) (h : RdL w A rs) (hl : rs.length ≤ 1000) (ht : totR rs ≤ 400) :
    Calls Tryd.prog 9 #[.slice A rs.length c, .bool drop] w (RAllP (rs.map Ro.es) drop w) := by
  have HR := Lib.hid h
  obtain ⟨n, hn⟩ : ∃ n, n = rs.length := ⟨_, rfl⟩
  obtain ⟨Ls, hLs⟩ : ∃ Ls, Ls = rs.map Ro.es := ⟨_, rfl⟩
  have HLs := Lib.hid (show Ls = rs.map Ro.es ∧ Ls.length = n ∧ (Ls.map List.length).sum ≤ 400 ∧ n = rs.length from ⟨hLs, by rw [hLs, List.length_map, hn], by rw [hLs, List.map_map]; exact ht, hn⟩)
  rw [← hn] at hl
  rw [← hn, ← hLs]
  clear h hn hLs ht
  go_enter Tryd.func9, Tryd.ntmps9
  go_wp2_with fail
  go_loopw [6, 7] (fun s6 s7 wr => ∃ (j : Nat) (mA : Option Addr) (mc : Nat) (m : List En), s7 = .int .i64 ((j : Int) - 1) ∧ s6 = .slice mA m.length mc ∧ Hid (j ≤ n ∧ RfI w wr Ls j mA mc m)) (fun _ s7 _ => (intOf s7 + 1).toNat)
  case atStart =>
    refine ⟨n, none, 0, [], by go_num, rfl, ⟨Nat.le_refl _, ?_⟩⟩
    have e1 : Ls.drop n = [] := List.drop_of_length_le (by have := HLs.out.2.1; omega)
    exact ⟨by rw [e1]; simp, by rw [e1]; rfl, Rd.of_own (World.ownsRow_nil _ 0 39 3), Nat.le_refl _, Keeps.refl [] w⟩
  case round =>
    obtain ⟨j, mA, mc, m, rfl, rfl, D0⟩ := hrel
    by_cases hj : 0 < j
    · obtain ⟨i, rfl⟩ : ∃ i, j = i + 1 := ⟨j - 1, by omega⟩
      have ei : ((i + 1 : Nat) : Int) - 1 = (i : Int) := by omega
      rw [ei]
      have hin : (i : Int) < (n : Int) := by have := D0.out.1; omega
      have HIL := Lib.hid (show i < rs.length ∧ i < n ∧ i < Ls.length from by have := HLs.out.2; have := D0.out.1; omega)
      obtain ⟨gl, ol, rfl, x0⟩ := (HR.out.keeps0 D0.out.2.kp).at_ HIL.out.1
      obtain ⟨ro, hro⟩ : ∃ ro, ro = rs[i]'(HIL.out.1) := ⟨_, rfl⟩
      obtain ⟨es, hes⟩ : ∃ es, es = Ls[i]'(HIL.out.2.2) := ⟨_, rfl⟩
      obtain ⟨B, hB⟩ : ∃ B, B = ro.A := ⟨_, rfl⟩
      obtain ⟨b, hb⟩ : ∃ b, b = ro.c := ⟨_, rfl⟩
      obtain ⟨e, he⟩ : ∃ e, e = es.length := ⟨_, rfl⟩
      have HROW := Lib.hid (show (∀ z, Keeps [] w z → z.cell? ⟨gl, ol + i, none⟩ = some (.slice B e b) ∧ Rd z B es.length 3 (encEn es)) ∧ e = es.length ∧ es = Ls[i]'(HIL.out.2.2) from by
        have e1 : es = ro.es := by rw [hes, hro]; simp [HLs.out.1]
        refine ⟨fun z hz => ?_, he, hes⟩
        have h1 := HR.out.keeps0 hz
        have h2 := h1.cell HIL.out.1
        rw [← hro, ← hB, ← hb, ← e1, ← he] at h2
        refine ⟨h2, ?_⟩
        have h3 := (h1.2 ro (by rw [hro]; exact List.getElem_mem _)).1
        rw [hB, e1]
        exact h3)
      have HFL := Lib.hid (show ∀ k, ((es.take k).foldl putE (refM (Ls.drop (i + 1)))).length ≤ 400 from fun k => by rw [hes]; exact Nat.le_trans (drop_sum Ls HIL.out.2.2 k) HLs.out.2.2.1)
      have he4 : e ≤ 400 := by
        have h1 := len_le_sum14 (List.getElem_mem HIL.out.2.2)
        rw [← hes] at h1
        have := HLs.out.2.2.1
        omega
      have HS0 := Lib.hid D0.out.2.srt
      have D1 := Lib.hid (show RfK w wr Ls i es 0 mA mc m from ⟨fun t h h1 h2 => by omega, by rw [D0.out.2.m_]; rfl, D0.out.2.rd, D0.out.2.cap, D0.out.2.kp⟩)
      clear x0 hro hes hB hb he hj D0 ei
      go_wp2_with fail
      go_loopw [6, 8] (fun s6 s8 wr => ∃ (k : Nat) (mA : Option Addr) (mc : Nat) (m : List En), s8 = .int .i64 k ∧ s6 = .slice mA m.length mc ∧ Hid (k ≤ e ∧ RfK w wr Ls i es k mA mc m)) (fun _ s8 _ => e - (intOf s8).toNat)
      case atStart => exact ⟨0, mA, mc, m, rfl, rfl, ⟨Nat.zero_le _, D1.out⟩⟩
      case round =>
        clear D1
        obtain ⟨k, mA, mc, m, rfl, rfl, D⟩ := hrel
        have x0 := (HROW.out.1 wr D.out.2.kp).1
        by_cases hke : k < e
        · have hkei : (k : Int) < (e : Int) := by omega
          have HKL := Lib.hid (show k < es.length ∧ k < e from by have := HROW.out.2.1; omega)
          obtain ⟨ge, oe, hBe, y0, _, _⟩ := en_cells (HROW.out.1 wr D.out.2.kp).2 HKL.out.1
          subst hBe
          obtain ⟨x, hx⟩ : ∃ x, x = es[k]'(HKL.out.1) := ⟨_, rfl⟩
          rw [← hx] at y0
          have HX := Lib.hid hx
          have HC := Lib.hid (And.intro x0 y0)
          clear hx
          have hcase : k = 0 ∨ (∃ h : 0 < k, Op.bytesLess (es[k - 1]'(by have := HKL.out.1; omega)).k x.k = true) ∨ (∃ h : 0 < k, Op.bytesLess (es[k - 1]'(by have := HKL.out.1; omega)).k x.k = false) := by
            rcases Nat.eq_zero_or_pos k with h | h
            · exact .inl h
            · cases hq : Op.bytesLess (es[k - 1]'(by have := HKL.out.1; omega)).k x.k with
              | true => exact .inr (.inl ⟨h, hq⟩)
              | false => exact .inr (.inr ⟨h, hq⟩)
          rcases hcase with h0 | ⟨h0, hq⟩ | ⟨h0, hq⟩
          case' inl =>
            have h0i : ¬ (0 : Int) < (k : Int) := by omega
            have h0n : ¬ 0 < k := by omega
            have H2 := Lib.hid (show RfK w wr.drew Ls i es k mA mc m ∧ ∀ t (h : t < es.length), 1 ≤ t → t < k + 1 → Op.bytesLess (es[t - 1]'(by omega)).k es[t].k = true from ⟨D.out.2.keeps0 (Keeps.refl [] wr).drew, fun t h h1 h2 => by omega⟩)
            clear h0 D
            go_upto_region 8 with fail
            refine seq_start (by kernel_rfl) (fun _ => True) 22 [0, 1, 2, 3, 4, 5, 6, 7, 8, 9, 10, 11, 12, 13, 14, 15, 16, 17, 18, 19, 20, 21] rfl (trivial) (fun hS => ?_)
            refine seq_take (v := ?_) rfl (by kernel_rfl) (by kernel_rfl) (by kernel_rfl) (Or.inl ⟨by rfl, fun w' hSw => ?_⟩) (by assumption) ?_
            rotate_left
            · go_simp
              with_reducible rfl
            simp only [Act.put, List.setIfInBounds_toArray, List.set_cons_zero, List.set_cons_succ]
            refine seq_take (v := ?_) rfl (by kernel_rfl) (by kernel_rfl) (by kernel_rfl) (Or.inl ⟨by rfl, fun w' hSw => ?_⟩) (by assumption) ?_
            rotate_left
            · go_simp
              with_reducible rfl
            simp only [Act.put, List.setIfInBounds_toArray, List.set_cons_zero, List.set_cons_succ]
            refine seq_take (v := ?_) rfl (by kernel_rfl) (by kernel_rfl) (by kernel_rfl) (Or.inl ⟨by rfl, fun w' hSw => ?_⟩) (by assumption) ?_
            rotate_left
            · go_simp
              with_reducible rfl
            simp only [Act.put, List.setIfInBounds_toArray, List.set_cons_zero, List.set_cons_succ]
            refine seq_take (v := undef) rfl (by kernel_rfl) (by kernel_rfl) (by kernel_rfl) (Or.inr ⟨by rfl, rfl⟩) (by assumption) ?_
            simp only [Act.put, List.setIfInBounds_toArray, List.set_cons_zero, List.set_cons_succ]
            refine seq_take (v := undef) rfl (by kernel_rfl) (by kernel_rfl) (by kernel_rfl) (Or.inr ⟨by rfl, rfl⟩) (by assumption) ?_
            simp only [Act.put, List.setIfInBounds_toArray, List.set_cons_zero, List.set_cons_succ]
            refine seq_take (v := undef) rfl (by kernel_rfl) (by kernel_rfl) (by kernel_rfl) (Or.inr ⟨by rfl, rfl⟩) (by assumption) ?_
            simp only [Act.put, List.setIfInBounds_toArray, List.set_cons_zero, List.set_cons_succ]
            refine seq_take (v := undef) rfl (by kernel_rfl) (by kernel_rfl) (by kernel_rfl) (Or.inr ⟨by rfl, rfl⟩) (by assumption) ?_
            simp only [Act.put, List.setIfInBounds_toArray, List.set_cons_zero, List.set_cons_succ]
            refine seq_take (v := undef) rfl (by kernel_rfl) (by kernel_rfl) (by kernel_rfl) (Or.inr ⟨by rfl, rfl⟩) (by assumption) ?_
            simp only [Act.put, List.setIfInBounds_toArray, List.set_cons_zero, List.set_cons_succ]
            refine seq_take (v := undef) rfl (by kernel_rfl) (by kernel_rfl) (by kernel_rfl) (Or.inr ⟨by rfl, rfl⟩) (by assumption) ?_
            simp only [Act.put, List.setIfInBounds_toArray, List.set_cons_zero, List.set_cons_succ]
            refine seq_take (v := undef) rfl (by kernel_rfl) (by kernel_rfl) (by kernel_rfl) (Or.inr ⟨by rfl, rfl⟩) (by assumption) ?_
            simp only [Act.put, List.setIfInBounds_toArray, List.set_cons_zero, List.set_cons_succ]
            refine seq_take (v := undef) rfl (by kernel_rfl) (by kernel_rfl) (by kernel_rfl) (Or.inr ⟨by rfl, rfl⟩) (by assumption) ?_
            simp only [Act.put, List.setIfInBounds_toArray, List.set_cons_zero, List.set_cons_succ]
            refine seq_take (v := undef) rfl (by kernel_rfl) (by kernel_rfl) (by kernel_rfl) (Or.inr ⟨by rfl, rfl⟩) (by assumption) ?_
            simp only [Act.put, List.setIfInBounds_toArray, List.set_cons_zero, List.set_cons_succ]
            refine seq_take (v := undef) rfl (by kernel_rfl) (by kernel_rfl) (by kernel_rfl) (Or.inr ⟨by rfl, rfl⟩) (by assumption) ?_
            simp only [Act.put, List.setIfInBounds_toArray, List.set_cons_zero, List.set_cons_succ]
            refine seq_take (v := undef) rfl (by kernel_rfl) (by kernel_rfl) (by kernel_rfl) (Or.inr ⟨by rfl, rfl⟩) (by assumption) ?_
            simp only [Act.put, List.setIfInBounds_toArray, List.set_cons_zero, List.set_cons_succ]
            refine seq_take (v := undef) rfl (by kernel_rfl) (by kernel_rfl) (by kernel_rfl) (Or.inr ⟨by rfl, rfl⟩) (by assumption) ?_
            simp only [Act.put, List.setIfInBounds_toArray, List.set_cons_zero, List.set_cons_succ]
            refine seq_take (v := undef) rfl (by kernel_rfl) (by kernel_rfl) (by kernel_rfl) (Or.inr ⟨by rfl, rfl⟩) (by assumption) ?_
            simp only [Act.put, List.setIfInBounds_toArray, List.set_cons_zero, List.set_cons_succ]
            refine seq_take (v := undef) rfl (by kernel_rfl) (by kernel_rfl) (by kernel_rfl) (Or.inr ⟨by rfl, rfl⟩) (by assumption) ?_
            simp only [Act.put, List.setIfInBounds_toArray, List.set_cons_zero, List.set_cons_succ]
            refine seq_take (v := undef) rfl (by kernel_rfl) (by kernel_rfl) (by kernel_rfl) (Or.inr ⟨by rfl, rfl⟩) (by assumption) ?_
            simp only [Act.put, List.setIfInBounds_toArray, List.set_cons_zero, List.set_cons_succ]
            refine seq_take (v := undef) rfl (by kernel_rfl) (by kernel_rfl) (by kernel_rfl) (Or.inr ⟨by rfl, rfl⟩) (by assumption) ?_
            simp only [Act.put, List.setIfInBounds_toArray, List.set_cons_zero, List.set_cons_succ]
            refine seq_take (v := undef) rfl (by kernel_rfl) (by kernel_rfl) (by kernel_rfl) (Or.inr ⟨by rfl, rfl⟩) (by assumption) ?_
            simp only [Act.put, List.setIfInBounds_toArray, List.set_cons_zero, List.set_cons_succ]
            refine seq_take (v := undef) rfl (by kernel_rfl) (by kernel_rfl) (by kernel_rfl) (Or.inr ⟨by rfl, rfl⟩) (by assumption) ?_
            simp only [Act.put, List.setIfInBounds_toArray, List.set_cons_zero, List.set_cons_succ]
            refine seq_take (v := ?_) rfl (by kernel_rfl) (by kernel_rfl) (by kernel_rfl) (Or.inl ⟨by rfl, fun w' hSw => ?_⟩) (by assumption) ?_
            rotate_left
            · go_simp
              with_reducible rfl
            simp only [Act.put, List.setIfInBounds_toArray, List.set_cons_zero, List.set_cons_succ]
            refine seq_done (by kernel_rfl) ?_
            all_goals skip
            clear hS h0i h0n x0 y0
          rotate_left
          case' inr.inl =>
            have h0i : (0 : Int) < (k : Int) := by omega
            obtain ⟨k1, hk1⟩ : ∃ k1, k - 1 = k1 := ⟨_, rfl⟩
            have e1 : (k : Int) - 1 = (k1 : Int) := by omega
            have hk1e : (k1 : Int) < (e : Int) := by omega
            have e2 : IntKind.i64.wrap (k1 : Int) = (k1 : Int) := by rw [IntKind.wrap_i64]; omega
            have HK1 := Lib.hid (show k1 < es.length ∧ k1 < k ∧ k1 = k - 1 from by have := HKL.out.1; omega)
            obtain ⟨ka, hka⟩ : ∃ ka, ka = (es[k1]'(HK1.out.1)).k := ⟨_, rfl⟩
            have fl : Op.bytesLess (strB ka).toList (strB x.k).toList = true := by
              rw [strB_toList, strB_toList, hka]
              simp only [hk1] at hq
              exact hq
            have H2 := Lib.hid (show RfK w wr.drew Ls i es k mA mc m ∧ ∀ t (h : t < es.length), 1 ≤ t → t < k + 1 → Op.bytesLess (es[t - 1]'(by omega)).k es[t].k = true from ⟨D.out.2.keeps0 (Keeps.refl [] wr).drew, fun t h h1 h2 => by
              by_cases e : t = k
              · subst e
                rw [HX.out] at hq
                exact hq
              · exact D.out.2.adj t h h1 (by omega)⟩)
            have a0 := (en_cell14 (HROW.out.1 wr D.out.2.kp).2 HK1.out.1).1
            rw [← hka] at a0
            have HA := Lib.hid a0
            have qx : ∀ z : World, Keeps [] wr z → z.cell? ⟨gl, ol + i, none⟩ = some (.slice (some ⟨ge, oe, none⟩) e b) := fun z hz => hz.cell HC.out.1 (by simp)
            have qa : ∀ z : World, Keeps [] wr z → z.cell? ⟨ge, oe + k1 * 3, none⟩ = some (.string (strB ka)) := fun z hz => hz.cell HA.out (by simp)
            have qb : ∀ z : World, Keeps [] wr z → z.cell? ⟨ge, oe + k * 3, none⟩ = some (.string (strB x.k)) := fun z hz => hz.cell HC.out.2 (by simp)
            clear hka hq D y0 a0
            go_upto_region 8 with fail
            clear x0
            refine seq_start (by kernel_rfl) (fun z => Keeps [] wr z) 22 [0, 1, 2, 3, 4, 5, 6, 7, 8, 9, 10, 11, 12, 13, 14, 15, 16, 17, 18, 19, 20, 21] rfl ((Keeps.refl [] wr).drew) (fun hS => ?_)
            refine seq_take (v := ?_) rfl (by kernel_rfl) (by kernel_rfl) (by kernel_rfl) (Or.inl ⟨by rfl, fun w' hSw => ?_⟩) (by assumption) ?_
            rotate_left
            · go_simp
              with_reducible rfl
            simp only [Act.put, List.setIfInBounds_toArray, List.set_cons_zero, List.set_cons_succ]
            refine seq_take (v := ?_) rfl (by kernel_rfl) (by kernel_rfl) (by kernel_rfl) (Or.inl ⟨by rfl, fun w' hSw => ?_⟩) (by assumption) ?_
            rotate_left
            · go_simp
              with_reducible rfl
            simp only [Act.put, List.setIfInBounds_toArray, List.set_cons_zero, List.set_cons_succ]
            refine seq_take (v := ?_) rfl (by kernel_rfl) (by kernel_rfl) (by kernel_rfl) (Or.inl ⟨by rfl, fun w' hSw => ?_⟩) (by assumption) ?_
            rotate_left
            · go_simp
              with_reducible rfl
            simp only [Act.put, List.setIfInBounds_toArray, List.set_cons_zero, List.set_cons_succ]
            refine seq_take (v := ?_) rfl (by kernel_rfl) (by kernel_rfl) (by kernel_rfl) (Or.inl ⟨by rfl, fun w' hSw => ?_⟩) (by assumption) ?_
            rotate_left
            · go_simp
              with_reducible rfl
            simp only [Act.put, List.setIfInBounds_toArray, List.set_cons_zero, List.set_cons_succ]
            refine seq_take (v := ?_) rfl (by kernel_rfl) (by kernel_rfl) (by kernel_rfl) (Or.inl ⟨by rfl, fun w' hSw => ?_⟩) (by assumption) ?_
            rotate_left
            · go_simp
              with_reducible rfl
            simp only [Act.put, List.setIfInBounds_toArray, List.set_cons_zero, List.set_cons_succ]
            refine seq_take (v := ?_) rfl (by kernel_rfl) (by kernel_rfl) (by kernel_rfl) (Or.inl ⟨by rfl, fun w' hSw => ?_⟩) (by assumption) ?_
            rotate_left
            · go_simp
              with_reducible rfl
            simp only [Act.put, List.setIfInBounds_toArray, List.set_cons_zero, List.set_cons_succ]
            refine seq_take (v := ?_) rfl (by kernel_rfl) (by kernel_rfl) (by kernel_rfl) (Or.inl ⟨by rfl, fun w' hSw => ?_⟩) (by assumption) ?_
            rotate_left
            · go_simp
              with_reducible rfl
            simp only [Act.put, List.setIfInBounds_toArray, List.set_cons_zero, List.set_cons_succ]
            refine seq_take (v := ?_) rfl (by kernel_rfl) (by kernel_rfl) (by kernel_rfl) (Or.inl ⟨by rfl, fun w' hSw => ?_⟩) (by assumption) ?_
            rotate_left
            · go_simp
              with_reducible rfl
            simp only [Act.put, List.setIfInBounds_toArray, List.set_cons_zero, List.set_cons_succ]
            refine seq_take (v := ?_) rfl (by kernel_rfl) (by kernel_rfl) (by kernel_rfl) (Or.inl ⟨by rfl, fun w' hSw => ?_⟩) (by assumption) ?_
            rotate_left
            · go_simp
              with_reducible rfl
            simp only [Act.put, List.setIfInBounds_toArray, List.set_cons_zero, List.set_cons_succ]
            refine seq_take (v := ?_) rfl (by kernel_rfl) (by kernel_rfl) (by kernel_rfl) (Or.inl ⟨by rfl, fun w' hSw => ?_⟩) (by assumption) ?_
            rotate_left
            · go_simp
              with_reducible rfl
            simp only [Act.put, List.setIfInBounds_toArray, List.set_cons_zero, List.set_cons_succ]
            refine seq_take (v := ?_) rfl (by kernel_rfl) (by kernel_rfl) (by kernel_rfl) (Or.inl ⟨by rfl, fun w' hSw => ?_⟩) (by assumption) ?_
            rotate_left
            · go_simp
              with_reducible rfl
            simp only [Act.put, List.setIfInBounds_toArray, List.set_cons_zero, List.set_cons_succ]
            refine seq_take (v := ?_) rfl (by kernel_rfl) (by kernel_rfl) (by kernel_rfl) (Or.inl ⟨by rfl, fun w' hSw => ?_⟩) (by assumption) ?_
            rotate_left
            · go_simp
              with_reducible rfl
            simp only [Act.put, List.setIfInBounds_toArray, List.set_cons_zero, List.set_cons_succ]
            refine seq_take (v := ?_) rfl (by kernel_rfl) (by kernel_rfl) (by kernel_rfl) (Or.inl ⟨by rfl, fun w' hSw => ?_⟩) (by assumption) ?_
            rotate_left
            · go_simp
              with_reducible rfl
            simp only [Act.put, List.setIfInBounds_toArray, List.set_cons_zero, List.set_cons_succ]
            refine seq_take (v := ?_) rfl (by kernel_rfl) (by kernel_rfl) (by kernel_rfl) (Or.inl ⟨by rfl, fun w' hSw => ?_⟩) (by assumption) ?_
            rotate_left
            · go_simp
              with_reducible rfl
            simp only [Act.put, List.setIfInBounds_toArray, List.set_cons_zero, List.set_cons_succ]
            refine seq_take (v := ?_) rfl (by kernel_rfl) (by kernel_rfl) (by kernel_rfl) (Or.inl ⟨by rfl, fun w' hSw => ?_⟩) (by assumption) ?_
            rotate_left
            · go_simp
              with_reducible rfl
            simp only [Act.put, List.setIfInBounds_toArray, List.set_cons_zero, List.set_cons_succ]
            refine seq_take (v := ?_) rfl (by kernel_rfl) (by kernel_rfl) (by kernel_rfl) (Or.inl ⟨by rfl, fun w' hSw => ?_⟩) (by assumption) ?_
            rotate_left
            · go_simp
              with_reducible rfl
            simp only [Act.put, List.setIfInBounds_toArray, List.set_cons_zero, List.set_cons_succ]
            refine seq_take (v := ?_) rfl (by kernel_rfl) (by kernel_rfl) (by kernel_rfl) (Or.inl ⟨by rfl, fun w' hSw => ?_⟩) (by assumption) ?_
            rotate_left
            · go_simp
              with_reducible rfl
            simp only [Act.put, List.setIfInBounds_toArray, List.set_cons_zero, List.set_cons_succ]
            refine seq_take (v := ?_) rfl (by kernel_rfl) (by kernel_rfl) (by kernel_rfl) (Or.inl ⟨by rfl, fun w' hSw => ?_⟩) (by assumption) ?_
            rotate_left
            · go_simp
              with_reducible rfl
            simp only [Act.put, List.setIfInBounds_toArray, List.set_cons_zero, List.set_cons_succ]
            refine seq_take (v := ?_) rfl (by kernel_rfl) (by kernel_rfl) (by kernel_rfl) (Or.inl ⟨by rfl, fun w' hSw => ?_⟩) (by assumption) ?_
            rotate_left
            · go_simp
              with_reducible rfl
            simp only [Act.put, List.setIfInBounds_toArray, List.set_cons_zero, List.set_cons_succ]
            refine seq_take (v := ?_) rfl (by kernel_rfl) (by kernel_rfl) (by kernel_rfl) (Or.inl ⟨by rfl, fun w' hSw => ?_⟩) (by assumption) ?_
            rotate_left
            · go_simp
              with_reducible rfl
            simp only [Act.put, List.setIfInBounds_toArray, List.set_cons_zero, List.set_cons_succ]
            refine seq_take (v := ?_) rfl (by kernel_rfl) (by kernel_rfl) (by kernel_rfl) (Or.inl ⟨by rfl, fun w' hSw => ?_⟩) (by assumption) ?_
            rotate_left
            · go_simp
              with_reducible rfl
            simp only [Act.put, List.setIfInBounds_toArray, List.set_cons_zero, List.set_cons_succ]
            refine seq_take (v := ?_) rfl (by kernel_rfl) (by kernel_rfl) (by kernel_rfl) (Or.inl ⟨by rfl, fun w' hSw => ?_⟩) (by assumption) ?_
            rotate_left
            · go_simp
              with_reducible rfl
            simp only [Act.put, List.setIfInBounds_toArray, List.set_cons_zero, List.set_cons_succ]
            refine seq_done (by kernel_rfl) ?_
            all_goals skip
            clear hS
            clear fl e1 e2 hk1 hk1e qa qb qx HA HK1 h0i h0
          rotate_left
          case' inr.inr =>
            have h0i : (0 : Int) < (k : Int) := by omega
            obtain ⟨k1, hk1⟩ : ∃ k1, k - 1 = k1 := ⟨_, rfl⟩
            have e1 : (k : Int) - 1 = (k1 : Int) := by omega
            have hk1e : (k1 : Int) < (e : Int) := by omega
            have e2 : IntKind.i64.wrap (k1 : Int) = (k1 : Int) := by rw [IntKind.wrap_i64]; omega
            have HK1 := Lib.hid (show k1 < es.length ∧ k1 < k ∧ k1 = k - 1 from by have := HKL.out.1; omega)
            obtain ⟨ka, hka⟩ : ∃ ka, ka = (es[k1]'(HK1.out.1)).k := ⟨_, rfl⟩
            have fl : Op.bytesLess (strB ka).toList (strB x.k).toList = false := by
              rw [strB_toList, strB_toList, hka]
              simp only [hk1] at hq
              exact hq
            have HNS := Lib.hid (show ¬ ∀ es ∈ Ls, Srt es from fun hall => by
              have h1 := hall es (by rw [HROW.out.2.2]; exact List.getElem_mem _)
              have h2 := h1.lt HKL.out.1 (show k - 1 < k by omega)
              rw [← HX.out, hq] at h2
              cases h2)
            have HKP := Lib.hid (show Keeps [] w wr.drew from D.out.2.kp.drew)
            have a0 := (en_cell14 (HROW.out.1 wr D.out.2.kp).2 HK1.out.1).1
            rw [← hka] at a0
            have HA := Lib.hid a0
            have qx : ∀ z : World, Keeps [] wr z → z.cell? ⟨gl, ol + i, none⟩ = some (.slice (some ⟨ge, oe, none⟩) e b) := fun z hz => hz.cell HC.out.1 (by simp)
            have qa : ∀ z : World, Keeps [] wr z → z.cell? ⟨ge, oe + k1 * 3, none⟩ = some (.string (strB ka)) := fun z hz => hz.cell HA.out (by simp)
            have qb : ∀ z : World, Keeps [] wr z → z.cell? ⟨ge, oe + k * 3, none⟩ = some (.string (strB x.k)) := fun z hz => hz.cell HC.out.2 (by simp)
            clear hka hq D y0 a0
            go_upto_region 8 with fail
            clear x0
            refine seq_start (by kernel_rfl) (fun z => Keeps [] wr z) 22 [0, 1, 2, 3, 4, 5, 6, 7, 8, 9, 10, 11, 12, 13, 14, 15, 16, 17, 18, 19, 20, 21] rfl ((Keeps.refl [] wr).drew) (fun hS => ?_)
            refine seq_take (v := ?_) rfl (by kernel_rfl) (by kernel_rfl) (by kernel_rfl) (Or.inl ⟨by rfl, fun w' hSw => ?_⟩) (by assumption) ?_
            rotate_left
            · go_simp
              with_reducible rfl
            simp only [Act.put, List.setIfInBounds_toArray, List.set_cons_zero, List.set_cons_succ]
            refine seq_take (v := ?_) rfl (by kernel_rfl) (by kernel_rfl) (by kernel_rfl) (Or.inl ⟨by rfl, fun w' hSw => ?_⟩) (by assumption) ?_
            rotate_left
            · go_simp
              with_reducible rfl
            simp only [Act.put, List.setIfInBounds_toArray, List.set_cons_zero, List.set_cons_succ]
            refine seq_take (v := ?_) rfl (by kernel_rfl) (by kernel_rfl) (by kernel_rfl) (Or.inl ⟨by rfl, fun w' hSw => ?_⟩) (by assumption) ?_
            rotate_left
            · go_simp
              with_reducible rfl
            simp only [Act.put, List.setIfInBounds_toArray, List.set_cons_zero, List.set_cons_succ]
            refine seq_take (v := ?_) rfl (by kernel_rfl) (by kernel_rfl) (by kernel_rfl) (Or.inl ⟨by rfl, fun w' hSw => ?_⟩) (by assumption) ?_
            rotate_left
            · go_simp
              with_reducible rfl
            simp only [Act.put, List.setIfInBounds_toArray, List.set_cons_zero, List.set_cons_succ]
            refine seq_take (v := ?_) rfl (by kernel_rfl) (by kernel_rfl) (by kernel_rfl) (Or.inl ⟨by rfl, fun w' hSw => ?_⟩) (by assumption) ?_
            rotate_left
            · go_simp
              with_reducible rfl
            simp only [Act.put, List.setIfInBounds_toArray, List.set_cons_zero, List.set_cons_succ]
            refine seq_take (v := ?_) rfl (by kernel_rfl) (by kernel_rfl) (by kernel_rfl) (Or.inl ⟨by rfl, fun w' hSw => ?_⟩) (by assumption) ?_
            rotate_left
            · go_simp
              with_reducible rfl
            simp only [Act.put, List.setIfInBounds_toArray, List.set_cons_zero, List.set_cons_succ]
            refine seq_take (v := ?_) rfl (by kernel_rfl) (by kernel_rfl) (by kernel_rfl) (Or.inl ⟨by rfl, fun w' hSw => ?_⟩) (by assumption) ?_
            rotate_left
            · go_simp
              with_reducible rfl
            simp only [Act.put, List.setIfInBounds_toArray, List.set_cons_zero, List.set_cons_succ]
            refine seq_take (v := ?_) rfl (by kernel_rfl) (by kernel_rfl) (by kernel_rfl) (Or.inl ⟨by rfl, fun w' hSw => ?_⟩) (by assumption) ?_
            rotate_left
            · go_simp
              with_reducible rfl
            simp only [Act.put, List.setIfInBounds_toArray, List.set_cons_zero, List.set_cons_succ]
            refine seq_take (v := ?_) rfl (by kernel_rfl) (by kernel_rfl) (by kernel_rfl) (Or.inl ⟨by rfl, fun w' hSw => ?_⟩) (by assumption) ?_
            rotate_left
            · go_simp
              with_reducible rfl
            simp only [Act.put, List.setIfInBounds_toArray, List.set_cons_zero, List.set_cons_succ]
            refine seq_take (v := ?_) rfl (by kernel_rfl) (by kernel_rfl) (by kernel_rfl) (Or.inl ⟨by rfl, fun w' hSw => ?_⟩) (by assumption) ?_
            rotate_left
            · go_simp
              with_reducible rfl
            simp only [Act.put, List.setIfInBounds_toArray, List.set_cons_zero, List.set_cons_succ]
            refine seq_take (v := ?_) rfl (by kernel_rfl) (by kernel_rfl) (by kernel_rfl) (Or.inl ⟨by rfl, fun w' hSw => ?_⟩) (by assumption) ?_
            rotate_left
            · go_simp
              with_reducible rfl
            simp only [Act.put, List.setIfInBounds_toArray, List.set_cons_zero, List.set_cons_succ]
            refine seq_take (v := ?_) rfl (by kernel_rfl) (by kernel_rfl) (by kernel_rfl) (Or.inl ⟨by rfl, fun w' hSw => ?_⟩) (by assumption) ?_
            rotate_left
            · go_simp
              with_reducible rfl
            simp only [Act.put, List.setIfInBounds_toArray, List.set_cons_zero, List.set_cons_succ]
            refine seq_take (v := ?_) rfl (by kernel_rfl) (by kernel_rfl) (by kernel_rfl) (Or.inl ⟨by rfl, fun w' hSw => ?_⟩) (by assumption) ?_
            rotate_left
            · go_simp
              with_reducible rfl
            simp only [Act.put, List.setIfInBounds_toArray, List.set_cons_zero, List.set_cons_succ]
            refine seq_take (v := ?_) rfl (by kernel_rfl) (by kernel_rfl) (by kernel_rfl) (Or.inl ⟨by rfl, fun w' hSw => ?_⟩) (by assumption) ?_
            rotate_left
            · go_simp
              with_reducible rfl
            simp only [Act.put, List.setIfInBounds_toArray, List.set_cons_zero, List.set_cons_succ]
            refine seq_take (v := ?_) rfl (by kernel_rfl) (by kernel_rfl) (by kernel_rfl) (Or.inl ⟨by rfl, fun w' hSw => ?_⟩) (by assumption) ?_
            rotate_left
            · go_simp
              with_reducible rfl
            simp only [Act.put, List.setIfInBounds_toArray, List.set_cons_zero, List.set_cons_succ]
            refine seq_take (v := ?_) rfl (by kernel_rfl) (by kernel_rfl) (by kernel_rfl) (Or.inl ⟨by rfl, fun w' hSw => ?_⟩) (by assumption) ?_
            rotate_left
            · go_simp
              with_reducible rfl
            simp only [Act.put, List.setIfInBounds_toArray, List.set_cons_zero, List.set_cons_succ]
            refine seq_take (v := ?_) rfl (by kernel_rfl) (by kernel_rfl) (by kernel_rfl) (Or.inl ⟨by rfl, fun w' hSw => ?_⟩) (by assumption) ?_
            rotate_left
            · go_simp
              with_reducible rfl
            simp only [Act.put, List.setIfInBounds_toArray, List.set_cons_zero, List.set_cons_succ]
            refine seq_take (v := ?_) rfl (by kernel_rfl) (by kernel_rfl) (by kernel_rfl) (Or.inl ⟨by rfl, fun w' hSw => ?_⟩) (by assumption) ?_
            rotate_left
            · go_simp
              with_reducible rfl
            simp only [Act.put, List.setIfInBounds_toArray, List.set_cons_zero, List.set_cons_succ]
            refine seq_take (v := ?_) rfl (by kernel_rfl) (by kernel_rfl) (by kernel_rfl) (Or.inl ⟨by rfl, fun w' hSw => ?_⟩) (by assumption) ?_
            rotate_left
            · go_simp
              with_reducible rfl
            simp only [Act.put, List.setIfInBounds_toArray, List.set_cons_zero, List.set_cons_succ]
            refine seq_take (v := ?_) rfl (by kernel_rfl) (by kernel_rfl) (by kernel_rfl) (Or.inl ⟨by rfl, fun w' hSw => ?_⟩) (by assumption) ?_
            rotate_left
            · go_simp
              with_reducible rfl
            simp only [Act.put, List.setIfInBounds_toArray, List.set_cons_zero, List.set_cons_succ]
            refine seq_take (v := ?_) rfl (by kernel_rfl) (by kernel_rfl) (by kernel_rfl) (Or.inl ⟨by rfl, fun w' hSw => ?_⟩) (by assumption) ?_
            rotate_left
            · go_simp
              with_reducible rfl
            simp only [Act.put, List.setIfInBounds_toArray, List.set_cons_zero, List.set_cons_succ]
            refine seq_take (v := ?_) rfl (by kernel_rfl) (by kernel_rfl) (by kernel_rfl) (Or.inl ⟨by rfl, fun w' hSw => ?_⟩) (by assumption) ?_
            rotate_left
            · go_simp
              with_reducible rfl
            simp only [Act.put, List.setIfInBounds_toArray, List.set_cons_zero, List.set_cons_succ]
            refine seq_done (by kernel_rfl) ?_
            all_goals skip
            clear hS
            clear fl e1 e2 hk1 hk1e qa qb qx HA HK1 h0i h0
            generalize wr.drew = V at HKP ⊢
            go_wp2_with fail
            go_ret2
            exact ⟨HKP.out, .inr ⟨HNS.out, rfl⟩⟩
          all_goals
            clear HC
            generalize wr.drew = V at H2 ⊢
            have x0 := (HROW.out.1 V H2.out.1.kp).1
            obtain ⟨z0, z1, z2⟩ := en_cell14 (HROW.out.1 V H2.out.1.kp).2 HKL.out.1
            rw [← HX.out] at z0 z1 z2
            go_wp2_with fail
            have HRP := rput_any mA mc m x V H2.out.1.rd H2.out.1.cap (by rw [H2.out.1.m_]; have := HFL.out k; omega)
            unfold En.val at HRP
            refine HRP.mono ?_
            clear HRP
            rintro r w3 ⟨X, d, rfl, ho, hk, hf⟩
            obtain ⟨m3, hm3⟩ : ∃ m3, m3 = putE m x := ⟨_, rfl⟩
            rw [← hm3] at ho ⊢
            have D3 := Lib.hid (show k + 1 ≤ e ∧ RfK w w3 Ls i es (k + 1) X d m3 from ⟨by have := HKL.out.2; omega, ⟨H2.out.2, by rw [hm3, H2.out.1.m_, HX.out, foldl_step _ HKL.out.1], Rd.of_own ho, own_cap3 ho, H2.out.1.kp.trans hk (by simp)⟩⟩)
            clear ho hk hf hm3 H2 x0 z0 z1 z2
            go_wp2_with fail
            go_roundw
            case rel => exact ⟨k + 1, X, d, m3, by go_num, rfl, D3⟩
            case measure => have := HKL.out; simp [intOf]; omega
        · have hkei : ¬ (k : Int) < (e : Int) := by omega
          have HE := Lib.hid (show k = es.length ∧ k = e from by have := HROW.out.2.1; have := D.out.1; omega)
          have D5 := Lib.hid (show i ≤ n ∧ RfI w wr Ls i mA mc m from by
            refine ⟨by have := HIL.out; omega, ⟨fun es' h' => ?_, ?_, D.out.2.rd, D.out.2.cap, D.out.2.kp⟩⟩
            · rw [List.drop_eq_getElem_cons HIL.out.2.2] at h'
              rcases List.mem_cons.1 h' with rfl | h'
              · rw [← HROW.out.2.2]
                exact srt_adj fun t h h1 => D.out.2.adj t h h1 (by have := HE.out.1; omega)
              · exact HS0.out es' h'
            · rw [D.out.2.m_, List.drop_eq_getElem_cons HIL.out.2.2, ← HROW.out.2.2, HE.out.1, List.take_length]
              rfl)
          clear hke D
          go_wp2_with fail
          go_roundw
          case rel => exact ⟨i, mA, mc, m, by go_num, rfl, D5⟩
          case measure => simp [intOf]
    · obtain rfl : j = 0 := by omega
      rw [show ((0 : Nat) : Int) - 1 = -1 from rfl]
      have D := Lib.hid (show (∀ es ∈ Ls, Srt es) ∧ m = refM Ls ∧ Rd wr mA m.length 3 (encEn m) ∧ Keeps [] w wr ∧ m.length ≤ 400 from by
        have h1 := D0.out.2.srt
        have h2 := D0.out.2.m_
        rw [List.drop_zero] at h1 h2
        refine ⟨h1, h2, D0.out.2.rd, D0.out.2.kp, ?_⟩
        rw [h2]
        exact Nat.le_trans (refM_len Ls) HLs.out.2.2.1)
      obtain ⟨w2, hw2⟩ : ∃ w2, w2 = wr := ⟨_, rfl⟩
      subst hw2
      obtain ⟨L, hL⟩ : ∃ L, L = m.length := ⟨_, rfl⟩
      have HL := Lib.hid (show L = m.length ∧ L ≤ 400 from ⟨hL, by rw [hL]; exact D.out.2.2.2.2⟩)
      have hL4 : L ≤ 400 := HL.out.2
      rw [← hL]
      clear hj D0 hL
      go_wp2_with fail
      go_loopw [9, 10] (fun s9 s10 wr => ∃ (i N : Nat) (A' : Option Addr) (c' : Nat), s10 = .int .i64 i ∧ s9 = .slice A' N c' ∧ Hid (i ≤ L ∧ OuI w2 wr A' c' N drop m i)) (fun _ s10 _ => L - (intOf s10).toNat)
      case atStart => exact ⟨0, 0, none, 0, rfl, rfl, ⟨Nat.zero_le _, ⟨World.ownsRow_nil _ 0 39 3, rfl, by simp, Keeps.refl [] w2⟩⟩⟩
      case round =>
        obtain ⟨i, N, A', c', rfl, rfl, O⟩ := hrel
        have HW := Lib.hid (show Keeps [] w wr from D.out.2.2.2.1.trans O.out.2.kp (by simp))
        by_cases hiL : i < L
        · have hiLi : (i : Int) < (L : Int) := by omega
          have HIL := Lib.hid (show i + 1 ≤ m.length ∧ i < L from by have := HL.out.1; omega)
          obtain ⟨gm, om, rfl, y0, y1, y2⟩ := en_cells (D.out.2.2.1.keeps0 O.out.2.kp) (i := i) HIL.out.1
          obtain ⟨x, hx⟩ : ∃ x, x = m[i]'(HIL.out.1) := ⟨_, rfl⟩
          rw [← hx] at y0 y1 y2
          have HX := Lib.hid hx
          have hN4 : N ≤ 400 := by rw [O.out.2.len]; have := keepE_len drop (m.take i); rw [List.length_take] at this; have := HL.out; omega
          clear hx hiL
          cases drop with
          | false =>
            go_wp2_with (at_builtin; refine wpList_appendV rfl (.tmp 74) (.tmp 79) 26 39 rfl Tryd.underlying26 _ 3 40 infoEn rfl (by decide) A' c' N (encEn (keepE false (m.take i))) rfl (ownsRow_keeps O.out.2.own ((Keeps.refl [] wr).alloc _) (fun _ _ => by simp)) (some ⟨wr.heap.size, 0, none⟩) 1 1 x.cells rfl (rd_rowN (xs := x.cells) (heap_alloc_new _ _) rfl) (cells_one x) (by unfold maxLen; omega) (by omega) ?_; intro A2 c2 W1 ho hk hb; have D1 := Lib.hid (OuI.add O.out.2 HIL.out.1 HX.out rfl ((Keeps.refl [] wr).alloc _) ho rfl hk hb); clear y0 y1 y2 ho hk hb)
            go_roundw
            case rel =>
              exact ⟨i + 1, N + 1, A2, c2, by go_num, rfl, ⟨by have := HIL.out; omega, D1.out⟩⟩
            case measure => have := HIL.out; simp [intOf]; omega
          | true =>
            cases hg : x.g with
            | true =>
              rw [hg] at y2
              have D1 := Lib.hid (O.out.2.skip HIL.out.1 (by rw [← HX.out]; exact hg))
              clear hg
              go_wp2_with fail
              go_roundw
              case rel => exact ⟨i + 1, N, A', c', by go_num, rfl, ⟨by have := HIL.out; omega, D1.out⟩⟩
              case measure => have := HIL.out; simp [intOf]; omega
            | false =>
              rw [hg] at y2
              have HG := Lib.hid hg
              clear hg
              go_wp2_with (at_builtin; refine wpList_appendV rfl (.tmp 74) (.tmp 79) 26 39 rfl Tryd.underlying26 _ 3 40 infoEn rfl (by decide) A' c' N (encEn (keepE true (m.take i))) rfl (ownsRow_keeps O.out.2.own ((Keeps.refl [] wr).alloc _) (fun _ _ => by simp)) (some ⟨wr.heap.size, 0, none⟩) 1 1 x.cells rfl (rd_rowN (xs := x.cells) (by rw [show x.cells = [.string (strB x.k), .string (strB x.v), .bool false] from by unfold En.cells; rw [HG.out]]; exact heap_alloc_new _ _) rfl) (cells_one x) (by unfold maxLen; omega) (by omega) ?_; intro A2 c2 W1 ho hk hb; have D1 := Lib.hid (OuI.add O.out.2 HIL.out.1 HX.out (by rw [HG.out]; rfl) ((Keeps.refl [] wr).alloc _) ho rfl hk hb); clear y0 y1 y2 ho hk hb)
              go_roundw
              case rel => exact ⟨i + 1, N + 1, A2, c2, by go_num, rfl, ⟨by have := HIL.out; omega, D1.out⟩⟩
              case measure => have := HIL.out; simp [intOf]; omega
        · have hiLi : ¬ (i : Int) < (L : Int) := by omega
          have HF := Lib.hid (show ∀ a, A' = some a → w.heap.size ≤ a.block from fun a ha => Nat.le_trans D.out.2.2.2.1.size (O.out.2.ap a ha))
          have HE := Lib.hid (show N = (keepE drop (refM Ls)).length ∧ wr.ownsRow 0 39 3 (.slice A' N c') N (encEn (keepE drop (refM Ls))) from by
            have e1 : m.take i = m := List.take_of_length_le (by have := HL.out; omega)
            have h1 := O.out.2.len
            have h2 := O.out.2.own
            rw [e1, D.out.2.1] at h1 h2
            exact ⟨h1, h2⟩)
          clear hiL O
          go_wp2_with fail
          go_ret2
          refine ⟨HW.out, .inl ⟨D.out.1, A', c', by rw [← HE.out.1]; rfl, ?_, HF.out⟩⟩
          have h1 := HE.out.2
          rw [HE.out.1] at h1
          exact Rd.of_own h1
end Go.Proofs.YtaedmafmflohiaaDoor
