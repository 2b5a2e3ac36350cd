/- The law on a block told by itself, and by one that shares nothing with it: called with any block it answers true. -/
import Derived.Test.YtljinghhalcnnaaQDeltaSame13
import Derived.Test.YtljinghhalcnnaaQDeltaSame5
import Derived.Test.YtljinghhalcnnaaQDeltaSame14
import Derived.Deep.DeepCutAuto
namespace Go.Proofs.Ytljinghhalcnnaa
open Go.RowKit

theorem pigeon : ∀ (n : Nat) (l : List Nat), (∀ z, z < n → z ∈ l) → n ≤ l.length
  | 0, _, _ => Nat.zero_le _
  | n + 1, l, h => by
    have h1 := h n (by omega)
    have h2 := pigeon n (l.erase n) (fun z hz => (List.mem_erase_of_ne (by omega)).2 (h z (by omega)))
    rw [List.length_erase_of_mem h1] at h2
    have h3 := List.length_pos_of_mem h1
    omega
/-- Which bytes there are. -/
def seenF (l : List UInt8) : List Bool := (List.range 256).map fun x => l.any fun u => u.toNat == x
theorem seenF_len (l : List UInt8) : (seenF l).length = 256 := by unfold seenF; rw [List.length_map, List.length_range]
set_option maxRecDepth 100000 in
theorem seenF_get (l : List UInt8) (x : Nat) (h : x < (seenF l).length) : (seenF l)[x] = l.any fun u => u.toNat == x := by
  simp [seenF]
theorem seenF_set (l : List UInt8) (v : UInt8) : (seenF l).set v.toNat true = seenF (l ++ [v]) := by
  refine List.ext_getElem (by rw [List.length_set, seenF_len, seenF_len]) (fun x h1 h2 => ?_)
  rw [seenF_get, List.any_append]
  by_cases h : v.toNat = x
  · subst h
    rw [List.getElem_set_self]
    simp
  · rw [List.getElem_set_ne h, seenF_get]
    have h3 : (v.toNat == x) = false := beq_eq_false_iff_ne.2 h
    simp [h3]
theorem seenF_mem (l : List UInt8) (x : Nat) (h : x < (seenF l).length) : (seenF l)[x] = true ↔ x ∈ l.map UInt8.toNat := by
  rw [seenF_get, List.any_eq_true, List.mem_map]
  constructor
  · rintro ⟨u, h1, h2⟩
    exact ⟨u, h1, by simpa using h2⟩
  · rintro ⟨u, h1, h2⟩
    exact ⟨u, h1, by simpa using h2⟩
theorem com_repl (y : UInt8) (k : Nat) (t : List UInt8) (h : y ∉ t) : com (List.replicate k y) t = 0 := by
  cases k with
  | zero => rfl
  | succ k =>
    rw [List.replicate_succ]
    cases t with
    | nil => rfl
    | cons u us =>
      unfold com
      rw [if_neg (fun e => h (by rw [e]; simp))]
theorem mat_repl (y : UInt8) (b : List UInt8) (h : y ∉ b) (a : Nat) : mat (List.replicate 64 y) b a = (0, 0) :=
  mat_none _ _ _ fun j => by
    rw [List.drop_replicate, com_repl y _ _ (fun hm => h (List.mem_of_mem_drop hm))]
    exact Nat.le_refl _
theorem opsF_repl (y : UInt8) (b : List UInt8) (hb : b.length = 64) (h : y ∉ b) : ∀ f a, a ≤ 64 → 64 - a ≤ f → opsF (List.replicate 64 y) b f a (if a = 0 then [] else [⟨false, 0, 0, b.take a⟩]) = [⟨false, 0, 0, b⟩]
  | 0, a, h1, h2 => by
    obtain rfl : a = 64 := by omega
    unfold opsF
    rw [if_neg (by omega), List.take_of_length_le (by omega)]
  | f + 1, a, h1, h2 => by
    unfold opsF
    by_cases ha : 64 ≤ a
    · obtain rfl : a = 64 := by omega
      rw [if_pos ha, if_neg (by omega), List.take_of_length_le (by omega)]
    · rw [if_neg ha, mat_repl y b h, if_neg (by simp)]
      have ih := opsF_repl y b hb h f (a + 1) (by omega) (by omega)
      rw [if_neg (by omega)] at ih
      rw [← ih]
      congr 1
      by_cases h0 : a = 0
      · subst h0
        rw [if_pos rfl, tell_nil, take_one (by omega)]
        rfl
      · rw [if_neg h0]
        have h3 := tell_told [] ⟨false, 0, 0, b.take a⟩ (b.getD a 0) rfl
        rw [List.nil_append, List.nil_append] at h3
        rw [h3, take_one (by omega)]
theorem opsE_repl (y : UInt8) (b : List UInt8) (hb : b.length = 64) (h : y ∉ b) : opsE (List.replicate 64 y) b = [⟨false, 0, 0, b⟩] := opsF_repl y b hb h 64 0 (by omega) (by omega)
/-- Truths in a block. -/
def BoB (w : World) (g : Nat) (sl : List Bool) : Prop := w.heap[g]? = some (.cells (sl.map Value.bool).toArray 43 (0, 0))
theorem BoB.cell {w : World} {g : Nat} {sl : List Bool} (h : BoB w g sl) (i : Nat) (hi : i < sl.length) : w.cell? ⟨g, i, none⟩ = some (.bool sl[i]) := by
  rw [cell_of_row _ _ _ _ _ _ h, List.getElem?_toArray, List.getElem?_map, List.getElem?_eq_getElem hi]
  rfl
theorem BoB.set {w : World} {g : Nat} {sl : List Bool} (h : BoB w g sl) (i : Nat) (b : Bool) : BoB (w.setCell ⟨g, i, none⟩ (.bool b)) g (sl.set i b) := by
  unfold BoB
  rw [heap_setCell_same w g i _ _ _ h, List.setIfInBounds_toArray, List.map_set]
def fs256 : List Bool := List.replicate 256 false
set_option maxRecDepth 100000 in
theorem seenF_nil : seenF [] = fs256 := rfl
set_option maxRecDepth 100000 in
theorem info256 : (Try.prog.info? 43).map (·.zero) = some (some (.agg (fs256.map Value.bool).toArray)) := by kernel_rfl
theorem zero256 (w : World) : (zeroValue 43).run Try.prog w = .ok (.agg (fs256.map Value.bool).toArray) w := by
  have h := info256
  cases hq : Try.prog.info? 43 with
  | none => rw [hq] at h; cases h
  | some i =>
    rw [hq] at h
    have hz : i.zero = some (.agg (fs256.map Value.bool).toArray) := by simpa using h
    simp [zeroValue, typeInfo, hq, hz]
theorem zero256_ex : ∃ F : Array Value, (∀ w, (zeroValue 43).run Try.prog w = .ok (.agg F) w) ∧ F = ((seenF []).map Value.bool).toArray := ⟨_, zero256, by rw [seenF_nil]⟩
attribute [local irreducible] seenF fs256
/-- The block and what is seen of it. -/
structure SmI (w wr : World) (gb gs : Nat) (b : List UInt8) (sl : List Bool) : Prop where
  b : wr.heap[gb]? = some (.cells (encB b).toArray 23 (0, 0))
  s : BoB wr gs sl
  kp : Keeps [] w wr
  ne : gb ≠ gs ∧ w.heap.size ≤ gs
theorem SmI.set {w wr : World} {gb gs : Nat} {b : List UInt8} {sl : List Bool} (h : SmI w wr gb gs b sl) (i : Nat) (x : Bool) : SmI w (wr.setCell ⟨gs, i, none⟩ (.bool x)) gb gs b (sl.set i x) := by
  have hk : Keeps [gs] wr (wr.setCell ⟨gs, i, none⟩ (.bool x)) := (Keeps.refl [gs] wr).setCell (p := ⟨gs, i, none⟩) (.inl (by simp)) _
  exact ⟨(hk.block gb (lt_of_block h.b) (by simpa using h.ne.1)).trans h.b, h.s.set i x, h.kp.trans hk (fun t ht => .inr (by simp at ht; rw [ht]; exact h.ne.2)), h.ne⟩
theorem SmI.keeps {w wr wr' : World} {gb gs g : Nat} {b : List UInt8} {sl : List Bool} (h : SmI w wr gb gs b sl) (hk : Keeps [g] wr wr') (h1 : gb ≠ g) (h2 : gs ≠ g) (h3 : w.heap.size ≤ g) : SmI w wr' gb gs b sl :=
  ⟨(hk.block gb (lt_of_block h.b) (by simpa using h1)).trans h.b, (hk.block gs (lt_of_block h.s) (by simpa using h2)).trans h.s, h.kp.trans hk (fun t ht => .inr (by simp at ht; rw [ht]; exact h3)), h.ne⟩
theorem SmI.keeps0 {w wr wr' : World} {gb gs : Nat} {b : List UInt8} {sl : List Bool} (h : SmI w wr gb gs b sl) (hk : Keeps [] wr wr') : SmI w wr' gb gs b sl :=
  ⟨(hk.block gb (lt_of_block h.b) (by simp)).trans h.b, (hk.block gs (lt_of_block h.s) (by simp)).trans h.s, h.kp.trans hk (by simp), h.ne⟩
theorem repl_set (x y : UInt8) (i : Nat) (hi : i < 64) : (List.replicate i x ++ List.replicate (64 - i) y).set i x = List.replicate (i + 1) x ++ List.replicate (64 - (i + 1)) y := by
  rw [List.set_append_right _ _ (by simp), List.length_replicate, Nat.sub_self, show 64 - i = (64 - (i + 1)) + 1 by omega, List.replicate_succ, List.set_cons_zero, List.replicate_succ', List.append_assoc]
  rfl
theorem infoBo : (Try.prog.info? 4).map (·.size) = some 1 := by kernel_rfl
set_option maxRecDepth 100000 in
set_option maxHeartbeats 16000000 in
theorem same_any (b : List UInt8) (hb : b.length = 64) (w : World) :
    Calls Try.prog 7 #[.agg (encB b).toArray] w fun r w' => r = .returned (.bool true) ∧ Keeps [] w w' := by
  have HL := Lib.hid hb
  obtain ⟨bs, hbs⟩ : ∃ bs, bs = (encB b).toArray := ⟨_, rfl⟩
  obtain ⟨gb, hgb⟩ : ∃ g, g = w.heap.size := ⟨_, rfl⟩
  obtain ⟨W, hW⟩ : ∃ W, W = w.alloc (.cells bs 23) := ⟨_, rfl⟩
  have HB := Lib.hid (show W.heap[gb]? = some (.cells bs 23 (0, 0)) ∧ Keeps [] w W from ⟨by rw [hW, hgb]; exact heap_alloc_new _ _, by rw [hW]; exact (Keeps.refl [] w).alloc _⟩)
  have HW := Lib.hid (show W = w.alloc (.cells bs 23) ∧ gb = w.heap.size from ⟨hW, hgb⟩)
  have HBS := Lib.hid hbs
  have HIA := Lib.hid (show (Try.prog.info? 23).map (·.size) = some bs.size from by rw [hbs]; exact hsz64' b hb)
  rw [← hbs]
  clear hb hbs hgb hW
  go_enter Try.func7, Try.ntmps7
  go_upto_region 1 with fail
  rw [← HW.out.1, ← HW.out.2]
  go_wp2_with (refine wpList_load_row rfl 23 (.tmp 1) rfl gb rfl 23 bs (0, 0) _ HB.out.1 Try.underlying23 rfl HIA.out ?_)
  have HC := ops_any b b HL.out HL.out W
  rw [← HBS.out] at HC
  refine HC.mono ?_
  clear HC
  rintro r w1 ⟨A1, c1, ls, rfl, hop, hls, _, _⟩
  rw [opsE_self _ HL.out] at hls
  obtain ⟨hlen, g1, A9, c9, hg1, hcs⟩ := hop.one hls
  subst hg1
  have H1 := Lib.hid (show Keeps [] w w1 ∧ (∀ z, Keeps [] w1 z → z.cell? ⟨g1, 0, none⟩ = some (.bool true) ∧ z.cell? ⟨g1, 2, none⟩ = some (.int .i64 64)) ∧ w1.heap[gb]? = some (.cells bs 23 (0, 0)) from ⟨HB.out.2.trans hop.kp (by simp), fun z hz => ⟨(hcs z hz).1, (hcs z hz).2.1⟩, (hop.kp.block gb (lt_of_block HB.out.1) (by simp)).trans HB.out.1⟩)
  rw [hlen]
  clear hop hls hlen hcs
  obtain ⟨F, HZ, hF⟩ := zero256_ex
  have HF := Lib.hid hF
  clear hF
  go_upto_region 3 with fail
  clear HZ
  obtain ⟨gs, hgs⟩ : ∃ g, g = w1.heap.size := ⟨_, rfl⟩
  obtain ⟨w2, hw2⟩ : ∃ w2, w2 = w1.alloc (.cells F 43) := ⟨_, rfl⟩
  rw [← hw2, ← hgs]
  have S2 := Lib.hid (show SmI w1 w2 gb gs b (seenF (b.take 0)) from ⟨by rw [← HBS.out]; exact (((Keeps.refl [] w1).alloc _).block gb (lt_of_block H1.out.2.2) (by simp) |> fun h => by rw [hw2]; exact h.trans H1.out.2.2), by rw [List.take_zero, hw2, hgs]; unfold BoB; rw [← HF.out]; exact heap_alloc_new _ _, by rw [hw2]; exact (Keeps.refl [] w1).alloc _, by have := lt_of_block H1.out.2.2; omega, by omega⟩)
  clear hw2 hgs
  go_wp2_with fail
  go_loopw [5] (fun s5 wr => ∃ i : Nat, s5 = .int .i64 i ∧ i ≤ 64 ∧ Hid (SmI w1 wr gb gs b (seenF (b.take i)))) (fun s5 _ => 64 - (intOf s5).toNat)
  case atStart => exact ⟨0, rfl, Nat.zero_le _, S2⟩
  case round =>
    clear S2
    obtain ⟨i, rfl, hi64, D⟩ := hrel
    by_cases hi : i < 64
    · have hii : (i : Int) < 64 := by omega
      have HI := Lib.hid (show i < b.length from by rw [HL.out]; exact hi)
      have q0 := BB.cell (show BB wr gb 23 b from D.out.b) i HI.out
      obtain ⟨v, hv⟩ : ∃ v, v = b[i]'(HI.out) := ⟨_, rfl⟩
      rw [← hv] at q0
      have hvl := v.toNat_lt
      have hvi : (v.toNat : Int) < 256 := by omega
      have q1 := D.out.s.cell v.toNat (by rw [seenF_len]; omega)
      have z1 := frozen_of_row wr gs v.toNat _ _ D.out.s
      have D2 := Lib.hid (show SmI w1 (wr.setCell ⟨gs, v.toNat, none⟩ (.bool true)) gb gs b (seenF (b.take (i + 1))) ∧ i + 1 ≤ 64 from ⟨by
        have h1 := D.out.set v.toNat true
        rw [seenF_set] at h1
        rw [List.take_succ_eq_append_getElem HI.out, ← hv]
        exact h1, hi⟩)
      generalize (seenF (List.take i b))[v.toNat]'(by rw [seenF_len]; omega) = old at q1
      clear hi hv D
      go_wp2_with (refine wpList_store_cell rfl 4 (.tmp 20) (.const (.bool true)) rfl gs v.toNat (.bool true) (.bool old) rfl rfl rfl q1 z1 infoBo ?_)
      go_roundw
      case rel => exact ⟨i + 1, by go_num, D2.out.2, D2.out.1⟩
      case measure => have := D2.out.2; simp [intOf]; omega
    · obtain rfl : i = 64 := by omega
      have D1 := Lib.hid (show SmI w1 wr gb gs b (seenF b) from by have h1 := D.out; rw [List.take_of_length_le (by rw [HL.out]; exact Nat.le_refl _)] at h1; exact h1)
      have HZ := Lib.hid zero64k
      have hii : ¬ ((64 : Nat) : Int) < 64 := by omega
      clear hi hi64 D
      go_upto_region 8 with (refine wpList_store_rowK rfl 23 (.tmp 6) (.tmp 21) rfl wr.heap.size (encB z64) (encB z64) 23 rfl (by first | rfl | exact congrArg Value.agg HZ.out) (by rw [HZ.out]; exact heap_alloc_new _ _) rfl (hsz64 z64 z64_len) (encB_one _) ?_; intro w3 h3 hk3)
      obtain ⟨gc, hgc⟩ : ∃ g, g = wr.heap.size := ⟨_, rfl⟩
      have HG := Lib.hid (show gb ≠ gc ∧ gs ≠ gc ∧ w1.heap.size ≤ gc from ⟨by have := lt_of_block D1.out.b; omega, by have := lt_of_block D1.out.s; omega, by rw [hgc]; exact D1.out.kp.size⟩)
      have D3 := Lib.hid (show SmI w1 w3 gb gs b (seenF b) ∧ BB w3 gc 23 (List.replicate 64 0) from ⟨(D1.out.keeps0 ((Keeps.refl [] wr).alloc (.cells #[.int .u8 0, .int .u8 0, .int .u8 0, .int .u8 0, .int .u8 0, .int .u8 0, .int .u8 0, .int .u8 0, .int .u8 0, .int .u8 0, .int .u8 0, .int .u8 0, .int .u8 0, .int .u8 0, .int .u8 0, .int .u8 0, .int .u8 0, .int .u8 0, .int .u8 0, .int .u8 0, .int .u8 0, .int .u8 0, .int .u8 0, .int .u8 0, .int .u8 0, .int .u8 0, .int .u8 0, .int .u8 0, .int .u8 0, .int .u8 0, .int .u8 0, .int .u8 0, .int .u8 0, .int .u8 0, .int .u8 0, .int .u8 0, .int .u8 0, .int .u8 0, .int .u8 0, .int .u8 0, .int .u8 0, .int .u8 0, .int .u8 0, .int .u8 0, .int .u8 0, .int .u8 0, .int .u8 0, .int .u8 0, .int .u8 0, .int .u8 0, .int .u8 0, .int .u8 0, .int .u8 0, .int .u8 0, .int .u8 0, .int .u8 0, .int .u8 0, .int .u8 0, .int .u8 0, .int .u8 0, .int .u8 0, .int .u8 0, .int .u8 0, .int .u8 0] 23))).keeps (g := gc) (by rw [hgc]; exact hk3) HG.out.1 HG.out.2.1 HG.out.2.2, by rw [hgc]; exact h3.out⟩)
      rw [← hgc]
      clear h3 hk3 hgc D1
      go_wp2_with fail
      go_loopw [7] (fun s7 wr => ∃ (x : Nat) (y : UInt8), s7 = .int .i64 x ∧ x ≤ 256 ∧ Hid (SmI w1 wr gb gs b (seenF b) ∧ BB wr gc 23 (List.replicate 64 y) ∧ (y ∉ b ∨ ∀ z, z < x → z ∈ b.map UInt8.toNat))) (fun s7 _ => 256 - (intOf s7).toNat)
      case atStart => exact ⟨0, 0, rfl, by omega, ⟨D3.out.1, D3.out.2, .inr (fun z hz => by omega)⟩⟩
      case round =>
        clear D3
        obtain ⟨x, y, rfl, hx256, D⟩ := hrel
        by_cases hx : x < 256
        · have hxi : (x : Int) < 256 := by omega
          have HX := Lib.hid (show x < (seenF b).length ∧ x < 256 from ⟨by rw [seenF_len]; exact hx, hx⟩)
          have q1 := D.out.1.s.cell x HX.out.1
          cases hsx : (seenF b)[x]'(HX.out.1) with
          | true =>
            rw [hsx] at q1
            have D2 := Lib.hid (show SmI w1 wr gb gs b (seenF b) ∧ BB wr gc 23 (List.replicate 64 y) ∧ (y ∉ b ∨ ∀ z, z < x + 1 → z ∈ b.map UInt8.toNat) from ⟨D.out.1, D.out.2.1, by
              rcases D.out.2.2 with h1 | h1
              · exact .inl h1
              · refine .inr (fun z hz => ?_)
                rcases Nat.lt_or_ge z x with h2 | h2
                · exact h1 z h2
                · obtain rfl : z = x := by omega
                  exact (seenF_mem b z HX.out.1).1 hsx⟩)
            clear D hx hsx
            go_wp2_with fail
            go_roundw
            case rel => exact ⟨x + 1, y, by go_num, HX.out.2, D2⟩
            case measure => have := HX.out.2; simp [intOf]; omega
          | false =>
            rw [hsx] at q1
            obtain ⟨u, hu⟩ : ∃ u : UInt8, u.toNat = x := ⟨UInt8.ofNat x, by rw [UInt8.toNat_ofNat']; omega⟩
            have HU := Lib.hid (show u.toNat = x ∧ u ∉ b from ⟨hu, fun hm => by
              have h1 := (seenF_mem b x HX.out.1).2 (List.mem_map.2 ⟨u, hm, hu⟩)
              rw [hsx] at h1
              cases h1⟩)
            have f1 : IntKind.u8.wrap (x : Int) = (x : Int) := by rw [IntKind.wrap_u8]; omega
            clear hx hsx hu
            go_wp2_with fail
            go_loopw [8] (fun s8 wr => ∃ i : Nat, s8 = .int .i64 i ∧ i ≤ 64 ∧ Hid (SmI w1 wr gb gs b (seenF b) ∧ BB wr gc 23 (List.replicate i u ++ List.replicate (64 - i) y))) (fun s8 _ => 64 - (intOf s8).toNat)
            case atStart => exact ⟨0, rfl, by omega, ⟨D.out.1, D.out.2.1⟩⟩
            case round =>
              clear D q1
              obtain ⟨i, rfl, hi64, D⟩ := hrel
              by_cases hi : i < 64
              · have hii : (i : Int) < 64 := by omega
                have HI := Lib.hid hi
                clear hi
                go_wp2_with (refine wpList_store_byte rfl 5 (.tmp 37) (.tmp 36) rfl gc i u rfl (by rw [HU.out.1]; rfl) 23 (List.replicate i u ++ List.replicate (64 - i) y) D.out.2 (by rw [List.length_append, List.length_replicate, List.length_replicate]; have := HI.out; omega) infoB1d ?_; intro w5 h5 hk5; have D5 := Lib.hid (show SmI w1 w5 gb gs b (seenF b) ∧ BB w5 gc 23 (List.replicate (i + 1) u ++ List.replicate (64 - (i + 1)) y) from ⟨D.out.1.keeps hk5 HG.out.1 HG.out.2.1 HG.out.2.2, by rw [← repl_set u y i HI.out]; exact h5.out⟩); clear h5 hk5)
                go_roundw
                case rel => exact ⟨i + 1, by go_num, HI.out, D5⟩
                case measure => have := HI.out; simp [intOf]; omega
              · obtain rfl : i = 64 := by omega
                have D2 := Lib.hid (show SmI w1 wr gb gs b (seenF b) ∧ BB wr gc 23 (List.replicate 64 u) ∧ (u ∉ b ∨ ∀ z, z < x + 1 → z ∈ b.map UInt8.toNat) from ⟨D.out.1, by have h1 := D.out.2; rw [Nat.sub_self, List.replicate_zero, List.append_nil] at h1; exact h1, .inl HU.out.2⟩)
                have hii : ¬ ((64 : Nat) : Int) < 64 := by omega
                clear hi hi64 D
                go_wp2_with fail
                go_roundw
                case rel => exact ⟨x + 1, u, by go_num, HX.out.2, D2⟩
                case measure => have := HX.out.2; simp [intOf]; omega
        · obtain rfl : x = 256 := by omega
          have HY := Lib.hid (show y ∉ b from by
            rcases D.out.2.2 with h1 | h1
            · exact h1
            · have h2 := pigeon 256 _ h1
              rw [List.length_map, HL.out] at h2
              omega)
          have hxi : ¬ ((256 : Nat) : Int) < 256 := by omega
          obtain ⟨cs, hcs⟩ : ∃ cs, cs = (encB (List.replicate 64 y)).toArray := ⟨_, rfl⟩
          have HCS := Lib.hid (show cs = (encB (List.replicate 64 y)).toArray ∧ (Try.prog.info? 23).map (·.size) = some cs.size from ⟨hcs, by rw [hcs]; exact hsz64' _ List.length_replicate⟩)
          have D2 := Lib.hid (show SmI w1 wr gb gs b (seenF b) ∧ wr.heap[gc]? = some (.cells cs 23 (0, 0)) from ⟨D.out.1, by rw [hcs]; exact D.out.2.1⟩)
          clear hx hx256 D hcs
          go_wp2_with (first
            | (refine wpList_load_row rfl 23 (.tmp 6) rfl gc rfl 23 cs (0, 0) _ D2.out.2 Try.underlying23 rfl HCS.out.2 ?_)
            | (refine wpList_load_row rfl 23 (.tmp 1) rfl gb rfl 23 bs (0, 0) _ (by rw [HBS.out]; exact D2.out.1.b) Try.underlying23 rfl HIA.out ?_))
          have HC := ops_any (List.replicate 64 y) b List.length_replicate HL.out wr
          rw [← HBS.out, ← HCS.out.1] at HC
          refine HC.mono ?_
          clear HC
          rintro r w4 ⟨A2, c2, ls, rfl, hop, hls, _, _⟩
          rw [opsE_repl y b HL.out HY.out] at hls
          obtain ⟨hlen, g2, A8, c8, hg2, hcs⟩ := hop.one hls
          subst hg2
          rw [hlen]
          have H4 := Lib.hid (show SmI w1 w4 gb gs b (seenF b) ∧ ∀ z, Keeps [] w4 z → z.cell? ⟨g2, 0, none⟩ = some (.bool false) ∧ z.cell? ⟨g2, 3, none⟩ = some (.slice A8 64 c8) ∧ RdB z A8 b from ⟨D2.out.1.keeps0 hop.kp, fun z hz => ⟨(hcs z hz).1, by have h1 := (hcs z hz).2.2.1; rw [show (⟨false, 0, 0, b⟩ : Pa).b.length = 64 from HL.out] at h1; exact h1, (hcs z hz).2.2.2⟩⟩)
          have p0 : ∀ z, Keeps [] w4 z → z.cell? ⟨g1, 0, none⟩ = some (.bool true) := fun z hz => (H1.out.2.1 z (H4.out.1.kp.trans hz (by simp))).1
          have p2 : ∀ z, Keeps [] w4 z → z.cell? ⟨g1, 2, none⟩ = some (.int .i64 64) := fun z hz => (H1.out.2.1 z (H4.out.1.kp.trans hz (by simp))).2
          have r0 : ∀ z, Keeps [] w4 z → z.cell? ⟨g2, 0, none⟩ = some (.bool false) := fun z hz => (H4.out.2 z hz).1
          have r3 : ∀ z, Keeps [] w4 z → z.cell? ⟨g2, 3, none⟩ = some (.slice A8 64 c8) := fun z hz => (H4.out.2 z hz).2.1
          have FA : ∀ z, Keeps [] w4 z → (convert 31 9 (.slice A8 64 c8)).run Try.prog z = .ok (.string (strB b)) z := fun z hz => by
            have h1 := run_conv_str (P := Try.prog) z (dst := 9) Try.underlying31 Try.underlying5 Try.underlying9 (A := A8) (l := b) (H4.out.2 z hz).2.2 c8
            rwa [HL.out] at h1
          have FB : ∀ z, Keeps [] w4 z → (convert 31 9 (.slice (some ⟨gb, 0, none⟩) 64 64)).run Try.prog z = .ok (.string (strB b)) z := fun z hz => by
            have h1 := run_conv_str (P := Try.prog) z (dst := 9) Try.underlying31 Try.underlying5 Try.underlying9 (A := some ⟨gb, 0, none⟩) (l := b) (rdb_row (H4.out.1.keeps0 hz).b) 64
            rwa [HL.out] at h1
          clear hop hls hlen hcs
          go_upto_region 17 with fail
          refine seq_start (by kernel_rfl) (fun z => Keeps [] w4 z) 42 [0, 1, 2, 3, 4, 5, 6, 7, 8, 9, 10, 11, 12, 13, 14, 15, 16, 17, 18, 19, 20, 21, 22, 23, 24, 25, 26, 27, 28, 29, 30, 31, 32, 33, 34, 35, 36, 37, 38, 39, 40, 41] rfl ((Keeps.refl [] w4).drew) (fun hS => ?_)
          refine seq_take (v := ?_) rfl (by kernel_rfl) (by kernel_rfl) (by kernel_rfl) (Or.inl ⟨by rfl, fun w' hSw => ?_⟩) (by assumption) ?_
          rotate_left
          · go_simp
            with_reducible rfl
          simp only [Act.put, List.setIfInBounds_toArray, List.set_cons_zero, List.set_cons_succ]
          refine seq_take (v := ?_) rfl (by kernel_rfl) (by kernel_rfl) (by kernel_rfl) (Or.inl ⟨by rfl, fun w' hSw => ?_⟩) (by assumption) ?_
          rotate_left
          · go_simp
            with_reducible rfl
          simp only [Act.put, List.setIfInBounds_toArray, List.set_cons_zero, List.set_cons_succ]
          refine seq_take (v := ?_) rfl (by kernel_rfl) (by kernel_rfl) (by kernel_rfl) (Or.inl ⟨by rfl, fun w' hSw => ?_⟩) (by assumption) ?_
          rotate_left
          · go_simp
            with_reducible rfl
          simp only [Act.put, List.setIfInBounds_toArray, List.set_cons_zero, List.set_cons_succ]
          refine seq_take (v := ?_) rfl (by kernel_rfl) (by kernel_rfl) (by kernel_rfl) (Or.inl ⟨by rfl, fun w' hSw => ?_⟩) (by assumption) ?_
          rotate_left
          · go_simp
            with_reducible rfl
          simp only [Act.put, List.setIfInBounds_toArray, List.set_cons_zero, List.set_cons_succ]
          refine seq_take (v := ?_) rfl (by kernel_rfl) (by kernel_rfl) (by kernel_rfl) (Or.inl ⟨by rfl, fun w' hSw => ?_⟩) (by assumption) ?_
          rotate_left
          · go_simp
            with_reducible rfl
          simp only [Act.put, List.setIfInBounds_toArray, List.set_cons_zero, List.set_cons_succ]
          refine seq_take (v := ?_) rfl (by kernel_rfl) (by kernel_rfl) (by kernel_rfl) (Or.inl ⟨by rfl, fun w' hSw => ?_⟩) (by assumption) ?_
          rotate_left
          · go_simp
            with_reducible rfl
          simp only [Act.put, List.setIfInBounds_toArray, List.set_cons_zero, List.set_cons_succ]
          refine seq_take (v := ?_) rfl (by kernel_rfl) (by kernel_rfl) (by kernel_rfl) (Or.inl ⟨by rfl, fun w' hSw => ?_⟩) (by assumption) ?_
          rotate_left
          · go_simp
            with_reducible rfl
          simp only [Act.put, List.setIfInBounds_toArray, List.set_cons_zero, List.set_cons_succ]
          refine seq_take (v := ?_) rfl (by kernel_rfl) (by kernel_rfl) (by kernel_rfl) (Or.inl ⟨by rfl, fun w' hSw => ?_⟩) (by assumption) ?_
          rotate_left
          · go_simp
            with_reducible rfl
          simp only [Act.put, List.setIfInBounds_toArray, List.set_cons_zero, List.set_cons_succ]
          refine seq_take (v := ?_) rfl (by kernel_rfl) (by kernel_rfl) (by kernel_rfl) (Or.inl ⟨by rfl, fun w' hSw => ?_⟩) (by assumption) ?_
          rotate_left
          · go_simp
            with_reducible rfl
          simp only [Act.put, List.setIfInBounds_toArray, List.set_cons_zero, List.set_cons_succ]
          refine seq_take (v := ?_) rfl (by kernel_rfl) (by kernel_rfl) (by kernel_rfl) (Or.inl ⟨by rfl, fun w' hSw => ?_⟩) (by assumption) ?_
          rotate_left
          · go_simp
            with_reducible rfl
          simp only [Act.put, List.setIfInBounds_toArray, List.set_cons_zero, List.set_cons_succ]
          refine seq_take (v := ?_) rfl (by kernel_rfl) (by kernel_rfl) (by kernel_rfl) (Or.inl ⟨by rfl, fun w' hSw => ?_⟩) (by assumption) ?_
          rotate_left
          · go_simp
            with_reducible rfl
          simp only [Act.put, List.setIfInBounds_toArray, List.set_cons_zero, List.set_cons_succ]
          refine seq_take (v := ?_) rfl (by kernel_rfl) (by kernel_rfl) (by kernel_rfl) (Or.inl ⟨by rfl, fun w' hSw => ?_⟩) (by assumption) ?_
          rotate_left
          · go_simp
            with_reducible rfl
          simp only [Act.put, List.setIfInBounds_toArray, List.set_cons_zero, List.set_cons_succ]
          refine seq_take (v := ?_) rfl (by kernel_rfl) (by kernel_rfl) (by kernel_rfl) (Or.inl ⟨by rfl, fun w' hSw => ?_⟩) (by assumption) ?_
          rotate_left
          · go_simp
            with_reducible rfl
          simp only [Act.put, List.setIfInBounds_toArray, List.set_cons_zero, List.set_cons_succ]
          refine seq_take (v := ?_) rfl (by kernel_rfl) (by kernel_rfl) (by kernel_rfl) (Or.inl ⟨by rfl, fun w' hSw => ?_⟩) (by assumption) ?_
          rotate_left
          · go_simp
            with_reducible rfl
          simp only [Act.put, List.setIfInBounds_toArray, List.set_cons_zero, List.set_cons_succ]
          refine seq_take (v := ?_) rfl (by kernel_rfl) (by kernel_rfl) (by kernel_rfl) (Or.inl ⟨by rfl, fun w' hSw => ?_⟩) (by assumption) ?_
          rotate_left
          · go_simp
            with_reducible rfl
          simp only [Act.put, List.setIfInBounds_toArray, List.set_cons_zero, List.set_cons_succ]
          refine seq_take (v := ?_) rfl (by kernel_rfl) (by kernel_rfl) (by kernel_rfl) (Or.inl ⟨by rfl, fun w' hSw => ?_⟩) (by assumption) ?_
          rotate_left
          · go_simp
            with_reducible rfl
          simp only [Act.put, List.setIfInBounds_toArray, List.set_cons_zero, List.set_cons_succ]
          refine seq_take (v := ?_) rfl (by kernel_rfl) (by kernel_rfl) (by kernel_rfl) (Or.inl ⟨by rfl, fun w' hSw => ?_⟩) (by assumption) ?_
          rotate_left
          · go_simp
            with_reducible rfl
          simp only [Act.put, List.setIfInBounds_toArray, List.set_cons_zero, List.set_cons_succ]
          refine seq_take (v := ?_) rfl (by kernel_rfl) (by kernel_rfl) (by kernel_rfl) (Or.inl ⟨by rfl, fun w' hSw => ?_⟩) (by assumption) ?_
          rotate_left
          · go_simp
            with_reducible rfl
          simp only [Act.put, List.setIfInBounds_toArray, List.set_cons_zero, List.set_cons_succ]
          refine seq_take (v := ?_) rfl (by kernel_rfl) (by kernel_rfl) (by kernel_rfl) (Or.inl ⟨by rfl, fun w' hSw => ?_⟩) (by assumption) ?_
          rotate_left
          · go_simp
            with_reducible rfl
          simp only [Act.put, List.setIfInBounds_toArray, List.set_cons_zero, List.set_cons_succ]
          refine seq_take (v := ?_) rfl (by kernel_rfl) (by kernel_rfl) (by kernel_rfl) (Or.inl ⟨by rfl, fun w' hSw => ?_⟩) (by assumption) ?_
          rotate_left
          · go_simp
            with_reducible rfl
          simp only [Act.put, List.setIfInBounds_toArray, List.set_cons_zero, List.set_cons_succ]
          refine seq_take (v := ?_) rfl (by kernel_rfl) (by kernel_rfl) (by kernel_rfl) (Or.inl ⟨by rfl, fun w' hSw => ?_⟩) (by assumption) ?_
          rotate_left
          · go_simp
            with_reducible rfl
          simp only [Act.put, List.setIfInBounds_toArray, List.set_cons_zero, List.set_cons_succ]
          refine seq_take (v := ?_) rfl (by kernel_rfl) (by kernel_rfl) (by kernel_rfl) (Or.inl ⟨by rfl, fun w' hSw => ?_⟩) (by assumption) ?_
          rotate_left
          · go_simp
            with_reducible rfl
          simp only [Act.put, List.setIfInBounds_toArray, List.set_cons_zero, List.set_cons_succ]
          refine seq_take (v := ?_) rfl (by kernel_rfl) (by kernel_rfl) (by kernel_rfl) (Or.inl ⟨by rfl, fun w' hSw => ?_⟩) (by assumption) ?_
          rotate_left
          · go_simp
            with_reducible rfl
          simp only [Act.put, List.setIfInBounds_toArray, List.set_cons_zero, List.set_cons_succ]
          refine seq_take (v := ?_) rfl (by kernel_rfl) (by kernel_rfl) (by kernel_rfl) (Or.inl ⟨by rfl, fun w' hSw => ?_⟩) (by assumption) ?_
          rotate_left
          · go_simp
            with_reducible rfl
          simp only [Act.put, List.setIfInBounds_toArray, List.set_cons_zero, List.set_cons_succ]
          refine seq_take (v := ?_) rfl (by kernel_rfl) (by kernel_rfl) (by kernel_rfl) (Or.inl ⟨by rfl, fun w' hSw => ?_⟩) (by assumption) ?_
          rotate_left
          · go_simp
            with_reducible rfl
          simp only [Act.put, List.setIfInBounds_toArray, List.set_cons_zero, List.set_cons_succ]
          refine seq_take (v := ?_) rfl (by kernel_rfl) (by kernel_rfl) (by kernel_rfl) (Or.inl ⟨by rfl, fun w' hSw => ?_⟩) (by assumption) ?_
          rotate_left
          · go_simp
            with_reducible rfl
          simp only [Act.put, List.setIfInBounds_toArray, List.set_cons_zero, List.set_cons_succ]
          refine seq_take (v := ?_) rfl (by kernel_rfl) (by kernel_rfl) (by kernel_rfl) (Or.inl ⟨by rfl, fun w' hSw => ?_⟩) (by assumption) ?_
          rotate_left
          · go_simp
            with_reducible rfl
          simp only [Act.put, List.setIfInBounds_toArray, List.set_cons_zero, List.set_cons_succ]
          refine seq_take (v := ?_) rfl (by kernel_rfl) (by kernel_rfl) (by kernel_rfl) (Or.inl ⟨by rfl, fun w' hSw => ?_⟩) (by assumption) ?_
          rotate_left
          · go_simp
            with_reducible rfl
          simp only [Act.put, List.setIfInBounds_toArray, List.set_cons_zero, List.set_cons_succ]
          refine seq_take (v := ?_) rfl (by kernel_rfl) (by kernel_rfl) (by kernel_rfl) (Or.inl ⟨by rfl, fun w' hSw => ?_⟩) (by assumption) ?_
          rotate_left
          · go_simp
            with_reducible rfl
          simp only [Act.put, List.setIfInBounds_toArray, List.set_cons_zero, List.set_cons_succ]
          refine seq_take (v := ?_) rfl (by kernel_rfl) (by kernel_rfl) (by kernel_rfl) (Or.inl ⟨by rfl, fun w' hSw => ?_⟩) (by assumption) ?_
          rotate_left
          · go_simp
            with_reducible rfl
          simp only [Act.put, List.setIfInBounds_toArray, List.set_cons_zero, List.set_cons_succ]
          refine seq_take (v := ?_) rfl (by kernel_rfl) (by kernel_rfl) (by kernel_rfl) (Or.inl ⟨by rfl, fun w' hSw => ?_⟩) (by assumption) ?_
          rotate_left
          · go_simp
            with_reducible rfl
          simp only [Act.put, List.setIfInBounds_toArray, List.set_cons_zero, List.set_cons_succ]
          refine seq_take (v := ?_) rfl (by kernel_rfl) (by kernel_rfl) (by kernel_rfl) (Or.inl ⟨by rfl, fun w' hSw => ?_⟩) (by assumption) ?_
          rotate_left
          · go_simp
            with_reducible rfl
          simp only [Act.put, List.setIfInBounds_toArray, List.set_cons_zero, List.set_cons_succ]
          refine seq_take (v := ?_) rfl (by kernel_rfl) (by kernel_rfl) (by kernel_rfl) (Or.inl ⟨by rfl, fun w' hSw => ?_⟩) (by assumption) ?_
          rotate_left
          · go_simp
            with_reducible rfl
          simp only [Act.put, List.setIfInBounds_toArray, List.set_cons_zero, List.set_cons_succ]
          refine seq_take (v := ?_) rfl (by kernel_rfl) (by kernel_rfl) (by kernel_rfl) (Or.inl ⟨by rfl, fun w' hSw => ?_⟩) (by assumption) ?_
          rotate_left
          · go_simp
            with_reducible rfl
          simp only [Act.put, List.setIfInBounds_toArray, List.set_cons_zero, List.set_cons_succ]
          refine seq_take (v := .slice (some ⟨gb, 0, none⟩) 64 64) rfl (by kernel_rfl) (by kernel_rfl) (by kernel_rfl) ?_ (by assumption) ?_
          · exact yieldsIf_allArr (by rfl) 23 (.tmp 1) (by rfl) Try.underlying23 infoB1d ⟨gb, 0, none⟩ (by rfl)
          simp only [Act.put, List.setIfInBounds_toArray, List.set_cons_zero, List.set_cons_succ]
          refine seq_take (v := ?_) rfl (by kernel_rfl) (by kernel_rfl) (by kernel_rfl) (Or.inl ⟨by rfl, fun w' hSw => ?_⟩) (by assumption) ?_
          rotate_left
          · go_simp
            with_reducible rfl
          simp only [Act.put, List.setIfInBounds_toArray, List.set_cons_zero, List.set_cons_succ]
          refine seq_take (v := ?_) rfl (by kernel_rfl) (by kernel_rfl) (by kernel_rfl) (Or.inl ⟨by rfl, fun w' hSw => ?_⟩) (by assumption) ?_
          rotate_left
          · go_simp
            with_reducible rfl
          simp only [Act.put, List.setIfInBounds_toArray, List.set_cons_zero, List.set_cons_succ]
          refine seq_take (v := ?_) rfl (by kernel_rfl) (by kernel_rfl) (by kernel_rfl) (Or.inl ⟨by rfl, fun w' hSw => ?_⟩) (by assumption) ?_
          rotate_left
          · go_simp
            with_reducible rfl
          simp only [Act.put, List.setIfInBounds_toArray, List.set_cons_zero, List.set_cons_succ]
          refine seq_take (v := ?_) rfl (by kernel_rfl) (by kernel_rfl) (by kernel_rfl) (Or.inl ⟨by rfl, fun w' hSw => ?_⟩) (by assumption) ?_
          rotate_left
          · go_simp
            with_reducible rfl
          simp only [Act.put, List.setIfInBounds_toArray, List.set_cons_zero, List.set_cons_succ]
          refine seq_do rfl (by kernel_rfl) (by rfl) (fun K hK => ?_)
          go_simp
          refine (sure10_any _).mono ?_
          rintro r w5 ⟨rfl, hk5⟩
          have H5 := Lib.hid (show Keeps [] w4 w5 from (Keeps.refl [] w4).drew.trans hk5 (by simp))
          refine hK.out (fun z => Keeps [] w4 z) _ _ (fun _ h => h) H5.out (fun hS => ?_)
          refine seq_take (v := ?_) rfl (by kernel_rfl) (by kernel_rfl) (by kernel_rfl) (Or.inl ⟨by rfl, fun w' hSw => ?_⟩) (by assumption) ?_
          rotate_left
          · go_simp
            with_reducible rfl
          simp only [Act.put, List.setIfInBounds_toArray, List.set_cons_zero, List.set_cons_succ]
          refine seq_take (v := ?_) rfl (by kernel_rfl) (by kernel_rfl) (by kernel_rfl) (Or.inl ⟨by rfl, fun w' hSw => ?_⟩) (by assumption) ?_
          rotate_left
          · go_simp
            with_reducible rfl
          simp only [Act.put, List.setIfInBounds_toArray, List.set_cons_zero, List.set_cons_succ]
          refine seq_done (by kernel_rfl) ?_
          all_goals skip
          go_wp2_with fail
          go_ret
          exact ⟨rfl, (H1.out.1.trans H4.out.1.kp (by simp)).trans H5.out (by simp)⟩
theorem same_row (xs : List Int) (w : World) (ok1 : (K.arr 64 (K.int .u8)).ok w xs) :
    Calls Try.prog 7 #[.agg ((K.arr 64 (K.int .u8)).cells xs).toArray] w fun e w' => e = .returned (.bool true) ∧ Below w.heap.size w w' := by
  obtain ⟨e1, e2⟩ := arrB_of_k ok1
  rw [e1]
  exact (same_any (toB xs) e2 w).mono fun _ _ h => ⟨h.1, h.2.below (Nat.le_refl _) (by simp)⟩
end Go.Proofs.Ytljinghhalcnnaa
