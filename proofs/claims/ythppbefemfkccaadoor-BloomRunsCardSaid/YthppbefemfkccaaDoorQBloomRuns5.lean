/- Whether a key may be there, how many bits are set, a filter as bytes: contracts. Append onto a row of one's own, elements of any kind. No program is named here. An error of the program by its number: nil for 0. No filter of such a size: a contract. The document's filter begun, the bits that a key asks for, and numbers held against one another: contracts. The document's bits that a key asks for, and numbers held against one another: contracts. The number that bytes begin with: plain numbers, no program is named here. -/
import Derived.Test.YthppbefemfkccaaDoorQBloomRuns4
import Derived.Test.YthppbefemfkccaaDoorQBloomRuns1
import Derived.Test.YthppbefemfkccaaDoorProg
import Derived.Deep.DeepCutAuto
import Derived.Test.YthppbefemfkccaaDoorQBloomRuns3
import Derived.Lib.Bits
namespace Go.Proofs.YthppbefemfkccaaDoor
open Go.RowKit
attribute [local irreducible] bitsK orAll

theorem popAux_le : ∀ (f x : Nat), Lib.popAux f x ≤ f
  | 0, _ => Nat.le_refl _
  | f + 1, x => by
    have := popAux_le f (x / 2)
    unfold Lib.popAux
    omega
theorem onesCount_le (x : Nat) : Lib.onesCount x ≤ 64 := popAux_le 64 x
theorem fullK_snoc (bs : List UInt8) (i : Nat) (h : i < bs.length) : fullK (bs.take (i + 1)) = fullK (bs.take i) + Lib.onesCount bs[i].toNat := by
  unfold fullK
  rw [List.take_succ_eq_append_getElem h, List.map_append, List.sum_append]
  simp only [List.map_cons, List.map_nil, List.sum_cons, List.sum_nil, Nat.add_zero]
theorem fullK_le (bs : List UInt8) : fullK bs ≤ 64 * bs.length := by
  unfold fullK
  induction bs with
  | nil => simp
  | cons b l ih => have := onesCount_le b.toNat; simp only [List.map_cons, List.sum_cons, List.length_cons]; omega
theorem u8_and_one (v : Nat) (hv : v < 256) : bits .and .u8 (v : Int) 1 = ((v % 2 : Nat) : Int) := by
  show IntKind.u8.wrap ((BitVec.ofInt 8 (v : Int) &&& BitVec.ofInt 8 ((1 : Nat) : Int)).toNat : Int) = _
  have e : ∀ a : Nat, a < 256 → (BitVec.ofInt 8 (a : Int)).toNat = a := fun a ha => by
    rw [BitVec.ofInt_natCast, BitVec.toNat_ofNat]; exact Nat.mod_eq_of_lt (by omega)
  rw [BitVec.toNat_and, e _ hv, e 1 (by decide), IntKind.wrap_u8, Nat.and_one_is_mod]
  omega

set_option maxHeartbeats 8000000 in
theorem may_any (g n k : Nat) (A : Option Addr) (c : Nat) (bs : List UInt8) (s : List UInt8) (w : World) (h : Fm w g n k A c bs) (hn : 1 ≤ n ∧ n ≤ 1048576) (hk : 1 ≤ k ∧ k ≤ 16) (hs : s.length ≤ 140737488351232) (hb : n ≤ 8 * bs.length) :
    Calls Tryd.prog 13 #[.pointer (some ⟨g, 0, none⟩), .string (strB s)] w fun e w' => e = .returned (.bool (mayK bs (bitsK n k s))) ∧ Keeps [] w w' := by
  have H := Lib.hid h
  have HN := Lib.hid (show ∀ j ∈ bitsK n k s, j < n from fun j hj => bitsK_lt (by omega) hj)
  have HBL := Lib.hid hb
  have HLK := Lib.hid (bitsK_len n k s)
  have HBITS := Lib.hid (bits_any g n k A c bs s w h hn hk hs)
  obtain ⟨L, hL⟩ : ∃ L, L = bitsK n k s := ⟨_, rfl⟩
  unfold BitsP at HBITS
  rw [← hL] at HN HLK HBITS ⊢
  obtain ⟨hn1, hn2⟩ := hn
  obtain ⟨hk1, hk2⟩ := hk
  clear h hs hb hL
  go_enter Tryd.func13, Tryd.ntmps13
  go_wp2_with fail
  refine HBITS.out.mono ?_
  rintro e w1 ⟨gl, rfl, hib, hgl, hk1'⟩
  have INV := Lib.hid (show Fm w1 g n k A c bs ∧ IB w1 gl (encI L) ∧ Keeps [] w w1 from ⟨H.out.keeps0 hk1', hib, hk1'⟩)
  clear hib hgl hk1' HBITS
  have INV0 := Lib.hid (show mayK bs (L.take 0) = true from rfl)
  go_wp2_with fail
  go_loopw [11] (fun si wr => ∃ i : Nat, i ≤ k ∧ si = .int .i64 i ∧ Hid (mayK bs (L.take i) = true) ∧ Hid (Fm wr g n k A c bs ∧ IB wr gl (encI L) ∧ Keeps [] w wr)) (fun si _ => k - (intOf si).toNat)
  case atStart => exact ⟨0, Nat.zero_le _, rfl, INV0.out, INV.out⟩
  case round =>
    clear INV INV0
    obtain ⟨i, hi, rfl, hmay, hinv⟩ := hrel
    by_cases hlt : i < k
    · have hik : (i : Int) < (k : Int) := by omega
      have HIL := Lib.hid (show i < L.length by rw [HLK.out]; exact hlt)
      obtain ⟨j, hj⟩ : ∃ j, j = L[i]'(HIL.out) := ⟨_, rfl⟩
      have hjn : j < n := by rw [hj]; exact HN.out _ (List.getElem_mem _)
      obtain ⟨q, hq⟩ : ∃ q, q = j / 8 := ⟨_, rfl⟩
      obtain ⟨r, hr⟩ : ∃ r, r = j % 8 := ⟨_, rfl⟩
      have hqb : q < bs.length := by have := HBL.out; omega
      obtain ⟨ga, rfl, hcell, hfr⟩ := hinv.out.1.2.1.at0 (by omega)
      obtain ⟨x, hx⟩ : ∃ x, x = bs[q] := ⟨_, rfl⟩
      have qx := hcell q hqb
      rw [← hx] at qx
      have q1 := hinv.out.2.1.cell i (by simpa using HIL.out)
      rw [encI_get L i HIL.out, ← hj] at q1
      have q2 := hinv.out.1.cells.2.2
      obtain ⟨v, hv⟩ : ∃ v, v = x.toNat / 2 ^ r := ⟨_, rfl⟩
      obtain ⟨t, ht⟩ : ∃ t, t = v % 2 := ⟨_, rfl⟩
      have hvl : v < 256 := by rw [hv]; exact Nat.lt_of_le_of_lt (Nat.div_le_self _ _) (by have := x.toNat_lt; omega)
      have HBT := Lib.hid (show hasBit bs j = decide (t = 1) by
        unfold hasBit
        rw [← hq, ← hr, List.getD_eq_getElem?_getD, List.getElem?_eq_getElem hqb, Option.getD_some, ← hx, Nat.testBit_eq_decide_div_mod_eq, ← hv, ← ht])
      have HSN := Lib.hid (show mayK bs (L.take (i + 1)) = (mayK bs (L.take i) && hasBit bs j) by
        unfold mayK
        rw [List.take_succ_eq_append_getElem HIL.out, List.all_append, ← hj]
        simp)
      have HSF := Lib.hid (show hasBit bs j = false → mayK bs L = false from fun hf => by
        unfold mayK
        rw [List.all_eq_false]
        exact ⟨j, by rw [hj]; exact List.getElem_mem _, by simp [hf]⟩)
      have f1 : (j : Int).tdiv 8 = (q : Int) := by rw [Int.tdiv_eq_ediv_of_nonneg (by omega)]; omega
      have f2 : (j : Int).tmod 8 = (r : Int) := by rw [Int.tmod_eq_emod_of_nonneg (by omega)]; omega
      have f3 : IntKind.i64.wrap (q : Int) = (q : Int) := by rw [IntKind.wrap_i64]; omega
      have f4 : (x.toNat : Int) / 2 ^ r = (v : Int) := by rw [hv]; simp
      have f5 := u8_and_one v hvl
      rw [← ht] at f5
      have hr8 : (r : Int) < 8 := by omega
      have hqB : (q : Int) < ((bs.length : Nat) : Int) := by omega
      have ht2 : t < 2 := by omega
      have hmay' := hmay
      clear hj hjn hq hr hcell hfr hx hqb hv ht hvl
      by_cases h0 : t = 0
      · have e1 : ((t : Int) == 0) = true := by simp [h0]
        have HR := Lib.hid (show mayK bs L = false from HSF.out (by rw [HBT.out, h0]; rfl))
        clear h0 ht2
        go_wp2_with fail
        go_ret
        exact ⟨by rw [HR.out]; rfl, hinv.out.2.2⟩
      · have e1 : ((t : Int) == 0) = false := by simp [h0]
        have HR := Lib.hid (show mayK bs (L.take (i + 1)) = true by rw [HSN.out, hmay.out, HBT.out, show t = 1 by omega]; rfl)
        clear h0 ht2
        go_wp2_with fail
        go_roundw
        case rel => exact ⟨i + 1, by omega, by go_num, HR.out, hinv.out⟩
        case measure => simp [intOf]; omega
    · have hik : ¬ (i : Int) < (k : Int) := by omega
      have HKI := Lib.hid (show mayK bs L = true by have h2 := hmay.out; rwa [List.take_of_length_le (by rw [HLK.out]; omega)] at h2)
      clear hlt
      go_wp2_with fail
      go_ret
      exact ⟨by rw [HKI.out]; rfl, hinv.out.2.2⟩

set_option maxHeartbeats 4000000 in
theorem full_any (g n k : Nat) (A : Option Addr) (c : Nat) (bs : List UInt8) (w : World) (h : Fm w g n k A c bs) (hb : bs.length ≤ 1048576) :
    Calls Tryd.prog 14 #[.pointer (some ⟨g, 0, none⟩)] w fun e w' => e = .returned (.int .i64 (fullK bs : Nat)) ∧ w = w' := by
  have H := Lib.hid h
  have q2 := h.cells.2.2
  have HR := Lib.hid h.2.1.rd
  clear h
  go_enter Tryd.func14, Tryd.ntmps14
  go_wp2_with fail
  go_loop [3, 13] (fun sn si => ∃ i m : Nat, i ≤ bs.length ∧ si = .int .i64 i ∧ sn = .int .i64 m ∧ Hid (m = fullK (bs.take i))) (fun _ si => bs.length - (intOf si).toNat)
  case atStart => exact ⟨0, 0, Nat.zero_le _, rfl, rfl, rfl⟩
  case round =>
    obtain ⟨i, m, hi, rfl, rfl, hm⟩ := hrel
    by_cases hlt : i < bs.length
    · have hik : (i : Int) < ((bs.length : Nat) : Int) := by omega
      obtain ⟨ad, rfl, hc⟩ := HR.out.at_ hlt
      obtain ⟨b, hbb⟩ : ∃ b, b = bs[i] := ⟨_, rfl⟩
      rw [← hbb] at hc
      have hml : m ≤ 67108864 := by
        rw [hm.out]
        have h1 := fullK_le (bs.take i)
        rw [List.length_take] at h1
        omega
      obtain ⟨o, ho⟩ : ∃ o, o = Lib.onesCount b.toNat := ⟨_, rfl⟩
      have hol : o ≤ 64 := by rw [ho]; exact onesCount_le _
      have HSN := Lib.hid (show m + o = fullK (bs.take (i + 1)) by rw [fullK_snoc bs i hlt, ← hm.out, ← hbb, ho])
      have HO := Lib.hid ho
      have hb0 : (0 : Int) ≤ (b.toNat : Int) ∧ (b.toNat : Int) ≤ 255 := by have := b.toNat_lt; omega
      have HB0 := Lib.hid hb0
      clear hbb ho hb0
      go_wp2_with fail
      refine (Tryd.bits_OnesCount8 (b.toNat : Int) w HB0.out.1 HB0.out.2).mono ?_
      rintro e w' ⟨rfl, rfl⟩
      rw [Int.toNat_natCast, ← HO.out]
      go_wp2_with fail
      go_round
      case rel => exact ⟨i + 1, m + o, by omega, by go_num, by go_num, HSN.out⟩
      case measure => simp [intOf]; omega
    · have hik : ¬ (i : Int) < ((bs.length : Nat) : Int) := by omega
      have HM := Lib.hid (show m = fullK bs by rw [hm.out, List.take_of_length_le (by omega)])
      clear hlt
      go_wp2_with fail
      go_ret
      exact ⟨by rw [HM.out]; rfl, rfl⟩
end Go.Proofs.YthppbefemfkccaaDoor
namespace Go.Proofs.YthppbefemfkccaaDoor
open Go.RowKit
theorem wpList_appendV {P : Program} {w : World} {ops : Array Oper} {rest : List Oper} {o : Oper} {a : Act} {Q : Exit → Act → World → Prop} (hgd : o.guard = none) (s x : Operand) (t E : TypeId)
    (ho : o.op = .call { callee := .builtin .append, args := #[s, x], argTypes := #[t, t] }) (ht : P.underlying t = some (.slice E)) (z : Value) (size bytes : Nat)
    (hinfo : (P.info? E).map (fun i => (i.zero, i.size, i.bytes)) = some (some z, size, bytes)) (hzs : z.cells.size = size) (hsz : 0 < size)
    (A : Option Addr) (cv n : Nat) (xs : List Value) (hs : a.eval s = .slice A n cv) (hown : w.ownsRow 0 E size (.slice A n cv) n xs)
    (A2 : Option Addr) (m c : Nat) (news : List Value) (hx : a.eval x = .slice A2 m c) (hr : Rd w A2 m size news) (h1 : ∀ u ∈ news, u.oneCell' = true) (h63 : n + m ≤ maxLen) (hb : (n + m) * bytes ≤ 140737488355328)
    (h : ∀ A' c' w', w'.ownsRow 0 E size (.slice A' (n + m) c') (n + m) (xs ++ news) → Keeps (blk A) w w' → (∀ a, A' = some a → a.block ∈ blk A ∨ w.heap.size ≤ a.block) → wpList P ops Q rest (a.put o.dst (.slice A' (n + m) c')) w') :
    wpList P ops Q (o :: rest) a w := by
  refine wpList_plain hgd fun K hK => ?_
  obtain ⟨A', c', w', hrun, h2, h3, h4⟩ := run_append_rd (P := P) w t o.type E z size bytes ht hinfo hzs hsz A n cv xs hown A2 m c news hr h1 h63 hb
  unfold Oper.wp execOp
  simp only [ho, resolve, invoke, builtin, Sem.run_bind, Sem.run_pure, Result.andThen_ok, List.map_toArray, List.map_cons, List.map_nil, hs, hx, hrun]
  exact hK _ _ (h A' c' w' h2 h3 h4)
end Go.Proofs.YthppbefemfkccaaDoor
namespace Go.Proofs.YthppbefemfkccaaDoor
open Go.RowKit
def errV (n : Int) : Value := if n = 0 then .nilIface else .iface 55 (.int .i64 n)
theorem errV_zero : errV 0 = .nilIface := rfl
theorem errV_other {n : Int} (h : n ≠ 0) : errV n = .iface 55 (.int .i64 n) := if_neg h
end Go.Proofs.YthppbefemfkccaaDoor
namespace Go.Proofs.YthppbefemfkccaaDoor
open Go.RowKit
attribute [local irreducible] bitsK orAll

def FitB (x y : Int) : Prop := 1 ≤ x ∧ x ≤ 1048576 ∧ 1 ≤ y ∧ y ≤ 16
theorem noFit_four {x y : Int} (h : ¬ FitB x y) : (x < 1) ∨ (¬ x < 1 ∧ 1048576 < x) ∨ (¬ x < 1 ∧ ¬ 1048576 < x ∧ y < 1) ∨ (¬ x < 1 ∧ ¬ 1048576 < x ∧ ¬ y < 1 ∧ 16 < y) := by
  unfold FitB at h; omega
theorem bnew_no (x y : Int) (w : World) (h : ¬ FitB x y) :
    Calls Tryd.prog 6 #[.int .i64 x, .int .i64 y] w fun e w' => e = .returned (.tuple #[.pointer none, errV 1]) ∧ Keeps [] w w' := by
  rw [errV_other (by decide)]
  rcases noFit_four h with h1 | ⟨h1, h2⟩ | ⟨h1, h2, h3⟩ | ⟨h1, h2, h3, h4⟩
  all_goals
    clear h
    go_enter Tryd.func6, Tryd.ntmps6
    go_wp2_with fail
    go_ret2
    exact ⟨rfl, Keeps.refl [] w⟩
end Go.Proofs.YthppbefemfkccaaDoor
namespace Go.Proofs.YthppbefemfkccaaDoor
open Go.RowKit
attribute [local irreducible] bitsK orAll

theorem infoBo : (Tryd.prog.info? 4).map (fun i => (i.zero, i.size, i.bytes)) = some (some (.bool false), 1, 1) := by kernel_rfl
theorem make_bools (w : World) (m : Nat) (hm : m ≤ 1048576) : (Instr.makeSlice 29 (.int .i64 (m : Int)) (.int .i64 (m : Int))).run Tryd.prog w = .ok (.slice (some ⟨w.heap.size, 0, none⟩) m m) (w.alloc (.cells (List.replicate m (.bool false)).toArray 4)) := by
  obtain ⟨i, hi, hz0, hz1, hz2⟩ := info_parts infoBo
  have := run_make (P := Tryd.prog) w 29 4 i (.bool false) Tryd.underlying29 hi hz0 .i64 .i64 m m (by omega) (Int.le_refl _) (by rw [hz2]; omega) (by omega)
  rw [this, hz1, Int.toNat_natCast, made_is _ rfl]
/-- The document's filter begun. -/
def RNewP (n k : Nat) (w : World) (e : Ending) (w' : World) : Prop :=
  ∃ g, e = .returned (.tuple #[.agg #[.int .i64 (k : Int), .slice (some ⟨g, 0, none⟩) n n], .int .i64 0]) ∧ w.heap.size ≤ g ∧ w'.heap[g]? = some (.cells (List.replicate n (.bool false)).toArray 4 (0, 0)) ∧ Keeps [] w w'
theorem info_rf : (Tryd.prog.info? 31).map (·.size) = some 2 := by kernel_rfl
theorem results_cell_tmp2 {P : Program} {fn : Func} {p q : Tmp} {ty : TypeId} (h : fn.results = #[.cell p ty, .tmp q]) (tmps : Array Value) (w : World) (g : Nat) (t : TypeId) (cs : Array Value) (fr : Nat × Nat) (d : TypeDesc) (v : Value)
    (hp : tmps.getD p undef = .pointer (some ⟨g, 0, none⟩)) (hq : tmps.getD q undef = v) (hg : w.heap[g]? = some (.cells cs t fr))
    (hu : P.underlying ty = some d) (hd : (match d with | .struct _ | .array _ _ => true | _ => false) = true) (hi : (P.info? ty).map (·.size) = some cs.size) :
    (results fn tmps).run P w = .ok (.tuple #[.agg cs, v]) w := by
  have hp' : tmps[p]?.getD undef = .pointer (some ⟨g, 0, none⟩) := by simpa using hp
  have hq' : tmps[q]?.getD undef = v := by simpa using hq
  simp [results, h, hp', hq', asAddr, run_loadVar_row w g t ty cs fr d hg hu hd hi]
set_option maxRecDepth 100000 in
set_option maxHeartbeats 2000000 in
theorem rnew_any (n k : Nat) (w : World) (hn : 1 ≤ n ∧ n ≤ 1048576) (hk : 1 ≤ k ∧ k ≤ 16) :
    Calls Tryd.prog 7 #[.int .i64 n, .int .i64 k] w (RNewP n k w) := by
  have hms := make_bools (w.alloc (.cells #[.int .i64 0, .slice none 0 0] 31)) n (by omega)
  obtain ⟨hn1, hn2⟩ := hn
  obtain ⟨hk1, hk2⟩ := hk
  have c1 : ¬ ((n : Int) < 1) := by omega
  have c2 : ¬ (1048576 < (n : Int)) := by omega
  have c3 : ¬ ((k : Int) < 1) := by omega
  have c4 : ¬ (16 < (k : Int)) := by omega
  obtain ⟨W, hW⟩ : ∃ W, W = (w.alloc (.cells #[.int .i64 0, .slice none 0 0] 31)).alloc (.cells (List.replicate n (.bool false)).toArray 4) := ⟨_, rfl⟩
  rw [← hW] at hms
  have HW := Lib.hid (show W.heap[w.heap.size]? = some (.cells #[.int .i64 0, .slice none 0 0] 31 (0, 0)) ∧ W.heap[w.heap.size + 1]? = some (.cells (List.replicate n (.bool false)).toArray 4 (0, 0)) ∧ Keeps [] w W from by
    rw [hW]; exact ⟨heap_alloc2_old _ _ _, heap_alloc2_new _ _ _, ((Keeps.refl [] w).alloc _).alloc _⟩)
  have q0 : W.cell? ⟨w.heap.size, 0, none⟩ = some (.int .i64 0) := by rw [cell_of_row _ _ _ _ _ _ HW.out.1]; rfl
  have q1 : W.cell? ⟨w.heap.size, 1, none⟩ = some (.slice none 0 0) := by rw [cell_of_row _ _ _ _ _ _ HW.out.1]; rfl
  have f0 : ∀ i, W.frozen? ⟨w.heap.size, i, none⟩ = false := fun i => frozen_of_row W _ i _ _ HW.out.1
  clear hn1 hn2 hk1 hk2 hW
  go_enter Tryd.func7, Tryd.ntmps7
  go_wp2_with fail
  have h4' : ((W.setCell ⟨w.heap.size, 0, none⟩ (.int .i64 (k : Int))).setCell ⟨w.heap.size, 1, none⟩ (.slice (some ⟨w.heap.size + 1, 0, none⟩) n n)).heap[w.heap.size]? = some (.cells #[.int .i64 (k : Int), .slice (some ⟨w.heap.size + 1, 0, none⟩) n n] 31 (0, 0)) := by
    rw [heap_setCell_same _ w.heap.size 1 _ _ _ (heap_setCell_same W w.heap.size 0 _ _ _ HW.out.1)]
    rfl
  have hk4 : Keeps [w.heap.size] W ((W.setCell ⟨w.heap.size, 0, none⟩ (.int .i64 (k : Int))).setCell ⟨w.heap.size, 1, none⟩ (.slice (some ⟨w.heap.size + 1, 0, none⟩) n n)) := ((Keeps.refl _ W).setCell (p := ⟨w.heap.size, 0, none⟩) (.inl (by simp)) _).setCell (p := ⟨w.heap.size, 1, none⟩) (.inl (by simp)) _
  refine bodyPost_ret (v := .tuple #[.agg #[.int .i64 (k : Int), .slice (some ⟨w.heap.size + 1, 0, none⟩) n n], .int .i64 0]) (results_cell_tmp2 Tryd.results7 _ _ w.heap.size 31 _ (0, 0) _ _ rfl rfl h4' Tryd.underlying31 rfl info_rf) rfl ?_
  exact ⟨w.heap.size + 1, rfl, by omega, (hk4.block _ (lt_of_block HW.out.2.1) (by simp)).trans HW.out.2.1, HW.out.2.2.trans hk4 (fun t ht => .inr (by simp at ht; omega))⟩
set_option maxHeartbeats 2000000 in
theorem rnew_no (x y : Int) (w : World) (h : ¬ FitB x y) :
    Calls Tryd.prog 7 #[.int .i64 x, .int .i64 y] w fun e w' => e = .returned (.tuple #[.agg #[.int .i64 0, .slice none 0 0], .int .i64 1]) ∧ Keeps [] w w' := by
  have HW := Lib.hid (show (w.alloc (.cells #[.int .i64 0, .slice none 0 0] 31)).heap[w.heap.size]? = some (.cells #[.int .i64 0, .slice none 0 0] 31 (0, 0)) from heap_alloc_new _ _)
  rcases noFit_four h with h1 | ⟨h1, h2⟩ | ⟨h1, h2, h3⟩ | ⟨h1, h2, h3, h4⟩
  all_goals
    clear h
    go_enter Tryd.func7, Tryd.ntmps7
    go_wp2_with fail
    refine bodyPost_ret (v := .tuple #[.agg #[.int .i64 0, .slice none 0 0], .int .i64 1]) (results_cell_tmp2 Tryd.results7 _ _ w.heap.size 31 _ (0, 0) _ _ rfl rfl HW.out Tryd.underlying31 rfl info_rf) rfl ?_
    exact ⟨rfl, (Keeps.refl [] w).alloc _⟩
end Go.Proofs.YthppbefemfkccaaDoor
namespace Go.Proofs.YthppbefemfkccaaDoor
open Go.RowKit
attribute [local irreducible] bitsK orAll

theorem encI_snoc (l : List Nat) (i : Nat) (h : i < l.length) : encI (l.take (i + 1)) = encI (l.take i) ++ [.int .i64 (l[i] : Int)] := by
  rw [List.take_succ_eq_append_getElem h]
  unfold encI
  rw [List.map_append]
  rfl
def RBitsF (n k : Nat) (s : List UInt8) (w : World) (e : Ending) (w' : World) : Prop :=
  ∃ A c, e = .returned (.slice A k c) ∧ Rd w' A k 1 (encI (bitsK n k s)) ∧ Keeps [] w w' ∧ (∀ a, A = some a → w.heap.size ≤ a.block)
def RBitsP (n k : Nat) (s : List UInt8) (w : World) (e : Ending) (w' : World) : Prop :=
  ∃ A c, e = .returned (.slice A k c) ∧ Rd w' A k 1 (encI (bitsK n k s)) ∧ Keeps [] w w'
set_option maxHeartbeats 8000000 in
theorem rbits_gen (A0 : Option Addr) (c0 n k : Nat) (s : List UInt8) (w : World) (hn : 1 ≤ n ∧ n ≤ 1048576) (hk : 1 ≤ k ∧ k ≤ 16) (hs : s.length ≤ 140737488351232) :
    Calls Tryd.prog 12 #[.agg #[.int .i64 (k : Int), .slice A0 n c0], .string (strB s)] w (RBitsF n k s w) := by
  have HS := Lib.hid hs
  obtain ⟨W0, hW0⟩ : ∃ W0, W0 = w.alloc (.cells #[.int .i64 (k : Int), .slice A0 n c0] 31) := ⟨_, rfl⟩
  have HB0 := Lib.hid (show W0.heap[w.heap.size]? = some (.cells #[.int .i64 (k : Int), .slice A0 n c0] 31 (0, 0)) ∧ Keeps [] w W0 from by rw [hW0]; exact ⟨heap_alloc_new _ _, (Keeps.refl [] w).alloc _⟩)
  have HW0 := Lib.hid hW0
  have kc := Lib.run_convert_string_bytes (P := Tryd.prog) W0 9 44 5 (strB s) Tryd.underlying9 Tryd.underlying44 Tryd.underlying5
  rw [strB_size] at kc
  obtain ⟨W1, hW1⟩ : ∃ W1, W1 = Lib.bytesWorld W0 5 (strB s) := ⟨_, rfl⟩
  have HK1 := Lib.hid (show Keeps [] W0 W1 by rw [hW1]; exact keeps_conv W0 _ _)
  have HR1 := Lib.hid (show RdB W1 (some ⟨W0.heap.size, 0, none⟩) s by rw [hW1]; exact rd_conv W0 _ s)
  rw [← hW1] at kc
  obtain ⟨a, ha⟩ : ∃ a, a = keyA s := ⟨_, rfl⟩
  obtain ⟨b, hb⟩ : ∃ b, b = keyB s := ⟨_, rfl⟩
  have ha2 : a < 2147483647 := by rw [ha]; exact keyA_lt s
  have hb2 : b < 2147483647 := by rw [hb]; exact keyB_lt s
  have HA := Lib.hid (show hmore 1 s = (a : Int) by rw [ha]; exact keyA_is s)
  have HB := Lib.hid (show hmore 1 (1 :: s) = (b : Int) by rw [hb]; exact keyB_is s)
  have HBK := Lib.hid (show ∀ i, bitK n s i = (a + i * b) % n from fun i => by rw [ha, hb]; rfl)
  have HLK := Lib.hid (bitsK_len n k s)
  have HGT := Lib.hid (show ∀ i (h : i < k), (bitsK n k s)[i]'(by rw [bitsK_len]; exact h) = bitK n s i from fun i h => bitsK_get n k s i h)
  obtain ⟨hn1, hn2⟩ := hn
  obtain ⟨hk1, hk2⟩ := hk
  clear hs hW0 hW1 ha hb
  go_enter Tryd.func12, Tryd.ntmps12
  go_upto_region 1 with fail
  rw [← HW0.out]
  go_wp2_with fail
  refine (refsum_any (some ⟨W0.heap.size, 0, none⟩) s _ W1 (by have := HS.out; omega) HR1.out).mono ?_
  rintro e w1 ⟨rfl, rfl⟩
  rw [HA.out]
  have hown := own_of_block (E := 5) (w := W1.alloc (.cells (encB [1]).toArray 5)) (g := W1.heap.size) (l := [1]) (heap_alloc_new _ _) (by decide)
  have HOW := Lib.hid hown
  clear hown kc
  go_wp2_with (at_builtin; refine wpList_appendS rfl (.tmp 12) (.tmp 13) 44 9 5 rfl Tryd.underlying44 Tryd.underlying9 infoB8 (some ⟨W1.heap.size, 0, none⟩) 1 [1] rfl HOW.out s rfl (by have := HS.out; simp; omega) ?_
               intro A2 c2 w2 l2 hl2 ho2 hk2 hb2
               have H2 := Lib.hid (show RdB w2 A2 l2 ∧ l2 = 1 :: s ∧ Keeps [] W0 w2 from ⟨ho2.rd, hl2.out, (HK1.out.alloc _).fresh hk2 (fun ad e => by cases e; exact HK1.out.size)⟩)
               clear hl2 ho2 hk2 hb2 HOW)
  refine (refsum_any A2 l2 c2 w2 (by rw [H2.out.2.1]; have := HS.out; simp; omega) H2.out.1).mono ?_
  rintro e w3 ⟨rfl, rfl⟩
  rw [H2.out.2.1, HB.out]
  have INV := Lib.hid (show w2.ownsRow 0 3 1 (.slice none 0 0) 0 (encI ((bitsK n k s).take 0)) ∧ w2.heap[w.heap.size]? = some (.cells #[.int .i64 (k : Int), .slice A0 n c0] 31 (0, 0)) ∧ Keeps [] w w2 ∧ (∀ a, (none : Option Addr) = some a → w.heap.size < a.block) from
    ⟨by rw [List.take_zero]; exact World.ownsRow_nil w2 0 3 1, (H2.out.2.2.block _ (lt_of_block HB0.out.1) (by simp)).trans HB0.out.1, HB0.out.2.trans H2.out.2.2 (by simp), by simp⟩)
  clear H2 HK1 HR1 HB0 HW0
  go_wp2_with fail
  go_loopw [7, 8] (fun sl si wr => ∃ (i : Nat) (A : Option Addr) (c : Nat), i ≤ k ∧ si = .int .i64 i ∧ sl = .slice A i c ∧ Hid (wr.ownsRow 0 3 1 (.slice A i c) i (encI ((bitsK n k s).take i)) ∧ wr.heap[w.heap.size]? = some (.cells #[.int .i64 (k : Int), .slice A0 n c0] 31 (0, 0)) ∧ Keeps [] w wr ∧ (∀ a, A = some a → w.heap.size < a.block))) (fun _ si _ => k - (intOf si).toNat)
  case atStart => exact ⟨0, none, 0, Nat.zero_le _, rfl, rfl, INV.out⟩
  case round =>
    clear INV
    obtain ⟨i, A, c, hi, rfl, rfl, hinv⟩ := hrel
    have q0 : wr.cell? ⟨w.heap.size, 0, none⟩ = some (.int .i64 (k : Int)) := by rw [cell_of_row _ _ _ _ _ _ hinv.out.2.1]; rfl
    have q1 : wr.cell? ⟨w.heap.size, 1, none⟩ = some (.slice A0 n c0) := by rw [cell_of_row _ _ _ _ _ _ hinv.out.2.1]; rfl
    by_cases hlt : i < k
    · have hik : (i : Int) < (k : Int) := by omega
      obtain ⟨m, hm⟩ : ∃ m, m = i * b := ⟨_, rfl⟩
      obtain ⟨sm, hsm⟩ : ∃ z, z = a + m := ⟨_, rfl⟩
      obtain ⟨r, hr⟩ : ∃ r, r = sm % n := ⟨_, rfl⟩
      have hmb : m < 34359738368 := by
        have h1 : i * b ≤ 15 * 2147483647 := Nat.mul_le_mul (by omega) (by omega)
        omega
      have f0 : IntKind.u64.wrap (i : Int) = (i : Int) := by rw [IntKind.wrap_u64]; omega
      have f1 : IntKind.u64.wrap ((i : Int) * (b : Int)) = (m : Int) := by
        rw [show (i : Int) * (b : Int) = (m : Int) by rw [hm]; simp, IntKind.wrap_u64]; omega
      have f2 : IntKind.u64.wrap ((a : Int) + (m : Int)) = (sm : Int) := by rw [IntKind.wrap_u64]; omega
      have f3 : IntKind.u64.wrap (n : Int) = (n : Int) := by rw [IntKind.wrap_u64]; omega
      have f4 : (sm : Int).tmod (n : Int) = (r : Int) := by rw [Int.tmod_eq_emod_of_nonneg (by omega), hr]; simp
      have f5 : IntKind.i64.wrap (r : Int) = (r : Int) := by
        have : r < n := by rw [hr]; exact Nat.mod_lt _ (by omega)
        rw [IntKind.wrap_i64]; omega
      have f6 : ((n : Int) == 0) = false := by simp; omega
      have HST := Lib.hid (show encI ((bitsK n k s).take (i + 1)) = encI ((bitsK n k s).take i) ++ [.int .i64 (r : Int)] by
        rw [encI_snoc _ i (by rw [HLK.out]; exact hlt), HGT.out i hlt, HBK.out, hr, hsm, hm])
      have HK2 := Lib.hid (show i + 1 ≤ k ∧ k ≤ 16 from ⟨hlt, hk2⟩)
      have HRD := Lib.hid (show Rd (wr.alloc (.cells #[.int .i64 (r : Int)] 3)) (some ⟨wr.heap.size, 0, none⟩) 1 1 [.int .i64 (r : Int)] from ⟨rfl, fun _ => ⟨_, rfl, fun j u hu => by rw [add_new, Nat.zero_add, cell_of_row _ _ _ _ _ _ (heap_alloc_new _ _)]; simpa using hu⟩⟩)
      clear hm hsm hr hmb
      go_wp2_with (at_builtin; refine wpList_appendV rfl (.tmp 22) (.tmp 37) 37 3 rfl Tryd.underlying37 (.int .i64 0) 1 8 infoI8 rfl (by decide) A c i (encI ((bitsK n k s).take i)) rfl (World.ownsRow.alloc hinv.out.1 _) (some ⟨wr.heap.size, 0, none⟩) 1 1 [.int .i64 (r : Int)] rfl HRD.out (by intro u hu; simp at hu; subst hu; rfl) (by have := HK2.out; simp [maxLen]; omega) (by have := HK2.out; omega) ?_
                   intro A5 c5 w5 ho5 hk5 hb5
                   have H5 := Lib.hid (show w5.ownsRow 0 3 1 (.slice A5 (i + 1) c5) (i + 1) (encI ((bitsK n k s).take (i + 1))) ∧ w5.heap[w.heap.size]? = some (.cells #[.int .i64 (k : Int), .slice A0 n c0] 31 (0, 0)) ∧ Keeps [] w w5 ∧ (∀ a, A5 = some a → w.heap.size < a.block) from by
                     have hka : Keeps (blk A) wr w5 := ((Keeps.refl (blk A) wr).alloc _).trans hk5 (fun t ht => .inl ht)
                     have hgs := lt_of_block hinv.out.2.1
                     refine ⟨by rw [HST.out]; exact ho5, (hka.block _ hgs (fun hm => ?_)).trans hinv.out.2.1, hinv.out.2.2.1.fresh hka (fun a ha => Nat.le_of_lt (hinv.out.2.2.2 a ha)), fun a ha => ?_⟩
                     · obtain ⟨a1, e1, e2⟩ := mem_blk.1 hm
                       have := hinv.out.2.2.2 a1 e1
                       omega
                     · rcases hb5 a ha with h | h
                       · obtain ⟨a1, e1, e2⟩ := mem_blk.1 h
                         have := hinv.out.2.2.2 a1 e1
                         omega
                       · simp at h; omega)
                   clear ho5 hk5 hb5)
      go_roundw
      case rel => exact ⟨i + 1, A5, c5, HK2.out.1, by go_num, rfl, H5.out⟩
      case measure => have := HK2.out.1; simp [intOf]; omega
    · have hik : ¬ (i : Int) < (k : Int) := by omega
      obtain rfl : i = k := by omega
      clear hlt
      go_wp2_with fail
      go_ret
      have h2 := Rd.of_own hinv.out.1
      rw [List.take_of_length_le (by rw [HLK.out]; omega)] at h2
      exact ⟨A, c, rfl, h2, hinv.out.2.2.1, fun a ha => Nat.le_of_lt (hinv.out.2.2.2 a ha)⟩
theorem rbits_any (gb n k : Nat) (s : List UInt8) (w : World) (hn : 1 ≤ n ∧ n ≤ 1048576) (hk : 1 ≤ k ∧ k ≤ 16) (hs : s.length ≤ 140737488351232) :
    Calls Tryd.prog 12 #[.agg #[.int .i64 (k : Int), .slice (some ⟨gb, 0, none⟩) n n], .string (strB s)] w (RBitsP n k s w) := (rbits_gen _ n n k s w hn hk hs).mono fun _ _ h => by obtain ⟨A, c, h1, h2, h3, _⟩ := h; exact ⟨A, c, h1, h2, h3⟩

set_option maxHeartbeats 2000000 in
theorem ints_same (l : List Nat) (k : Nat) (hl : l.length = k) (hk : k ≤ 1000000) (A1 A2 : Option Addr) (c1 c2 : Nat) (w : World) (h1 : Rd w A1 k 1 (encI l)) (h2 : Rd w A2 k 1 (encI l)) :
    Calls Tryd.prog 10 #[.slice A1 k c1, .slice A2 k c2] w fun e w' => e = .returned (.bool true) ∧ Keeps [] w w' := by
  have H1 := Lib.hid h1
  have H2 := Lib.hid h2
  have HL := Lib.hid hl
  clear h1 h2 hl
  have INV := Lib.hid (Keeps.refl [] w)
  go_enter Tryd.func10, Tryd.ntmps10
  go_wp2_with fail
  go_loopw [5] (fun si wr => ∃ i : Nat, i ≤ k ∧ si = .int .i64 i ∧ Hid (Keeps [] w wr)) (fun si _ => k - (intOf si).toNat)
  case atStart => exact ⟨0, Nat.zero_le _, rfl, INV.out⟩
  case round =>
    clear INV
    obtain ⟨i, hi, rfl, hinv⟩ := hrel
    by_cases hlt : i < k
    · have hik : (i : Int) < (k : Int) := by omega
      have HIL := Lib.hid (show i < l.length by rw [HL.out]; exact hlt)
      obtain ⟨v, hv⟩ : ∃ v, v = l[i]'(HIL.out) := ⟨_, rfl⟩
      obtain ⟨a1, rfl, k1⟩ := (H1.out.keeps0 hinv.out).at_ (k := i) (by simpa using HIL.out)
      obtain ⟨a2, rfl, k2⟩ := (H2.out.keeps0 hinv.out).at_ (k := i) (by simpa using HIL.out)
      rw [encI_get l i HIL.out, ← hv] at k1 k2
      have qa : ∀ z : World, (z.cell? (a1.add i) = some (.int .i64 (v : Int)) ∧ z.cell? (a2.add i) = some (.int .i64 (v : Int))) → z.cell? (a1.add i) = some (.int .i64 (v : Int)) := fun z hz => hz.1
      have qb : ∀ z : World, (z.cell? (a1.add i) = some (.int .i64 (v : Int)) ∧ z.cell? (a2.add i) = some (.int .i64 (v : Int))) → z.cell? (a2.add i) = some (.int .i64 (v : Int)) := fun z hz => hz.2
      have HKK := Lib.hid (And.intro k1 k2)
      clear hv k1 k2
      go_wp2_with fail
      refine seq_start (by kernel_rfl) (fun z => z.cell? (a1.add i) = some (.int .i64 (v : Int)) ∧ z.cell? (a2.add i) = some (.int .i64 (v : Int))) 9 [0, 1, 2, 3, 4, 5, 6, 7, 8] rfl (HKK.out) (fun hS => ?_)
      refine seq_take (v := ?_) rfl (by kernel_rfl) (by kernel_rfl) (by kernel_rfl) (Or.inl ⟨by rfl, fun w' hSw => ?_⟩) (by assumption) ?_
      rotate_left
      · go_simp
        with_reducible rfl
      simp only [Act.put, List.setIfInBounds_toArray, List.set_cons_zero, List.set_cons_succ]
      refine seq_take (v := ?_) rfl (by kernel_rfl) (by kernel_rfl) (by kernel_rfl) (Or.inl ⟨by rfl, fun w' hSw => ?_⟩) (by assumption) ?_
      rotate_left
      · go_simp
        with_reducible rfl
      simp only [Act.put, List.setIfInBounds_toArray, List.set_cons_zero, List.set_cons_succ]
      refine seq_take (v := ?_) rfl (by kernel_rfl) (by kernel_rfl) (by kernel_rfl) (Or.inl ⟨by rfl, fun w' hSw => ?_⟩) (by assumption) ?_
      rotate_left
      · go_simp
        with_reducible rfl
      simp only [Act.put, List.setIfInBounds_toArray, List.set_cons_zero, List.set_cons_succ]
      refine seq_take (v := ?_) rfl (by kernel_rfl) (by kernel_rfl) (by kernel_rfl) (Or.inl ⟨by rfl, fun w' hSw => ?_⟩) (by assumption) ?_
      rotate_left
      · go_simp
        with_reducible rfl
      simp only [Act.put, List.setIfInBounds_toArray, List.set_cons_zero, List.set_cons_succ]
      refine seq_take (v := ?_) rfl (by kernel_rfl) (by kernel_rfl) (by kernel_rfl) (Or.inl ⟨by rfl, fun w' hSw => ?_⟩) (by assumption) ?_
      rotate_left
      · go_simp
        with_reducible rfl
      simp only [Act.put, List.setIfInBounds_toArray, List.set_cons_zero, List.set_cons_succ]
      refine seq_take (v := ?_) rfl (by kernel_rfl) (by kernel_rfl) (by kernel_rfl) (Or.inl ⟨by rfl, fun w' hSw => ?_⟩) (by assumption) ?_
      rotate_left
      · go_simp
        with_reducible rfl
      simp only [Act.put, List.setIfInBounds_toArray, List.set_cons_zero, List.set_cons_succ]
      refine seq_take (v := ?_) rfl (by kernel_rfl) (by kernel_rfl) (by kernel_rfl) (Or.inl ⟨by rfl, fun w' hSw => ?_⟩) (by assumption) ?_
      rotate_left
      · go_simp
        with_reducible rfl
      simp only [Act.put, List.setIfInBounds_toArray, List.set_cons_zero, List.set_cons_succ]
      refine seq_take (v := ?_) rfl (by kernel_rfl) (by kernel_rfl) (by kernel_rfl) (Or.inl ⟨by rfl, fun w' hSw => ?_⟩) (by assumption) ?_
      rotate_left
      · go_simp
        with_reducible rfl
      simp only [Act.put, List.setIfInBounds_toArray, List.set_cons_zero, List.set_cons_succ]
      refine seq_take (v := ?_) rfl (by kernel_rfl) (by kernel_rfl) (by kernel_rfl) (Or.inl ⟨by rfl, fun w' hSw => ?_⟩) (by assumption) ?_
      rotate_left
      · go_simp
        with_reducible rfl
      simp only [Act.put, List.setIfInBounds_toArray, List.set_cons_zero, List.set_cons_succ]
      refine seq_done (by kernel_rfl) ?_
      all_goals skip
      have HI := Lib.hid hinv.out.drew
      clear qa qb hS hinv HKK
      generalize wr.drew = V at HI ⊢
      go_wp2_with fail
      go_roundw
      case rel => exact ⟨i + 1, by omega, by go_num, HI.out⟩
      case measure => simp [intOf]; omega
    · have hik : ¬ (i : Int) < (k : Int) := by omega
      clear hlt
      go_wp2_with fail
      go_ret
      exact ⟨rfl, hinv.out⟩
end Go.Proofs.YthppbefemfkccaaDoor
namespace Go.Proofs.YthppbefemfkccaaDoor
open Go.RowKit

/-- How many bits 1 a byte begins with. -/
def lead (b : UInt8) : Nat := 8 - Lib.bitLen (255 - b.toNat)
theorem lead_fin : ∀ b : Fin 256, (8 - Lib.bitLen (255 - b.val)) ≤ 8 ∧ Lib.bitLen (255 - b.val) ≤ 8 ∧ 256 - 2 ^ (8 - (8 - Lib.bitLen (255 - b.val))) ≤ b.val ∧
    ((8 - Lib.bitLen (255 - b.val)) < 8 → b.val - (256 - 2 ^ (8 - (8 - Lib.bitLen (255 - b.val)))) < 2 ^ (7 - (8 - Lib.bitLen (255 - b.val)))) ∧ ((8 - Lib.bitLen (255 - b.val)) = 8 → b.val = 255) ∧
    bits .andNot .u8 (b.val : Int) ((256 - 2 ^ (8 - (8 - Lib.bitLen (255 - b.val))) : Nat) : Int) = ((b.val - (256 - 2 ^ (8 - (8 - Lib.bitLen (255 - b.val)))) : Nat) : Int) := by decide +kernel
theorem lead_le (b : UInt8) : lead b ≤ 8 := by unfold lead; omega
theorem lead_bit (b : UInt8) : (8 - (Lib.bitLen (255 - b.toNat) : Int)) = (lead b : Int) := by
  have := (lead_fin ⟨b.toNat, b.toNat_lt⟩).2.1
  unfold lead
  simp only at this
  omega
theorem lead_head (b : UInt8) : 256 - 2 ^ (8 - lead b) ≤ b.toNat := (lead_fin ⟨b.toNat, b.toNat_lt⟩).2.2.1
theorem lead_tail (b : UInt8) (h : lead b < 8) : b.toNat - (256 - 2 ^ (8 - lead b)) < 2 ^ (7 - lead b) := (lead_fin ⟨b.toNat, b.toNat_lt⟩).2.2.2.1 h
theorem lead_all (b : UInt8) (h : lead b = 8) : b.toNat = 255 := (lead_fin ⟨b.toNat, b.toNat_lt⟩).2.2.2.2.1 h
theorem lead_andNot (b : UInt8) : bits .andNot .u8 (b.toNat : Int) ((256 - 2 ^ (8 - lead b) : Nat) : Int) = ((b.toNat - (256 - 2 ^ (8 - lead b)) : Nat) : Int) := (lead_fin ⟨b.toNat, b.toNat_lt⟩).2.2.2.2.2
theorem not_byte (b : UInt8) : bits .xor .u8 IntKind.u8.max (b.toNat : Int) = ((255 - b.toNat : Nat) : Int) := by
  have : ∀ b : Fin 256, bits .xor .u8 IntKind.u8.max (b.val : Int) = ((255 - b.val : Nat) : Int) := by decide +kernel
  exact this ⟨b.toNat, b.toNat_lt⟩

/-- A number, and more bytes of it. -/
def acc (n : Nat) (l : List UInt8) : Nat := l.foldl (fun n c => n * 256 + c.toNat) n
theorem acc_snoc (n : Nat) (l : List UInt8) (c : UInt8) : acc n (l ++ [c]) = acc n l * 256 + c.toNat := by simp [acc]
theorem acc_lt (n : Nat) (l : List UInt8) (B : Nat) (h : n < B) : acc n l < B * 256 ^ l.length := by
  induction l generalizing n B with
  | nil => simpa [acc] using h
  | cons c l ih =>
    have hc := c.toNat_lt
    have := ih (n * 256 + c.toNat) (B * 256) (by omega)
    show acc (n * 256 + c.toNat) l < _
    rw [List.length_cons, Nat.pow_succ, Nat.mul_comm (256 ^ l.length), ← Nat.mul_assoc]
    exact this
/-- What a first byte has of its number. -/
def tail (b : UInt8) : Nat := b.toNat - (256 - 2 ^ (8 - lead b))
theorem tail_lt (b : UInt8) : tail b * 256 ^ lead b < 2 ^ 64 ∧ (∀ j, j < lead b → (tail b + 1) * 256 ^ j ≤ 2 ^ 56) := by
  have h8 := lead_le b
  have hj : ∀ j, (256 : Nat) ^ j = 2 ^ (8 * j) := fun j => by rw [Nat.pow_mul]
  by_cases h : lead b < 8
  · have ht := lead_tail b h
    unfold tail
    constructor
    · have := Nat.mul_lt_mul_of_pos_right ht (show 0 < 256 ^ lead b from Nat.pow_pos (by omega))
      refine Nat.lt_of_lt_of_le this ?_
      rw [hj, ← Nat.pow_add]
      exact Nat.pow_le_pow_right (by omega) (by omega)
    · intro j hjl
      refine Nat.le_trans (Nat.mul_le_mul_right _ ht) ?_
      rw [hj, ← Nat.pow_add]
      exact Nat.pow_le_pow_right (by omega) (by omega)
  · have h' : lead b = 8 := by omega
    have hb := lead_all b h'
    unfold tail
    rw [hb, h']
    refine ⟨by decide, fun j hjl => ?_⟩
    rw [hj]
    simpa using Nat.pow_le_pow_right (show 0 < 2 by omega) (show 8 * j ≤ 56 by omega)
/-- Ahead of each byte but the last one the number is small. -/
theorem acc_small (b : UInt8) (l : List UInt8) (j : Nat) (hj : j < lead b) : acc (tail b) (l.take j) < 2 ^ 56 := by
  have h1 := acc_lt (tail b) (l.take j) (tail b + 1) (by omega)
  refine Nat.lt_of_lt_of_le h1 (Nat.le_trans (Nat.mul_le_mul_left _ (Nat.pow_le_pow_right (by omega) (show (l.take j).length ≤ j by simp; omega))) ((tail_lt b).2 j hj))
theorem acc_all (b : UInt8) (l : List UInt8) (hl : lead b ≤ l.length) : acc (tail b) (l.take (lead b)) < 2 ^ 64 := by
  rcases Nat.eq_zero_or_pos (lead b) with h | h
  · rw [h, List.take_zero]
    show tail b < _
    have := b.toNat_lt
    unfold tail; omega
  · have hs := acc_small b l (lead b - 1) (by omega)
    have e : l.take (lead b) = l.take (lead b - 1) ++ [l[lead b - 1]] := by
      have := List.take_succ_eq_append_getElem (l := l) (i := lead b - 1) (by omega)
      rwa [show lead b - 1 + 1 = lead b by omega] at this
    rw [e, acc_snoc]
    have := (l[lead b - 1]).toNat_lt
    omega

/-- The number that bytes begin with, how many bytes it has, an error. -/
def numB : List UInt8 → Nat × Nat × Int
  | [] => (0, 0, 12)
  | b :: t => if t.length < lead b then (0, 0, 12) else if bh (acc (tail b) (t.take (lead b))) = lead b then (acc (tail b) (t.take (lead b)), lead b + 1, 0) else (0, 0, 3)
theorem numB_cons (b : UInt8) (t : List UInt8) : numB (b :: t) = if t.length < lead b then (0, 0, 12) else if bh (acc (tail b) (t.take (lead b))) = lead b then (acc (tail b) (t.take (lead b)), lead b + 1, 0) else (0, 0, 3) := rfl
theorem numB_lt (l : List UInt8) : (numB l).1 < 2 ^ 64 ∧ (numB l).2.1 ≤ 9 ∧ (numB l).2.1 ≤ l.length ∧ ((numB l).2.2 = 0 ∨ (numB l).2.2 = 12 ∨ (numB l).2.2 = 3) := by
  cases l with
  | nil => simp [numB]
  | cons b t =>
    have := lead_le b
    rw [numB_cons]
    split
    · simp
    · split
      · refine ⟨acc_all b t (by omega), by show lead b + 1 ≤ 9; omega, by simp; omega, .inl rfl⟩
      · simp
end Go.Proofs.YthppbefemfkccaaDoor
