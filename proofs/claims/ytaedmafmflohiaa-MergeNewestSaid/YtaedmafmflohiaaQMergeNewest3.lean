/- Entries held against a key, weighed, and a key sought in a row in order: contracts. The operation copy onto a block that is known whole, elements of any size. No program is named here. slices.Clone and slices.Insert at entries: contracts. slices.Insert at entries, inside a row that has room: a contract. -/
import Derived.Test.YtaedmafmflohiaaQMergeNewest2
import Derived.Deep.DeepCutAuto
import Derived.Laws.CopyRow
import Derived.Lib.Overlaps
import Derived.Lib.AppendZerosOnto
import Derived.Lib.SliceRun
import Derived.Test.YtaedmafmflohiaaQMergeNewest1
namespace Go.Proofs.Ytaedmafmflohiaa
open Go.RowKit

theorem infoEn : (Try.prog.info? 27).map (fun i => (i.zero, i.size, i.bytes)) = some (some (.agg #[.string ByteArray.empty, .string ByteArray.empty, .bool false]), 3, 40) := by kernel_rfl
theorem infoEn3 : (Try.prog.info? 27).map (·.size) = some 3 := by kernel_rfl
def En.val (e : En) : Value := .agg #[.string (strB e.k), .string (strB e.v), .bool e.g]
theorem by_any (e : En) (key : List UInt8) (w : World) :
    Calls Try.prog 28 #[e.val, .string (strB key)] w fun r w' => r = .returned (.int .i64 (Lib.compareBytes e.k key)) ∧ Keeps [] w w' := by
  obtain ⟨k, v, g⟩ := e
  unfold En.val
  go_enter Try.func28, Try.ntmps28
  go_wp2_with fail
  refine (Try.strings_Compare (strB k) (strB key) _).mono ?_
  rintro e w1 ⟨rfl, rfl⟩
  go_wp2_with fail
  go_ret
  exact ⟨rfl, (Keeps.refl [] w).alloc _⟩
theorem weigh_any (e : En) (w : World) (h1 : e.k.length ≤ 140737488351232) (h2 : e.v.length ≤ 140737488351232) :
    Calls Try.prog 29 #[e.val] w fun r w' => r = .returned (.int .i64 (wE e : Nat)) ∧ Keeps [] w w' := by
  obtain ⟨k, v, g⟩ := e
  have hk : (strB k).size = k.length := rfl
  have hv : (strB v).size = v.length := rfl
  obtain ⟨lk, hlk⟩ : ∃ n, n = k.length := ⟨_, rfl⟩
  obtain ⟨lv, hlv⟩ : ∃ n, n = v.length := ⟨_, rfl⟩
  simp only at h1 h2
  rw [← hlk] at h1 hk
  rw [← hlv] at h2 hv
  have HL := Lib.hid (show lk + lv = wE ⟨k, v, g⟩ by rw [hlk, hlv]; rfl)
  unfold En.val
  clear hlk hlv
  go_enter Try.func29, Try.ntmps29
  go_wp2_with fail
  go_ret
  refine ⟨?_, (Keeps.refl [] w).alloc _⟩
  rw [← HL.out]
  simp
/-- The cells of an entry in a row. -/
theorem en_cells {w : World} {A : Option Addr} {n : Nat} {l : List En} (h : Rd w A n 3 (encEn l)) {i : Nat} (hi : i < l.length) :
    ∃ g o, A = some ⟨g, o, none⟩ ∧ w.cell? ⟨g, o + i * 3, none⟩ = some (.string (strB l[i].k)) ∧ w.cell? ⟨g, o + i * 3 + 1, none⟩ = some (.string (strB l[i].v)) ∧ w.cell? ⟨g, o + i * 3 + 2, none⟩ = some (.bool l[i].g) := by
  have hl := encEn_len l
  obtain ⟨g, o, ha, hc⟩ := h.form (by omega)
  refine ⟨g, o, ha, ?_, ?_, ?_⟩
  · exact hc _ _ (by rw [Nat.mul_comm, ← Nat.add_zero (3 * i), encEn_get l i hi 0 (by decide)]; rfl)
  · rw [Nat.add_assoc]; exact hc _ _ (by rw [Nat.mul_comm, encEn_get l i hi 1 (by decide)]; rfl)
  · rw [Nat.add_assoc]; exact hc _ _ (by rw [Nat.mul_comm, encEn_get l i hi 2 (by decide)]; rfl)
set_option maxHeartbeats 4000000 in
theorem bsearch_any (A : Option Addr) (c : Nat) (l : List En) (key : List UInt8) (w : World) (hr : Rd w A l.length 3 (encEn l)) (hs : Srt l) (hl : l.length ≤ 1000000000) :
    Calls Try.prog 27 #[.slice A l.length c, .string (strB key), .func (.func 28) #[] #[]] w fun r w' => r = .returned (.tuple #[.int .i64 (lo l key : Nat), .bool (hit l key)]) ∧ Keeps [] w w' := by
  have HR := Lib.hid hr
  have HS := Lib.hid hs
  have INV := Lib.hid (Keeps.refl [] w)
  clear hr hs
  go_enter Try.func27, Try.ntmps27
  go_wp2_with fail
  obtain ⟨n, hn⟩ : ∃ n, n = l.length := ⟨_, rfl⟩
  have HN := Lib.hid hn
  rw [← hn] at hl ⊢
  clear hn
  go_loopw [9, 10] (fun si sj wr => ∃ i j : Nat, si = .int .i64 i ∧ sj = .int .i64 j ∧ i ≤ j ∧ j ≤ n ∧ Hid ((∀ t (h : t < l.length), t < i → Op.bytesLess l[t].k key = true) ∧ (∀ t (h : t < l.length), j ≤ t → Op.bytesLess l[t].k key = false)) ∧ Hid (Keeps [] w wr)) (fun si sj _ => (intOf sj).toNat - (intOf si).toNat)
  case atStart => exact ⟨0, n, rfl, rfl, by omega, by omega, ⟨fun t h h2 => by omega, fun t h h2 => by have := HN.out; omega⟩, INV.out⟩
  case round =>
    clear INV
    obtain ⟨i, j, rfl, rfl, hij, hjn, hsp, hk⟩ := hrel
    by_cases hlt : i < j
    · have hlt' : (i : Int) < (j : Int) := by omega
      obtain ⟨h, hh⟩ : ∃ h, h = (i + j) / 2 := ⟨_, rfl⟩
      have f1 : IntKind.u64.wrap ((i : Int) + (j : Int)) = (i : Int) + (j : Int) := by rw [IntKind.wrap_u64]; omega
      have f2 : ((i : Int) + (j : Int)) / 2 = (h : Int) := by omega
      have f3 : IntKind.i64.wrap (h : Int) = (h : Int) := by rw [IntKind.wrap_i64]; omega
      have hhn : (h : Int) < (n : Int) := by omega
      have HH := Lib.hid (show i ≤ h ∧ h < j from by omega)
      have HIL := Lib.hid (show h < l.length from by have := HN.out; omega)
      obtain ⟨g, o, rfl, k0, k1, k2⟩ := en_cells (HR.out.keeps0 hk.out) (i := h) HIL.out
      obtain ⟨e, he⟩ : ∃ e, e = l[h]'(HIL.out) := ⟨_, rfl⟩
      rw [← he] at k0 k1 k2
      have HE := Lib.hid he
      clear hh hlt he
      go_wp2_with fail
      refine (by_any e key wr).mono ?_
      rintro r w2 ⟨rfl, hk2⟩
      have HK := Lib.hid (hk.out.trans hk2 (by simp))
      clear k0 k1 k2 hk2 hk
      obtain ⟨m, hm⟩ : ∃ m, m = Lib.compareBytes e.k key := ⟨_, rfl⟩
      rw [← hm]
      have HM := Lib.hid (show m < 0 ↔ Op.bytesLess e.k key = true from by rw [hm]; exact cmp_lt _ _)
      clear hm
      by_cases hm0 : m < 0
      · have HB := Lib.hid (HM.out.1 hm0)
        go_wp2_with fail
        go_roundw
        case rel => exact ⟨h + 1, j, by go_num, rfl, by have := HH.out; omega, hjn, ⟨fun t ht htj => by
            rcases Nat.lt_or_ge t h with h1 | h1
            · have h2 := HS.out.lt HIL.out h1
              have h3 := HB.out
              rw [HE.out] at h3
              exact bl_trans h2 h3
            · obtain rfl : t = h := by omega
              have h3 := HB.out
              rwa [HE.out] at h3, hsp.out.2⟩, HK.out⟩
        case measure => have := HH.out; simp [intOf]; omega
      · have HB := Lib.hid (show Op.bytesLess e.k key = false from by cases hb : Op.bytesLess e.k key with
          | false => rfl
          | true => exact absurd (HM.out.2 hb) hm0)
        go_wp2_with fail
        go_roundw
        case rel => exact ⟨i, h, rfl, rfl, by have := HH.out; omega, by have := HH.out; omega, ⟨hsp.out.1, fun t ht htj => by
            rcases Nat.lt_or_ge h t with h1 | h1
            · have h2 := HS.out.lt ht h1
              have h3 := HB.out
              rw [HE.out] at h3
              cases hb : Op.bytesLess l[t].k key with
              | false => rfl
              | true => rw [bl_trans h2 hb] at h3; cases h3
            · obtain rfl : t = h := by omega
              have h3 := HB.out
              rwa [HE.out] at h3⟩, HK.out⟩
        case measure => have := HH.out; simp [intOf]; omega
    · obtain rfl : i = j := by omega
      have hlt' : ¬ (i : Int) < (i : Int) := by omega
      have HLO := Lib.hid (show lo l key = i from lo_spec (by have := HN.out; omega) hsp.out.1 (fun h => hsp.out.2 i h (Nat.le_refl _)))
      by_cases hin : i < n
      · have hin' : (i : Int) < (n : Int) := by omega
        have HIL := Lib.hid (show i < l.length from by have := HN.out; omega)
        obtain ⟨g, o, rfl, k0, k1, k2⟩ := en_cells (HR.out.keeps0 hk.out) (i := i) HIL.out
        obtain ⟨e, he⟩ : ∃ e, e = l[i]'(HIL.out) := ⟨_, rfl⟩
        rw [← he] at k0 k1 k2
        have HE := Lib.hid he
        clear hlt he
        go_wp2_with fail
        refine (by_any e key wr).mono ?_
        rintro r w2 ⟨rfl, hk2⟩
        have HK := Lib.hid (hk.out.trans hk2 (by simp))
        clear k0 k1 k2 hk2 hk
        obtain ⟨m, hm⟩ : ∃ m, m = Lib.compareBytes e.k key := ⟨_, rfl⟩
        rw [← hm]
        have HM := Lib.hid (show m = 0 ↔ e.k = key from by rw [hm]; exact cmp_eq0 _ _)
        clear hm
        by_cases hm0 : m = 0
        · have HH := Lib.hid (show hit l key = true from hit_iff.2 (by rw [HLO.out]; exact ⟨HIL.out, by rw [← HE.out]; exact HM.out.1 hm0⟩))
          have e1 : (m == 0) = true := by simp [hm0]
          clear hm0
          go_wp2_with fail
          go_ret2
          exact ⟨by rw [HLO.out, HH.out]; rfl, HK.out⟩
        · have HH := Lib.hid (show hit l key = false from by
            cases hb : hit l key with
            | false => rfl
            | true =>
              obtain ⟨h1, h2⟩ := hit_iff.1 hb
              simp only [HLO.out, ← HE.out] at h2
              exact absurd (HM.out.2 h2) hm0)
          have e1 : (m == 0) = false := by simp [hm0]
          clear hm0
          go_wp2_with fail
          go_ret2
          exact ⟨by rw [HLO.out, HH.out]; rfl, HK.out⟩
      · have hin' : ¬ (i : Int) < (n : Int) := by omega
        have HH := Lib.hid (show hit l key = false from by unfold hit; rw [HLO.out, List.getElem?_eq_none (by have := HN.out; omega)]; rfl)
        clear hlt
        go_wp2_with fail
        go_ret2
        exact ⟨by rw [HLO.out, HH.out]; rfl, hk.out⟩
end Go.Proofs.Ytaedmafmflohiaa
namespace Go.Proofs.Ytaedmafmflohiaa
open Go.RowKit

theorem run_copy_rowN {P : Program} (w : World) (dT sT ty elem : TypeId) (size : Nat) (g o dLen dCap : Nat) (a : Addr) (sLen sCap : Nat) (cur : List Value) (t : TypeId) (cs : List Value)
    (hu : P.underlying dT = some (.slice elem)) (hs : (P.info? elem).map (·.size) = some size)
    (hg : w.heap[g]? = some (.cells cur.toArray t (0, 0))) (hn : cs.length = Nat.min sLen dLen * size)
    (hsrc : ∀ j v, cs[j]? = some v → w.cell? (a.add j) = some v) (hfit : o + cs.length ≤ cur.length) (h1 : ∀ v ∈ cs, v.oneCell' = true) :
    (Builtin.copy_ #[dT, sT] ty #[.slice (some ⟨g, o, none⟩) dLen dCap, .slice (some a) sLen sCap]).run P w =
      .ok (goInt (Nat.min sLen dLen)) (w.setRow g (cur.take o ++ cs ++ cur.drop (o + cs.length)).toArray) := by
  have hl := run_loadCells_list (P := P) w a cs hsrc
  have hst := run_storeCells_at P g o t cs 0 cur.toArray w hg (by simpa using hfit) h1
  cases hq : P.info? elem with
  | none => simp [hq] at hs
  | some i =>
    have hi : i.size = size := by simpa [hq] using hs
    rw [hn] at hl
    simp [Builtin.copy_, run_underlying hu, Builtin.lenOf, Builtin.firstCells, sizeOf, typeInfo, hq, hi, hl, hst]
section
variable {P : Program} {w : World} {ops : Array Oper} {rest : List Oper} {o : Oper} {a : Act} {Q : Exit → Act → World → Prop} {K : Act → World → Prop}
theorem op_copyN (d s : Operand) (dT sT elem : TypeId) (size : Nat) (ho : o.op = .call { callee := .builtin .copy, args := #[d, s], argTypes := #[dT, sT] }) (hu : P.underlying dT = some (.slice elem)) (hsz : (P.info? elem).map (·.size) = some size)
    (g off dLen dCap : Nat) (hd : a.eval d = .slice (some ⟨g, off, none⟩) dLen dCap) (ad : Addr) (sLen sCap : Nat) (hs : a.eval s = .slice (some ad) sLen sCap)
    (cur : List Value) (t : TypeId) (hg : w.heap[g]? = some (.cells cur.toArray t (0, 0))) (cs : List Value) (hn : cs.length = Nat.min sLen dLen * size)
    (hsrc : ∀ j v, cs[j]? = some v → w.cell? (ad.add j) = some v) (hfit : off + cs.length ≤ cur.length) (h1 : ∀ v ∈ cs, v.oneCell' = true)
    (h : ∀ w', Hid (w'.heap[g]? = some (.cells (cur.take off ++ cs ++ cur.drop (off + cs.length)).toArray t (0, 0))) → Keeps [g] w w' → K (a.put o.dst (goInt (Nat.min sLen dLen))) w') : o.wp P a w K Q := by
  have hrun := run_copy_rowN (P := P) w dT sT o.type elem size g off dLen dCap ad sLen sCap cur t cs hu hsz hg hn hsrc hfit h1
  obtain ⟨W, hW⟩ : ∃ W, W = w.setRow g (cur.take off ++ cs ++ cur.drop (off + cs.length)).toArray := ⟨_, rfl⟩
  have h2 : W.heap[g]? = some (.cells (cur.take off ++ cs ++ cur.drop (off + cs.length)).toArray t (0, 0)) := by rw [hW, setRow_heap w g _ _ t _ hg]
  have h3 : Keeps [g] w W := by rw [hW]; exact ⟨rfl, rfl, rfl, by simp [World.setRow], fun k _ hk => setRow_other w g k _ (by simpa using hk)⟩
  rw [← hW] at hrun
  unfold Oper.wp execOp
  simp only [ho, resolve, invoke, builtin, Sem.run_bind, Sem.run_pure, Result.andThen_ok, List.map_toArray, List.map_cons, List.map_nil, hd, hs, hrun]
  exact h W h2 h3
theorem wpList_copyN (hgd : o.guard = none) (d s : Operand) (dT sT elem : TypeId) (size : Nat) (ho : o.op = .call { callee := .builtin .copy, args := #[d, s], argTypes := #[dT, sT] }) (hu : P.underlying dT = some (.slice elem)) (hsz : (P.info? elem).map (·.size) = some size)
    (g off dLen dCap : Nat) (hd : a.eval d = .slice (some ⟨g, off, none⟩) dLen dCap) (ad : Addr) (sLen sCap : Nat) (hs : a.eval s = .slice (some ad) sLen sCap)
    (cur : List Value) (t : TypeId) (hg : w.heap[g]? = some (.cells cur.toArray t (0, 0))) (cs : List Value) (hn : cs.length = Nat.min sLen dLen * size)
    (hsrc : ∀ j v, cs[j]? = some v → w.cell? (ad.add j) = some v) (hfit : off + cs.length ≤ cur.length) (h1 : ∀ v ∈ cs, v.oneCell' = true)
    (h : ∀ w', Hid (w'.heap[g]? = some (.cells (cur.take off ++ cs ++ cur.drop (off + cs.length)).toArray t (0, 0))) → Keeps [g] w w' → wpList P ops Q rest (a.put o.dst (goInt (Nat.min sLen dLen))) w') : wpList P ops Q (o :: rest) a w :=
  wpList_plain hgd fun _ hK => op_copyN d s dT sT elem size ho hu hsz g off dLen dCap hd ad sLen sCap hs cur t hg cs hn hsrc hfit h1 fun w' h2 h3 => hK _ _ (h w' h2 h3)
end
end Go.Proofs.Ytaedmafmflohiaa
namespace Go.Proofs.Ytaedmafmflohiaa
open Go.RowKit

theorem ownEn_empty (w : World) : (w.alloc (.cells #[] 27)).ownsRow 0 27 3 (.slice (some ⟨w.heap.size, 0, none⟩) 0 0) 0 [] :=
  World.ownsRow_lit w #[] 0 (Nat.zero_le _) (by unfold maxLen; omega) rfl
/-- What comes of a call that makes a row. -/
def NewEn (l : List En) (w : World) (e : Ending) (w' : World) : Prop :=
  ∃ A c, e = .returned (.slice A l.length c) ∧ w'.ownsRow 0 27 3 (.slice A l.length c) l.length (encEn l) ∧ Keeps [] w w' ∧ (∀ a, A = some a → w.heap.size ≤ a.block)
theorem clone_en (A : Option Addr) (c : Nat) (l : List En) (w : World) (hr : Rd w A l.length 3 (encEn l)) (hl : l.length ≤ 1000000000) :
    Calls Try.prog 31 #[.slice A l.length c] w (NewEn l w) := by
  have HR := Lib.hid hr
  have HL := Lib.hid hl
  have hlen := encEn_len l
  clear hr hl
  rcases A with _ | ad
  · have h0 : l = [] := by
      rcases Nat.eq_zero_or_pos l.length with h | h
      · exact List.eq_nil_of_length_eq_zero h
      · obtain ⟨ad, e, _⟩ := HR.out.at_ (k := 0) (by omega)
        cases e
    subst h0
    have hn := Lib.run_eql_slice_nil (P := Try.prog) w 22 27 none 0 c 0 0 Try.underlying22
    go_enter Try.func31, Try.ntmps31
    go_wp2_with fail
    go_ret
    exact ⟨none, 0, rfl, World.ownsRow_nil _ _ _ _, Keeps.refl [] w, by simp⟩
  · obtain ⟨n, hn'⟩ : ∃ n, n = l.length := ⟨_, rfl⟩
    have HN := Lib.hid hn'
    have HRR := Lib.hid (show Rd (w.alloc (.cells #[] 27)) (some ad) n 3 (encEn l) from by rw [hn']; exact HR.out.alloc _)
    have HB := Lib.hid (show 0 + n ≤ maxLen ∧ (0 + n) * 40 ≤ 140737488355328 from by have := HL.out; unfold maxLen; omega)
    rw [← hn']
    have hn := Lib.run_eql_slice_nil (P := Try.prog) w 22 27 (some ad) n c 0 0 Try.underlying22
    clear hn' hlen HR
    go_enter Try.func31, Try.ntmps31
    go_wp2_with (at_builtin; refine wpList_appendV rfl (.tmp 5) (.tmp 6) 22 27 rfl Try.underlying22 _ 3 40 infoEn rfl (by decide) (some ⟨w.heap.size, 0, none⟩) 0 0 [] rfl (ownEn_empty w) (some ad) n c (encEn l) rfl HRR.out (encEn_one l) HB.out.1 HB.out.2 ?_; intro A' c' w' ho hk hb; rw [Nat.zero_add, List.nil_append] at ho; have HO := Lib.hid ho; have HK := Lib.hid hk; have HBB := Lib.hid hb; clear ho hk hb)
    go_ret
    have hnl := HN.out
    subst hnl
    refine ⟨A', c', by simp, HO.out, ((Keeps.refl [] w).alloc _).trans HK.out (by simp [blk]), fun a ha => ?_⟩
    rcases HBB.out a ha with h | h
    · simp [blk] at h; omega
    · simp at h; omega
/-- What comes of an insertion. -/
def InsEn (A : Option Addr) (xs : List Value) (n : Nat) (w : World) (e : Ending) (w' : World) : Prop :=
  ∃ A' c', e = .returned (.slice A' n c') ∧ w'.ownsRow 0 27 3 (.slice A' n c') n xs ∧ Keeps (blk A) w w' ∧ (∀ a, A' = some a → a.block ∈ blk A ∨ w.heap.size ≤ a.block)
theorem ins_end (A : Option Addr) (c n : Nat) (xs : List Value) (g2 : Nat) (vs : List Value) (w : World) (ho : w.ownsRow 0 27 3 (.slice A n c) n xs) (hv : Rd w (some ⟨g2, 0, none⟩) 1 3 vs) (h1 : ∀ u ∈ vs, u.oneCell' = true) (hn : n ≤ 1000000000) (hc : n ≤ c) :
    Calls Try.prog 30 #[.slice A n c, .int .i64 n, .slice (some ⟨g2, 0, none⟩) 1 1] w (InsEn A (xs ++ vs) (n + 1) w) := by
  have HO := Lib.hid ho
  have HV := Lib.hid hv
  have HB := Lib.hid (show n + 1 ≤ maxLen ∧ (n + 1) * 40 ≤ 140737488355328 from by unfold maxLen; omega)
  have H1 := Lib.hid h1
  clear ho hv h1
  go_enter Try.func30, Try.ntmps30
  go_wp2_with (first
    | (refine wpList_sec rfl 22 (.tmp 10) (some (.tmp 11)) none none rfl Try.underlying22 infoEn3 A n c n n c rfl (Bnd.at_ rfl) Bnd.no Bnd.no (by omega) (by omega) (by omega) (by simp) ?_)
    | (at_builtin; refine wpList_appendV rfl (.tmp 23) (.tmp 24) 22 27 rfl Try.underlying22 _ 3 40 infoEn rfl (by decide) A c n xs rfl HO.out (some ⟨g2, 0, none⟩) 1 1 vs rfl HV.out H1.out HB.out.1 HB.out.2 ?_; intro A' c' w' ho hk hb; have HO2 := Lib.hid ho; have HK := Lib.hid hk; have HBB := Lib.hid hb; clear ho hk hb))
  go_ret
  exact ⟨A', c', rfl, HO2.out, HK.out, HBB.out⟩
end Go.Proofs.Ytaedmafmflohiaa
namespace Go.Proofs.Ytaedmafmflohiaa
open Go.RowKit

theorem secG {g l m : Nat} (h : m ≠ l) : secA (some (⟨g, 0, none⟩ : Addr)) l m 3 = some ⟨g, l * 3, none⟩ := by
  unfold secA
  rw [if_neg h, Option.map_some, Addr.add_lit, Nat.zero_add]
theorem list_room (cur vs : List Value) (i n : Nat) (hi : i < n) (hc : (n + 1) * 3 ≤ cur.length) (hv : vs.length = 3) :
    (((cur.take ((i + 1) * 3) ++ (cur.drop (i * 3)).take ((n - i) * 3) ++ cur.drop ((i + 1) * 3 + ((cur.drop (i * 3)).take ((n - i) * 3)).length)).take (i * 3) ++ vs ++
      (cur.take ((i + 1) * 3) ++ (cur.drop (i * 3)).take ((n - i) * 3) ++ cur.drop ((i + 1) * 3 + ((cur.drop (i * 3)).take ((n - i) * 3)).length)).drop (i * 3 + vs.length))).take ((n + 1) * 3) =
    (cur.take (n * 3)).take (i * 3) ++ vs ++ (cur.take (n * 3)).drop (i * 3) := by
  obtain ⟨M, hM⟩ : ∃ M, M = (cur.drop (i * 3)).take ((n - i) * 3) := ⟨_, rfl⟩
  have e1 : M.length = (n - i) * 3 := by rw [hM, List.length_take, List.length_drop]; omega
  rw [← hM]
  obtain ⟨R, hR⟩ : ∃ R, R = cur.drop ((i + 1) * 3 + M.length) := ⟨_, rfl⟩
  rw [← hR]
  have hP : (cur.take ((i + 1) * 3)).length = i * 3 + 3 := by rw [List.length_take]; omega
  have a1 : (cur.take ((i + 1) * 3) ++ M ++ R).take (i * 3) = cur.take (i * 3) := by
    rw [List.append_assoc, List.take_append_of_le_length (by omega), List.take_take, Nat.min_eq_left (by omega)]
  have a2 : (cur.take ((i + 1) * 3) ++ M ++ R).drop (i * 3 + vs.length) = M ++ R := by
    rw [List.append_assoc, hv, List.drop_left' hP]
  rw [a1, a2, List.take_take, Nat.min_eq_left (by omega), List.drop_take, show n * 3 - i * 3 = (n - i) * 3 by omega, ← hM, ← List.append_assoc,
    List.take_append_of_le_length (by simp only [List.length_append, List.length_take, e1, hv]; omega), List.take_of_length_le (by simp only [List.length_append, List.length_take, e1, hv]; omega)]
theorem ins_room (g c n i : Nat) (cur : List Value) (g2 : Nat) (vs : List Value) (w : World) (hg : w.heap[g]? = some (.cells cur.toArray 27 (0, 0))) (hcl : cur.length = c * 3) (hcm : c ≤ maxLen) (hone : ∀ u ∈ cur.take (n * 3), u.oneCell' = true)
    (hg2 : w.heap[g2]? = some (.cells vs.toArray 27 (0, 0))) (hne : g2 ≠ g) (hvl : vs.length = 3) (h1 : ∀ u ∈ vs, u.oneCell' = true) (hn : n ≤ 1000000000) (hi : i < n) (hc : n + 1 ≤ c) :
    Calls Try.prog 30 #[.slice (some ⟨g, 0, none⟩) n c, .int .i64 i, .slice (some ⟨g2, 0, none⟩) 1 1] w (InsEn (some ⟨g, 0, none⟩) ((cur.take (n * 3)).take (i * 3) ++ vs ++ (cur.take (n * 3)).drop (i * 3)) (n + 1) w) := by
  have hov : ∀ lb cb, (callFunc 37 #[.slice (some ⟨g2, 0, none⟩) 1 1, .slice (some ⟨g, (i + 1) * 3, none⟩) lb cb]).run Try.prog w = .ok (.value (.bool false)) w := fun lb cb => by
    rw [run_callFunc_extern Try.func37 (by kernel_rfl) (by kernel_rfl) (by kernel_rfl) (e := Extern.SlicesOverlaps.overlaps #[22, 22] #[4]) (by kernel_rfl),
      Lib.run_overlaps_apart w 22 4 27 Try.underlying22 3 Try.sizeOf27 ⟨g2, 0, none⟩ ⟨g, (i + 1) * 3, none⟩ 1 1 lb cb hne 27 27 vs.toArray.size cur.toArray.size (by unfold World.shape?; rw [hg2]) (by unfold World.shape?; rw [hg]) (by simp [hcl]; omega) (frozen_of_row w g2 0 _ _ hg2) (frozen_of_row w g2 _ _ _ hg2)]
    rfl
  have HG := Lib.hid hg
  have HG2 := Lib.hid hg2
  obtain ⟨xs, hxs⟩ : ∃ xs, xs = (cur.drop (i * 3)).take ((n - i) * 3) := ⟨_, rfl⟩
  have HXS := Lib.hid hxs
  have HFI := Lib.hid (show (((cur.take ((i + 1) * 3) ++ xs ++ cur.drop ((i + 1) * 3 + xs.length)).take (i * 3) ++ vs ++ (cur.take ((i + 1) * 3) ++ xs ++ cur.drop ((i + 1) * 3 + xs.length)).drop (i * 3 + vs.length))).take ((n + 1) * 3) = (cur.take (n * 3)).take (i * 3) ++ vs ++ (cur.take (n * 3)).drop (i * 3) from by rw [hxs]; exact list_room cur vs i n hi (by omega) hvl)
  have HXL := Lib.hid (show xs.length = (n - i) * 3 ∧ (∀ u ∈ xs, u.oneCell' = true) ∧ (i + 1) * 3 + xs.length ≤ cur.length from by
    have e1 : xs.length = (n - i) * 3 := by rw [hxs, List.length_take, List.length_drop]; omega
    refine ⟨e1, fun u hu => ?_, by omega⟩
    rw [hxs, show (n - i) * 3 = n * 3 - i * 3 by omega, ← List.drop_take] at hu
    exact hone u (List.mem_of_mem_drop hu))
  have HVL := Lib.hid (And.intro hvl h1)
  have HCL := Lib.hid (And.intro hcl hcm)
  have HSRC := Lib.hid (show ∀ (z : World), z.heap[g]? = some (.cells cur.toArray 27 (0, 0)) → ∀ j v, xs[j]? = some v → z.cell? ((⟨g, i * 3, none⟩ : Addr).add j) = some v from fun z hz j v hj => by
    rw [hxs, List.getElem?_take] at hj
    split at hj
    · rw [List.getElem?_drop] at hj
      rw [Addr.add_lit, cell_of_row _ _ _ _ _ _ hz, List.getElem?_toArray]
      exact hj
    · cases hj)
  have hni : ¬ ((i : Int) = (n : Int)) := by omega
  have hcn : ¬ ((c : Int) < (n : Int) + 1) := by omega
  clear hg hg2 hxs hone hvl h1 hcl hcm
  go_enter Try.func30, Try.ntmps30
  go_wp2_with (first
    | (refine wpList_sec rfl 22 (.tmp 10) (some (.tmp 11)) none none rfl Try.underlying22 infoEn3 (some ⟨g, 0, none⟩) n c i n c rfl (Bnd.at_ rfl) Bnd.no Bnd.no (by omega) (by omega) (by omega) (by simp) ?_; rw [secG (by omega)])
    | (refine wpList_sec rfl 22 (.tmp 56) none (some (.tmp 59)) none rfl Try.underlying22 infoEn3 (some ⟨g, 0, none⟩) n c 0 (n + 1) c rfl Bnd.no (Bnd.at_ rfl) Bnd.no (by omega) (by omega) (by omega) (by simp) ?_; rw [secA_zero, Nat.sub_zero, Nat.sub_zero])
    | (refine wpList_sec rfl 22 (.tmp 62) (some (.tmp 65)) none none rfl Try.underlying22 infoEn3 (some ⟨g, 0, none⟩) (n + 1) c (i + 1) (n + 1) c rfl (Bnd.at_ rfl) Bnd.no Bnd.no (by omega) (by omega) (by omega) (by simp) ?_; rw [secG (by omega)]))
  have fw : IntKind.i64.wrap ((i : Int) + 1) = (i : Int) + 1 := by rw [IntKind.wrap_i64]; omega
  refine seq_start (by kernel_rfl) (fun _ => True) 9 [0, 1, 2, 3, 4, 5, 6, 7, 8] rfl (trivial) (fun hS => ?_)
  refine seq_take (v := ?_) rfl (by kernel_rfl) (by kernel_rfl) (by kernel_rfl) (Or.inl ⟨by rfl, fun w' hSw => ?_⟩) (by assumption) ?_
  rotate_left
  · go_simp
    with_reducible rfl
  simp only [Act.put, List.setIfInBounds_toArray, List.set_cons_zero, List.set_cons_succ]
  refine seq_take (v := ?_) rfl (by kernel_rfl) (by kernel_rfl) (by kernel_rfl) (Or.inl ⟨by rfl, fun w' hSw => ?_⟩) (by assumption) ?_
  rotate_left
  · go_simp
    with_reducible rfl
  simp only [Act.put, List.setIfInBounds_toArray, List.set_cons_zero, List.set_cons_succ]
  refine seq_take (v := ?_) rfl (by kernel_rfl) (by kernel_rfl) (by kernel_rfl) (Or.inl ⟨by rfl, fun w' hSw => ?_⟩) (by assumption) ?_
  rotate_left
  · go_simp
    with_reducible rfl
  simp only [Act.put, List.setIfInBounds_toArray, List.set_cons_zero, List.set_cons_succ]
  refine seq_take (v := ?_) rfl (by kernel_rfl) (by kernel_rfl) (by kernel_rfl) (Or.inl ⟨by rfl, fun w' hSw => ?_⟩) (by assumption) ?_
  rotate_left
  · go_simp
    with_reducible rfl
  simp only [Act.put, List.setIfInBounds_toArray, List.set_cons_zero, List.set_cons_succ]
  refine seq_take (v := .slice (some ⟨g, (i + 1) * 3, none⟩) (n - i) (c - (i + 1))) rfl (by kernel_rfl) (by kernel_rfl) (by kernel_rfl) ?_ (by assumption) ?_
  · exact yieldsIf_sec (by rfl) 22 (.tmp 69) (some (.tmp 72)) none none (by rfl) Try.underlying22 infoEn3 (some ⟨g, 0, none⟩) (n + 1) c (i + 1) (n + 1) c (by rfl) (Bnd.at_ (k := .i64) (by show Value.int .i64 _ = _; (try simp only [fw]); rfl)) Bnd.no Bnd.no (by omega) (by omega) (by omega) (by simp) _ (by rw [secG (by omega), show n + 1 - (i + 1) = n - i by omega])
  simp only [Act.put, List.setIfInBounds_toArray, List.set_cons_zero, List.set_cons_succ]
  refine seq_take (v := ?_) rfl (by kernel_rfl) (by kernel_rfl) (by kernel_rfl) (Or.inl ⟨by rfl, fun w' hSw => ?_⟩) (by assumption) ?_
  rotate_left
  · go_simp
    with_reducible rfl
  simp only [Act.put, List.setIfInBounds_toArray, List.set_cons_zero, List.set_cons_succ]
  refine seq_take (v := ?_) rfl (by kernel_rfl) (by kernel_rfl) (by kernel_rfl) (Or.inl ⟨by rfl, fun w' hSw => ?_⟩) (by assumption) ?_
  rotate_left
  · go_simp
    with_reducible rfl
  simp only [Act.put, List.setIfInBounds_toArray, List.set_cons_zero, List.set_cons_succ]
  refine seq_take (v := .slice (some ⟨g, i * 3, none⟩) (n + 1 - i) (c - i)) rfl (by kernel_rfl) (by kernel_rfl) (by kernel_rfl) ?_ (by assumption) ?_
  · exact yieldsIf_sec (by rfl) 22 (.tmp 74) (some (.tmp 75)) none none (by rfl) Try.underlying22 infoEn3 (some ⟨g, 0, none⟩) (n + 1) c i (n + 1) c (by rfl) (Bnd.at_ (k := .i64) (by rfl)) Bnd.no Bnd.no (by omega) (by omega) (by omega) (by simp) _ (by rw [secG (by omega)])
  simp only [Act.put, List.setIfInBounds_toArray, List.set_cons_zero, List.set_cons_succ]
  refine seq_do rfl (by kernel_rfl) (by rfl) (fun K hK => ?_)
  refine op_copyN (.tmp 73) (.tmp 76) 22 22 27 3 rfl Try.underlying22 infoEn3 g ((i + 1) * 3) (n - i) (c - (i + 1)) rfl ⟨g, i * 3, none⟩ (n + 1 - i) (c - i) rfl cur 27 HG.out xs (by rw [HXL.out.1]; simp only [Nat.min_def]; split <;> omega) (HSRC.out _ HG.out) HXL.out.2.2 HXL.out.2.1 ?_
  intro w1 hg1 hk1
  have HG1 := Lib.hid hg1.out
  obtain ⟨c1, hc1⟩ : ∃ c1, c1 = cur.take ((i + 1) * 3) ++ xs ++ cur.drop ((i + 1) * 3 + xs.length) := ⟨_, rfl⟩
  rw [← hc1] at HG1 HFI
  have HC1 := Lib.hid (show c1.length = c * 3 from by
    rw [hc1]
    have := HXL.out.2.2
    simp only [List.length_append, List.length_take, List.length_drop]
    have := HCL.out.1
    omega)
  have HK1 := Lib.hid (show Keeps [g] w w1 from (Keeps.refl [g] w).drew.trans hk1 (fun t ht => .inl ht))
  have HV1 := Lib.hid (show w1.heap[g2]? = some (.cells vs.toArray 27 (0, 0)) from (hk1.block g2 (lt_of_block (w := w.drew) HG2.out) (by simpa using hne)).trans HG2.out)
  clear hg1 hk1 hc1
  refine hK.out (fun _ => True) _ _ (fun _ h => h) trivial (fun hS => ?_)
  refine seq_done (by kernel_rfl) ?_
  all_goals skip
  go_wp2_with (first
    | (refine wpList_sec rfl 22 (.tmp 78) (some (.tmp 79)) none none rfl Try.underlying22 infoEn3 (some ⟨g, 0, none⟩) (n + 1) c i (n + 1) c rfl (Bnd.at_ rfl) Bnd.no Bnd.no (by omega) (by omega) (by omega) (by simp) ?_; rw [secG (by omega)])
    | (refine wpList_copyN rfl (.tmp 80) (.tmp 81) 22 22 27 3 rfl Try.underlying22 infoEn3 g (i * 3) (n + 1 - i) (c - i) rfl ⟨g2, 0, none⟩ 1 1 rfl c1 27 HG1.out vs (by rw [HVL.out.1]; simp only [Nat.min_def]; split <;> omega) (fun j v hj => by rw [Addr.add_lit, Nat.zero_add, cell_of_row _ _ _ _ _ _ HV1.out, List.getElem?_toArray]; exact hj) (by rw [HVL.out.1, HC1.out]; omega) HVL.out.2 ?_; intro w2 hg2 hk2; have HG2' := Lib.hid hg2.out; have HK2 := Lib.hid hk2; clear hg2 hk2))
  go_ret
  have hl2 : (c1.take (i * 3) ++ vs ++ c1.drop (i * 3 + vs.length)).length = c * 3 := by
    rw [List.length_append, List.length_append, List.length_take, List.length_drop, HVL.out.1, HC1.out]
    omega
  refine ⟨some ⟨g, 0, none⟩, c, rfl, ⟨?_, .inr ⟨g, c, _, rfl, Nat.zero_le _, HG2'.out, by omega, HCL.out.2, by rw [List.size_toArray, hl2], ?_⟩⟩, ?_, fun a ha => .inl (by cases ha; simp [blk])⟩
  · rw [← HFI.out, List.length_take, hl2]; omega
  · exact HFI.out
  · exact (HK1.out.trans HK2.out (fun t ht => .inl ht)).mono (by simp [blk])
end Go.Proofs.Ytaedmafmflohiaa
