/- What package mem tells of its rows: contracts. Rows of entries held against one another; a row of one's own: contracts. What is in a row behind what was laid in: plain lists. No program is named here. -/
import Derived.Test.YtaedmafmflohiaaQMergeNewest5
import Derived.Test.YtaedmafmflohiaaQMergeNewest2
namespace Go.Proofs.Ytaedmafmflohiaa
open Go.RowKit

theorem results_cell_tmp2 {P : Program} {fn : Func} {p q : Tmp} {ty : TypeId} (h : fn.results = #[.cell p ty, .tmp q]) (tmps : Array Value) (w : World) (g : Nat) (t : TypeId) (cs : Array Value) (fr : Nat × Nat) (d : TypeDesc) (v : Value)
    (hp : tmps.getD p undef = .pointer (some ⟨g, 0, none⟩)) (hq : tmps.getD q undef = v) (hg : w.heap[g]? = some (.cells cs t fr))
    (hu : P.underlying ty = some d) (hd : (match d with | .struct _ | .array _ _ => true | _ => false) = true) (hi : (P.info? ty).map (·.size) = some cs.size) :
    (results fn tmps).run P w = .ok (.tuple #[.agg cs, v]) w := by
  have hp' : tmps[p]?.getD undef = .pointer (some ⟨g, 0, none⟩) := by simpa using hp
  have hq' : tmps[q]?.getD undef = v := by simpa using hq
  simp [results, h, hp', hq', asAddr, run_loadVar_row w g t ty cs fr d hg hu hd hi]
def zeroE : En := ⟨[], [], false⟩
/-- What a key has, or nothing. -/
def getV (l : List En) (key : List UInt8) : Value := .tuple #[((getE l key).getD zeroE).val, .bool (getE l key).isSome]
set_option maxHeartbeats 4000000 in
theorem get_any (g : Nat) (A : Option Addr) (c : Nat) (l : List En) (key : List UInt8) (w : World) (hm : MemS w g A c l) (hs : Srt l) (hl : l.length ≤ 10000) :
    Calls Try.prog 15 #[.pointer (some ⟨g, 0, none⟩), .string (strB key)] w fun r w' => r = .returned (getV l key) ∧ Keeps [] w w' := by
  have HM := Lib.hid hm
  have HS := Lib.hid hs
  obtain ⟨gr, hgr⟩ : ∃ gr, gr = w.heap.size := ⟨_, rfl⟩
  obtain ⟨W0, hW0⟩ : ∃ W0, W0 = w.alloc (.cells #[.string ⟨#[]⟩, .string ⟨#[]⟩, .bool false] 27) := ⟨_, rfl⟩
  have H0 := Lib.hid (show W0.heap[gr]? = some (.cells #[.string ⟨#[]⟩, .string ⟨#[]⟩, .bool false] 27 (0, 0)) ∧ MemS W0 g A c l ∧ Keeps [] w W0 from by
    have hka : Keeps [] w W0 := by rw [hW0]; exact (Keeps.refl [] w).alloc _
    exact ⟨by rw [hW0, hgr]; exact heap_alloc_new _ _, hm.keeps0 hka, hka⟩)
  have HW0 := Lib.hid (And.intro hW0 hgr)
  obtain ⟨n, hn⟩ : ∃ n, n = l.length := ⟨_, rfl⟩
  have HN := Lib.hid hn
  have q0 : W0.cell? ⟨g, 0, none⟩ = some (.slice A n c) := by rw [hn]; exact H0.out.2.1.cells.1
  rw [← hn] at hl
  clear hm hs hgr hW0 hn
  go_enter Try.func15, Try.ntmps15
  go_upto_region 3 with fail
  rw [← HW0.out.1, ← HW0.out.2]
  go_wp2_with fail
  have HBS := bsearch_any A c l key W0 H0.out.2.1.rd HS.out (by have := HN.out; omega)
  rw [← HN.out] at HBS
  refine HBS.mono ?_
  clear HBS
  rintro r w2 ⟨rfl, hk2⟩
  obtain ⟨i, hi⟩ : ∃ i, i = lo l key := ⟨_, rfl⟩
  obtain ⟨t, htt⟩ : ∃ t, t = hit l key := ⟨_, rfl⟩
  rw [← hi, ← htt]
  have HI := Lib.hid (And.intro hi htt)
  have H2 := Lib.hid (show w2.heap[gr]? = some (.cells #[.string ⟨#[]⟩, .string ⟨#[]⟩, .bool false] 27 (0, 0)) ∧ MemS w2 g A c l ∧ Keeps [] w w2 from ⟨(hk2.block gr (lt_of_block H0.out.1) (by simp)).trans H0.out.1, H0.out.2.1.keeps0 hk2, H0.out.2.2.trans hk2 (by simp)⟩)
  have q1 : w2.cell? ⟨g, 0, none⟩ = some (.slice A n c) := by rw [HN.out]; exact H2.out.2.1.cells.1
  have z0 : w2.cell? ⟨gr, 0, none⟩ = some (.string ⟨#[]⟩) := by rw [cell_of_row _ _ _ _ _ _ H2.out.1]; rfl
  have z1 : w2.cell? ⟨gr, 1, none⟩ = some (.string ⟨#[]⟩) := by rw [cell_of_row _ _ _ _ _ _ H2.out.1]; rfl
  have z2 : w2.cell? ⟨gr, 2, none⟩ = some (.bool false) := by rw [cell_of_row _ _ _ _ _ _ H2.out.1]; rfl
  have fz : ∀ j, w2.frozen? ⟨gr, j, none⟩ = false := fun j => frozen_of_row w2 _ j _ _ H2.out.1
  clear hi htt hk2 q0 H0
  have hks : ∀ u0 u1 u2, Keeps [gr] w2 (((w2.setCell ⟨gr, 0, none⟩ u0).setCell ⟨gr, 1, none⟩ u1).setCell ⟨gr, 2, none⟩ u2) := fun u0 u1 u2 => (((Keeps.refl [gr] w2).setCell (p := ⟨gr, 0, none⟩) (.inl (by simp)) _).setCell (p := ⟨gr, 1, none⟩) (.inl (by simp)) _).setCell (p := ⟨gr, 2, none⟩) (.inl (by simp)) _
  have hrw : ∀ u0 u1 u2, (((w2.setCell ⟨gr, 0, none⟩ u0).setCell ⟨gr, 1, none⟩ u1).setCell ⟨gr, 2, none⟩ u2).heap[gr]? = some (.cells #[u0, u1, u2] 27 (0, 0)) := fun u0 u1 u2 => by
    rw [heap_setCell_same _ gr 2 _ _ _ (heap_setCell_same _ gr 1 _ _ _ (heap_setCell_same _ gr 0 _ _ _ H2.out.1))]
    rfl
  have HRW := Lib.hid (show ∀ u0 u1 u2, (((w2.setCell ⟨gr, 0, none⟩ u0).setCell ⟨gr, 1, none⟩ u1).setCell ⟨gr, 2, none⟩ u2).heap[gr]? = some (.cells #[u0, u1, u2] 27 (0, 0)) ∧ Keeps [] w (((w2.setCell ⟨gr, 0, none⟩ u0).setCell ⟨gr, 1, none⟩ u1).setCell ⟨gr, 2, none⟩ u2) from fun u0 u1 u2 => ⟨hrw u0 u1 u2, H2.out.2.2.trans (hks u0 u1 u2) (fun t ht => .inr (by simp at ht; have := HW0.out.2; omega))⟩)
  clear hks hrw
  cases t with
  | true =>
    have HGE := Lib.hid (show getE l key = l[i]? from by rw [getE_hit HS.out, ← HI.out.2, ← HI.out.1]; rfl)
    have HIL := Lib.hid (show i < l.length from by rw [HI.out.1]; exact (hit_iff.1 HI.out.2.symm).1)
    have hiI : (i : Int) < (n : Int) := by have := HN.out; have := HIL.out; omega
    obtain ⟨ga, o, rfl, k0, k1, k2⟩ := en_cells H2.out.2.1.rd (i := i) HIL.out
    obtain ⟨e, he⟩ : ∃ e, e = l[i]'(HIL.out) := ⟨_, rfl⟩
    rw [← he] at k0 k1 k2
    have HE := Lib.hid he
    clear he
    go_wp2_with fail
    have hw := HRW.out (.string (strB e.k)) (.string (strB e.v)) (.bool e.g)
    refine bodyPost_ret (v := .tuple #[.agg #[.string (strB e.k), .string (strB e.v), .bool e.g], .bool true]) (results_cell_tmp2 Try.results15 _ _ gr 27 _ (0, 0) _ _ rfl rfl hw.1 Try.underlying27 rfl infoEn3) rfl ?_
    exact ⟨by unfold getV; rw [HGE.out, List.getElem?_eq_getElem HIL.out, ← HE.out]; rfl, hw.2⟩
  | false =>
    have HGE := Lib.hid (show getE l key = none from by rw [getE_hit HS.out, ← HI.out.2]; rfl)
    go_wp2_with fail
    have hw := HRW.out (.string ⟨#[]⟩) (.string ⟨#[]⟩) (.bool false)
    refine bodyPost_ret (v := .tuple #[.agg #[.string ⟨#[]⟩, .string ⟨#[]⟩, .bool false], .bool false]) (results_cell_tmp2 Try.results15 _ _ gr 27 _ (0, 0) _ _ rfl rfl hw.1 Try.underlying27 rfl infoEn3) rfl ?_
    exact ⟨by unfold getV; rw [HGE.out]; rfl, hw.2⟩
theorem len_any (g : Nat) (A : Option Addr) (c : Nat) (l : List En) (w : World) (hm : MemS w g A c l) :
    Calls Try.prog 20 #[.pointer (some ⟨g, 0, none⟩)] w fun r w' => r = .returned (.int .i64 (l.length : Nat)) ∧ w = w' := by
  have q0 := hm.cells.1
  go_enter Try.func20, Try.ntmps20
  go_wp2_with fail
  go_ret
  exact ⟨rfl, rfl⟩
theorem size_any (g : Nat) (A : Option Addr) (c : Nat) (l : List En) (w : World) (hm : MemS w g A c l) :
    Calls Try.prog 18 #[.pointer (some ⟨g, 0, none⟩)] w fun r w' => r = .returned (.int .i64 (sizeE l : Nat)) ∧ w = w' := by
  have q0 := hm.cells.2
  go_enter Try.func18, Try.ntmps18
  go_wp2_with fail
  go_ret
  exact ⟨rfl, rfl⟩
/-- The entries with keys from one on, up to another one. -/
def rangeE (l : List En) (a b : List UInt8) : List En := (l.drop (lo l a)).take (max (lo l a) (if b = [] then l.length else lo l b) - lo l a)
set_option maxHeartbeats 4000000 in
theorem range_any (g : Nat) (A : Option Addr) (c : Nat) (l : List En) (a b : List UInt8) (w : World) (hm : MemS w g A c l) (hs : Srt l) (hl : l.length ≤ 10000) :
    Calls Try.prog 12 #[.pointer (some ⟨g, 0, none⟩), .string (strB a), .string (strB b)] w (NewEn (rangeE l a b) w) := by
  have HM := Lib.hid hm
  have HS := Lib.hid hs
  obtain ⟨n, hn⟩ : ∃ n, n = l.length := ⟨_, rfl⟩
  have HN := Lib.hid hn
  have q0 : w.cell? ⟨g, 0, none⟩ = some (.slice A n c) := by rw [hn]; exact hm.cells.1
  rw [← hn] at hl
  clear hm hs hn
  go_enter Try.func12, Try.ntmps12
  go_wp2_with fail
  have HBS := bsearch_any A c l a w HM.out.rd HS.out (by have := HN.out; omega)
  rw [← HN.out] at HBS
  refine HBS.mono ?_
  clear HBS
  rintro r w2 ⟨rfl, hk2⟩
  obtain ⟨i, hi⟩ : ∃ i, i = lo l a := ⟨_, rfl⟩
  rw [← hi]
  have HI := Lib.hid hi
  have hin : i ≤ n := by rw [hi, HN.out]; exact lo_le _ _
  have H2 := Lib.hid (show MemS w2 g A c l ∧ Keeps [] w w2 from ⟨HM.out.keeps0 hk2, hk2⟩)
  have q1 : w2.cell? ⟨g, 0, none⟩ = some (.slice A n c) := by rw [HN.out]; exact H2.out.1.cells.1
  clear hi hk2 q0
  have hnc : n ≤ c := by
    rcases H2.out.1.2.1.2 with ⟨h1, h0⟩ | ⟨g', cap, cur, hv, hb, hh, hnc, _⟩
    · have := HN.out; omega
    · injection hv with e1 e2 e3
      have := HN.out
      omega
  by_cases hb : b = []
  · have fb : (strB b).toList.isEmpty = true := by rw [strB_toList, hb]; rfl
    have fm : max (i : Int) (n : Int) = (n : Int) := by omega
    have HR := Lib.hid (show Rd w2 (secA A i c 3) ((l.drop i).take (n - i)).length 3 (encEn ((l.drop i).take (n - i))) ∧ ((l.drop i).take (n - i)).length = n - i ∧ rangeE l a b = (l.drop i).take (n - i) from by
      have h1 := H2.out.1.rd.sec i (n - i) c (by have := HN.out; omega) (by omega)
      have e1 : ((l.drop i).take (n - i)).length = n - i := by rw [List.length_take, List.length_drop]; have := HN.out; omega
      rw [e1, ← encEn_take, ← encEn_drop, Nat.mul_comm 3, Nat.mul_comm 3]
      exact ⟨h1, rfl, by unfold rangeE; rw [if_pos hb, ← HI.out, ← HN.out, Nat.max_eq_right hin]⟩)
    clear hb
    go_wp2_with (refine wpList_sec rfl 22 (.tmp 40) (some (.tmp 41)) (some (.tmp 44)) none rfl Try.underlying22 infoEn3 A n c i n c rfl (Bnd.at_ rfl) (Bnd.at_ rfl) Bnd.no (by omega) (by omega) (by omega) (by simp) ?_)
    have HCL := clone_en (secA A i c 3) (c - i) ((l.drop i).take (n - i)) w2 HR.out.1 (by rw [HR.out.2.1]; omega)
    unfold NewEn at HCL
    rw [HR.out.2.1] at HCL
    refine HCL.mono ?_
    clear HCL
    rintro r w3 ⟨A3, c3, rfl, ho3, hk3, hb3⟩
    have H3 := Lib.hid (And.intro ho3 (And.intro hk3 hb3))
    clear ho3 hk3 hb3
    go_wp2_with fail
    go_ret
    refine ⟨A3, c3, by rw [HR.out.2.2, HR.out.2.1]; rfl, by rw [HR.out.2.2, HR.out.2.1]; exact H3.out.1, H2.out.2.trans H3.out.2.1 (by simp), fun a ha => Nat.le_trans H2.out.2.size (H3.out.2.2 a ha)⟩
  · have fb : (strB b).toList.isEmpty = false := by
      cases b with
      | nil => exact absurd rfl hb
      | cons x y => rw [strB_toList]; rfl
    have HNB := Lib.hid hb
    clear hb
    go_wp2_with fail
    have HBS := bsearch_any A c l b w2 H2.out.1.rd HS.out (by have := HN.out; omega)
    rw [← HN.out] at HBS
    refine HBS.mono ?_
    clear HBS
    rintro r w3 ⟨rfl, hk3⟩
    obtain ⟨j, hj⟩ : ∃ j, j = lo l b := ⟨_, rfl⟩
    rw [← hj]
    obtain ⟨m, hm⟩ : ∃ m, m = max i j := ⟨_, rfl⟩
    have hjn : j ≤ n := by rw [hj, HN.out]; exact lo_le _ _
    have fm : max (i : Int) (j : Int) = (m : Int) := by omega
    have hmn : m ≤ n := by omega
    have him : i ≤ m := by omega
    have HR := Lib.hid (show Rd w3 (secA A i c 3) ((l.drop i).take (m - i)).length 3 (encEn ((l.drop i).take (m - i))) ∧ ((l.drop i).take (m - i)).length = m - i ∧ rangeE l a b = (l.drop i).take (m - i) from by
      have h1 := (H2.out.1.rd.keeps0 hk3).sec i (m - i) c (by have := HN.out; omega) (by omega)
      have e1 : ((l.drop i).take (m - i)).length = m - i := by rw [List.length_take, List.length_drop]; have := HN.out; omega
      rw [e1, ← encEn_take, ← encEn_drop, Nat.mul_comm 3, Nat.mul_comm 3]
      exact ⟨h1, rfl, by unfold rangeE; rw [if_neg HNB.out, ← HI.out, ← hj, ← hm]⟩)
    have H3 := Lib.hid (show MemS w3 g A c l ∧ Keeps [] w w3 from ⟨H2.out.1.keeps0 hk3, H2.out.2.trans hk3 (by simp)⟩)
    have q2 : w3.cell? ⟨g, 0, none⟩ = some (.slice A n c) := by rw [HN.out]; exact H3.out.1.cells.1
    clear hj hm hk3 q1 hjn
    go_wp2_with (refine wpList_sec rfl 22 (.tmp 40) (some (.tmp 41)) (some (.tmp 44)) none rfl Try.underlying22 infoEn3 A n c i m c rfl (Bnd.at_ rfl) (Bnd.at_ rfl) Bnd.no (by omega) (by omega) (by omega) (by simp) ?_)
    have HCL := clone_en (secA A i c 3) (c - i) ((l.drop i).take (m - i)) w3 HR.out.1 (by rw [HR.out.2.1]; omega)
    unfold NewEn at HCL
    rw [HR.out.2.1] at HCL
    refine HCL.mono ?_
    clear HCL
    rintro r w4 ⟨A3, c3, rfl, ho3, hk3, hb3⟩
    have H4 := Lib.hid (And.intro ho3 (And.intro hk3 hb3))
    clear ho3 hk3 hb3
    go_wp2_with fail
    go_ret
    refine ⟨A3, c3, by rw [HR.out.2.2, HR.out.2.1]; rfl, by rw [HR.out.2.2, HR.out.2.1]; exact H4.out.1, H3.out.2.trans H4.out.2.1 (by simp), fun a ha => Nat.le_trans H3.out.2.size (H4.out.2.2 a ha)⟩
theorem range_all (l : List En) : rangeE l [] [] = l := by
  have h : lo l [] = 0 := by
    cases l with
    | nil => rfl
    | cons e l => rw [lo_cons, bl_nil]; rfl
  unfold rangeE
  rw [h]
  simp
theorem entries_any (g : Nat) (A : Option Addr) (c : Nat) (l : List En) (w : World) (hm : MemS w g A c l) (hs : Srt l) (hl : l.length ≤ 10000) :
    Calls Try.prog 16 #[.pointer (some ⟨g, 0, none⟩)] w (NewEn l w) := by
  have HRG := Lib.hid (range_any g A c l [] [] w hm hs hl)
  rw [range_all] at HRG
  have hz : (⟨#[]⟩ : ByteArray) = strB [] := rfl
  clear hm hs
  go_enter Try.func16, Try.ntmps16
  go_wp2_with fail
  refine HRG.out.mono ?_
  rintro r w2 ⟨A2, c2, rfl, h2, h3, h4⟩
  have H2 := Lib.hid (And.intro h2 (And.intro h3 h4))
  clear h2 h3 h4
  go_wp2_with fail
  go_ret
  exact ⟨A2, c2, rfl, H2.out.1, H2.out.2.1, H2.out.2.2⟩
end Go.Proofs.Ytaedmafmflohiaa
namespace Go.Proofs.Ytaedmafmflohiaa
open Go.RowKit

set_option maxHeartbeats 4000000 in
theorem entries_same (l : List En) (A1 A2 : Option Addr) (c1 c2 : Nat) (w : World) (h1 : Rd w A1 l.length 3 (encEn l)) (h2 : Rd w A2 l.length 3 (encEn l)) (hl : l.length ≤ 1000000) :
    Calls Try.prog 11 #[.slice A1 l.length c1, .slice A2 l.length c2] w fun r w' => r = .returned (.bool true) ∧ Keeps [] w w' := by
  have H1 := Lib.hid h1
  have H2 := Lib.hid h2
  obtain ⟨n, hn⟩ : ∃ n, n = l.length := ⟨_, rfl⟩
  have HN := Lib.hid hn
  have INV := Lib.hid (Keeps.refl [] w)
  rw [← hn] at hl ⊢
  clear h1 h2 hn
  go_enter Try.func11, Try.ntmps11
  go_wp2_with fail
  go_loopw [5] (fun si wr => ∃ i : Nat, i ≤ n ∧ si = .int .i64 i ∧ Hid (Keeps [] w wr)) (fun si _ => n - (intOf si).toNat)
  case atStart => exact ⟨0, Nat.zero_le _, rfl, INV.out⟩
  case round =>
    clear INV
    obtain ⟨i, hi, rfl, hinv⟩ := hrel
    by_cases hlt : i < n
    · have hik : (i : Int) < (n : Int) := by omega
      have HIL := Lib.hid (show i < l.length by have := HN.out; omega)
      obtain ⟨g1, o1, rfl, k0, k1, k2⟩ := en_cells (H1.out.keeps0 hinv.out) (i := i) HIL.out
      obtain ⟨g2, o2, rfl, m0, m1, m2⟩ := en_cells (H2.out.keeps0 hinv.out) (i := i) HIL.out
      obtain ⟨e, he⟩ : ∃ e, e = l[i]'(HIL.out) := ⟨_, rfl⟩
      rw [← he] at k0 k1 k2 m0 m1 m2
      have HKK := Lib.hid (And.intro (And.intro k0 (And.intro k1 k2)) (And.intro m0 (And.intro m1 m2)))
      clear k0 k1 k2 m0 m1 m2 he hlt
      go_upto_region 6 with fail
      have qa : ∀ z : World, Keeps [] wr z → z.cell? ⟨g1, o1 + i * 3, none⟩ = some (.string (strB e.k)) := fun z hz => hz.cell HKK.out.1.1 (by simp)
      have qb : ∀ z : World, Keeps [] wr z → z.cell? ⟨g1, o1 + i * 3 + 1, none⟩ = some (.string (strB e.v)) := fun z hz => hz.cell HKK.out.1.2.1 (by simp)
      have qc : ∀ z : World, Keeps [] wr z → z.cell? ⟨g1, o1 + i * 3 + 2, none⟩ = some (.bool e.g) := fun z hz => hz.cell HKK.out.1.2.2 (by simp)
      have qd : ∀ z : World, Keeps [] wr z → z.cell? ⟨g2, o2 + i * 3, none⟩ = some (.string (strB e.k)) := fun z hz => hz.cell HKK.out.2.1 (by simp)
      have qe : ∀ z : World, Keeps [] wr z → z.cell? ⟨g2, o2 + i * 3 + 1, none⟩ = some (.string (strB e.v)) := fun z hz => hz.cell HKK.out.2.2.1 (by simp)
      have qf : ∀ z : World, Keeps [] wr z → z.cell? ⟨g2, o2 + i * 3 + 2, none⟩ = some (.bool e.g) := fun z hz => hz.cell HKK.out.2.2.2 (by simp)
      refine seq_start (by kernel_rfl) (fun z => Keeps [] wr z) 9 [0, 1, 2, 3, 4, 5, 6, 7, 8] rfl ((Keeps.refl [] wr).drew) (fun hS => ?_)
      refine seq_take (v := ?_) rfl (by kernel_rfl) (by kernel_rfl) (by kernel_rfl) (Or.inl ⟨by rfl, fun w' hSw => ?_⟩) (by assumption) ?_
      rotate_left
      · go_simp
        with_reducible rfl
      simp only [Act.put, List.setIfInBounds_toArray, List.set_cons_zero, List.set_cons_succ]
      refine seq_take (v := ?_) rfl (by kernel_rfl) (by kernel_rfl) (by kernel_rfl) (Or.inl ⟨by rfl, fun w' hSw => ?_⟩) (by assumption) ?_
      rotate_left
      · go_simp
        with_reducible rfl
      simp only [Act.put, List.setIfInBounds_toArray, List.set_cons_zero, List.set_cons_succ]
      refine seq_take (v := ?_) rfl (by kernel_rfl) (by kernel_rfl) (by kernel_rfl) (Or.inl ⟨by rfl, fun w' hSw => ?_⟩) (by assumption) ?_
      rotate_left
      · go_simp
        with_reducible rfl
      simp only [Act.put, List.setIfInBounds_toArray, List.set_cons_zero, List.set_cons_succ]
      refine seq_take (v := ?_) rfl (by kernel_rfl) (by kernel_rfl) (by kernel_rfl) (Or.inl ⟨by rfl, fun w' hSw => ?_⟩) (by assumption) ?_
      rotate_left
      · go_simp
        with_reducible rfl
      simp only [Act.put, List.setIfInBounds_toArray, List.set_cons_zero, List.set_cons_succ]
      refine seq_take (v := ?_) rfl (by kernel_rfl) (by kernel_rfl) (by kernel_rfl) (Or.inl ⟨by rfl, fun w' hSw => ?_⟩) (by assumption) ?_
      rotate_left
      · go_simp
        with_reducible rfl
      simp only [Act.put, List.setIfInBounds_toArray, List.set_cons_zero, List.set_cons_succ]
      refine seq_take (v := ?_) rfl (by kernel_rfl) (by kernel_rfl) (by kernel_rfl) (Or.inl ⟨by rfl, fun w' hSw => ?_⟩) (by assumption) ?_
      rotate_left
      · go_simp
        with_reducible rfl
      simp only [Act.put, List.setIfInBounds_toArray, List.set_cons_zero, List.set_cons_succ]
      refine seq_take (v := ?_) rfl (by kernel_rfl) (by kernel_rfl) (by kernel_rfl) (Or.inl ⟨by rfl, fun w' hSw => ?_⟩) (by assumption) ?_
      rotate_left
      · go_simp
        with_reducible rfl
      simp only [Act.put, List.setIfInBounds_toArray, List.set_cons_zero, List.set_cons_succ]
      refine seq_take (v := ?_) rfl (by kernel_rfl) (by kernel_rfl) (by kernel_rfl) (Or.inl ⟨by rfl, fun w' hSw => ?_⟩) (by assumption) ?_
      rotate_left
      · go_simp
        with_reducible rfl
      simp only [Act.put, List.setIfInBounds_toArray, List.set_cons_zero, List.set_cons_succ]
      refine seq_take (v := ?_) rfl (by kernel_rfl) (by kernel_rfl) (by kernel_rfl) (Or.inl ⟨by rfl, fun w' hSw => ?_⟩) (by assumption) ?_
      rotate_left
      · go_simp
        with_reducible rfl
      simp only [Act.put, List.setIfInBounds_toArray, List.set_cons_zero, List.set_cons_succ]
      refine seq_done (by kernel_rfl) ?_
      all_goals skip
      have HI := Lib.hid hinv.out.drew
      clear qa qb qc qd qe qf hS hinv HKK
      generalize wr.drew = V at HI ⊢
      go_wp2_with fail
      go_roundw
      case rel => exact ⟨i + 1, by omega, by go_num, HI.out⟩
      case measure => simp [intOf]; omega
    · have hik : ¬ (i : Int) < (n : Int) := by omega
      clear hlt
      go_wp2_with fail
      go_ret
      exact ⟨rfl, hinv.out⟩
theorem own_en (A : Option Addr) (c : Nat) (l : List En) (w : World) (h : Rd w A l.length 3 (encEn l)) (hl : l.length ≤ 1000000000) :
    Calls Try.prog 17 #[.slice A l.length c] w (NewEn l w) := by
  have HR := Lib.hid h
  obtain ⟨n, hn⟩ : ∃ n, n = l.length := ⟨_, rfl⟩
  have HN := Lib.hid hn
  have HB := Lib.hid (show 0 + n ≤ maxLen ∧ (0 + n) * 40 ≤ 140737488355328 from by unfold maxLen; omega)
  rw [← hn] at hl HR ⊢
  clear h hn
  go_enter Try.func17, Try.ntmps17
  go_wp2_with (at_builtin; refine wpList_appendV rfl (.tmp 4) (.tmp 5) 22 27 rfl Try.underlying22 _ 3 40 infoEn rfl (by decide) none 0 0 [] rfl (World.ownsRow_nil _ 0 _ _) A n c (encEn l) rfl HR.out (encEn_one l) HB.out.1 HB.out.2 ?_; intro A' c' w' ho hk hb; rw [Nat.zero_add, List.nil_append] at ho; have HO := Lib.hid ho; have HK := Lib.hid hk; have HBB := Lib.hid hb; clear ho hk hb)
  go_ret
  have hnl := HN.out
  subst hnl
  refine ⟨A', c', by simp, HO.out, HK.out.mono (by simp [blk]), fun a ha => ?_⟩
  rcases HBB.out a ha with h | h
  · simp [blk] at h
  · exact h
theorem rd_rowN {w : World} {g n : Nat} {T : TypeId} {xs : List Value} {fr : Nat × Nat} (h : w.heap[g]? = some (.cells xs.toArray T fr)) (hn : xs.length = n * 3) : Rd w (some ⟨g, 0, none⟩) n 3 xs :=
  ⟨by simp [hn], fun _ => ⟨_, rfl, fun j u hu => by rw [Addr.add_lit, Nat.zero_add, cell_of_row _ _ _ _ _ _ h, List.getElem?_toArray]; exact hu⟩⟩
def sb : En := ⟨[98], [120], false⟩
def sa : En := ⟨[97], [121], false⟩
def sg : En := ⟨[98], [], true⟩
theorem put_b : putE [] sb = [sb] := rfl
theorem put_ab : putE [sb] sa = [sa, sb] := rfl
theorem put_gb : putE [sa, sb] sg = [sa, sg] := rfl
theorem PutP.step {g : Nat} {A : Option Addr} {l : List En} {w0 w : World} {r : Ending} {w' : World} (h : PutP g A l w r w') (hk : Keeps [] w0 w) (h0 : w0.heap.size ≤ g) (hA : ∀ a, A = some a → w0.heap.size ≤ a.block) :
    r = .returned (.tuple #[]) ∧ ∃ A' c', MemS w' g A' c' l ∧ Keeps [] w0 w' ∧ (∀ a, A' = some a → w0.heap.size ≤ a.block) := by
  obtain ⟨h1, A', c', h2, h3, h4⟩ := h
  refine ⟨h1, A', c', h2, hk.trans h3 (fun t ht => ?_), fun a ha => ?_⟩
  · rcases List.mem_cons.1 ht with rfl | ht
    · exact .inr h0
    · obtain ⟨a, e1, e2⟩ := mem_blk.1 ht
      exact .inr (by rw [← e2]; exact hA a e1)
  · rcases h4 a ha with h | h
    · obtain ⟨a1, e1, e2⟩ := mem_blk.1 h
      have := hA a1 e1
      omega
    · exact Nat.le_trans hk.size h
set_option maxHeartbeats 4000000 in
theorem msure_any (w : World) : Calls Try.prog 14 #[] w fun r w' => r = .returned (.bool true) ∧ Keeps [] w w' := by
  go_enter Try.func14, Try.ntmps14
  go_wp2_with fail
  refine (mnew_any w).mono ?_
  rintro r w1 ⟨g, rfl, hm1, hk1, hg1⟩
  have H1 := Lib.hid (And.intro hm1 (And.intro hk1 hg1))
  clear hm1 hk1 hg1
  go_wp2_with fail
  refine (put_any g none 0 [] sb w1 H1.out.1 List.Pairwise.nil (by intro e he; cases he) (by decide) (by decide) (by decide)).mono ?_
  intro r w2 hp
  obtain ⟨rfl, A2, c2, hm2, hk2, hb2⟩ := hp.step H1.out.2.1 H1.out.2.2 (by simp)
  rw [put_b] at hm2
  have H2 := Lib.hid (And.intro hm2 (And.intro hk2 (And.intro H1.out.2.2 hb2)))
  clear hm2 hk2 hb2 hp H1
  go_wp2_with fail
  have hs1 : Srt [sb] := List.pairwise_singleton _ _
  refine (put_any g A2 c2 [sb] sa w2 H2.out.1 hs1 (by intro e he; simp at he; subst he; decide) (by decide) (by decide) (by decide)).mono ?_
  intro r w3 hp
  obtain ⟨rfl, A3, c3, hm3, hk3, hb3⟩ := hp.step H2.out.2.1 H2.out.2.2.1 H2.out.2.2.2
  rw [put_ab] at hm3
  have H3 := Lib.hid (And.intro hm3 (And.intro hk3 (And.intro H2.out.2.2.1 hb3)))
  have hs2 : Srt [sa, sb] := by rw [← put_ab]; exact putE_srt hs1 _
  clear hm3 hk3 hb3 hp H2
  go_wp2_with fail
  refine (put_any g A3 c3 [sa, sb] sg w3 H3.out.1 hs2 (by intro e he; simp at he; rcases he with rfl | rfl <;> decide) (by decide) (by decide) (by decide)).mono ?_
  intro r w4 hp
  obtain ⟨rfl, A4, c4, hm4, hk4, hb4⟩ := hp.step H3.out.2.1 H3.out.2.2.1 H3.out.2.2.2
  rw [put_gb] at hm4
  have H4 := Lib.hid (And.intro hm4 hk4)
  have HS3 := Lib.hid (show Srt [sa, sg] by rw [← put_gb]; exact putE_srt hs2 _)
  clear hm4 hk4 hb4 hp H3 hs1 hs2
  go_wp2_with fail
  refine (entries_any g A4 c4 [sa, sg] w4 H4.out.1 HS3.out (by decide)).mono ?_
  rintro r w5 ⟨A5, c5, rfl, ho5, hk5, _⟩
  have H5 := Lib.hid (show MemS w5 g A4 c4 [sa, sg] ∧ Keeps [] w w5 ∧ Rd w5 A5 2 3 (encEn [sa, sg]) from ⟨H4.out.1.keeps0 hk5, H4.out.2.trans hk5 (by simp), Rd.of_own ho5⟩)
  clear ho5 hk5 H4
  go_wp2_with fail
  have hrow : (w5.alloc (.cells (encEn [sa, sg]).toArray 27)).heap[w5.heap.size]? = some (.cells (encEn [sa, sg]).toArray 27 (0, 0)) := heap_alloc_new _ _
  have HES := entries_same [sa, sg] A5 (some ⟨w5.heap.size, 0, none⟩) c5 2 (w5.alloc (.cells (encEn [sa, sg]).toArray 27)) (H5.out.2.2.alloc _) (rd_rowN hrow rfl) (by decide)
  refine HES.mono ?_
  clear HES
  rintro r w6 ⟨rfl, hk6⟩
  have hk56 : Keeps [] w5 w6 := ((Keeps.refl [] w5).alloc _).trans hk6 (by simp)
  have H6 := Lib.hid (show MemS w6 g A4 c4 [sa, sg] ∧ Keeps [] w w6 from ⟨H5.out.1.keeps0 hk56, H5.out.2.1.trans hk56 (by simp)⟩)
  clear hrow hk6 hk56 H5
  go_wp2_with fail
  refine (size_any g A4 c4 [sa, sg] w6 H6.out.1).mono ?_
  rintro r w7 ⟨rfl, rfl⟩
  rw [show ((sizeE [sa, sg] : Nat) : Int) = 3 from rfl]
  go_wp2_with fail
  go_ret
  exact ⟨rfl, H6.out.2⟩
end Go.Proofs.Ytaedmafmflohiaa
namespace Go.Proofs.Ytaedmafmflohiaa
open Go.RowKit

theorem Srt.tail {e : En} {l : List En} (h : Srt (e :: l)) : Srt l := (List.pairwise_cons.1 h).2
theorem Srt.head {e : En} {l : List En} (h : Srt (e :: l)) {x : En} (hx : x ∈ l) : Op.bytesLess e.k x.k = true := (List.pairwise_cons.1 h).1 x hx
/-- Two rows in order that have the same entries are the same row. -/
theorem srt_ext : ∀ {a b : List En}, Srt a → Srt b → (∀ x, x ∈ a ↔ x ∈ b) → a = b
  | [], [], _, _, _ => rfl
  | [], y :: _, _, _, h => by have := (h y).2 (by simp); cases this
  | x :: _, [], _, _, h => by have := (h x).1 (by simp); cases this
  | x :: a, y :: b, ha, hb, h => by
    have hxy : x = y := by
      rcases List.mem_cons.1 ((h x).1 (by simp)) with e | e
      · exact e
      · rcases List.mem_cons.1 ((h y).2 (by simp)) with e2 | e2
        · exact e2.symm
        · exact (bl_not_both (hb.head e) (ha.head e2)).elim
    subst hxy
    congr 1
    refine srt_ext ha.tail hb.tail fun z => ?_
    constructor
    · intro hz
      rcases List.mem_cons.1 ((h z).1 (List.mem_cons_of_mem _ hz)) with e | e
      · subst e
        have := ha.head hz
        rw [bl_same] at this
        cases this
      · exact e
    · intro hz
      rcases List.mem_cons.1 ((h z).2 (List.mem_cons_of_mem _ hz)) with e | e
      · subst e
        have := hb.head hz
        rw [bl_same] at this
        cases this
      · exact e
theorem Srt.key {l : List En} (h : Srt l) {x y : En} (hx : x ∈ l) (hy : y ∈ l) (hk : x.k = y.k) : x = y := by
  obtain ⟨i, hi, rfl⟩ := List.mem_iff_getElem.1 hx
  obtain ⟨j, hj, rfl⟩ := List.mem_iff_getElem.1 hy
  rcases Nat.lt_trichotomy i j with h1 | h1 | h1
  · have := h.lt hj h1
    rw [hk, bl_same] at this
    cases this
  · subst h1; rfl
  · have := h.lt hi h1
    rw [hk, bl_same] at this
    cases this
theorem mem_putE {l : List En} (h : Srt l) (e x : En) : x ∈ putE l e ↔ x = e.norm ∨ (x ∈ l ∧ x.k ≠ e.k) := by
  have hl := lo_le l e.k
  unfold putE
  rw [List.mem_append, List.mem_cons]
  constructor
  · rintro (h1 | h1 | h1)
    · obtain ⟨j, hj, rfl⟩ := List.mem_iff_getElem.1 h1
      rw [List.length_take] at hj
      rw [List.getElem_take]
      have h2 : Op.bytesLess (l[j]'(by omega)).k e.k = true := lo_before (by omega) (by omega)
      exact .inr ⟨List.getElem_mem _, fun e' => by rw [e', bl_same] at h2; cases h2⟩
    · exact .inl h1
    · obtain ⟨j, hj, rfl⟩ := List.mem_iff_getElem.1 h1
      rw [List.length_drop] at hj
      rw [List.getElem_drop]
      refine .inr ⟨List.getElem_mem _, fun e' => ?_⟩
      cases hh : hit l e.k with
      | true =>
        obtain ⟨h2, h3⟩ := hit_iff.1 hh
        have h4 := h.lt (i := lo l e.k) (j := lo l e.k + (if hit l e.k then 1 else 0) + j) (by omega) (by rw [hh]; simp; omega)
        rw [e', h3, bl_same] at h4
        cases h4
      | false =>
        have h2 : lo l e.k < l.length := by omega
        have h3 : ¬ l[lo l e.k].k = e.k := fun e2 => by rw [hit_iff.2 ⟨h2, e2⟩] at hh; cases hh
        simp only [hh, Bool.false_eq_true, if_false, Nat.add_zero] at e'
        rcases Nat.eq_zero_or_pos j with h6 | h6
        · subst h6; exact h3 e'
        · have h4 := h.lt (i := lo l e.k) (j := lo l e.k + j) (by omega) (by omega)
          rw [e', lo_at h2] at h4
          cases h4
  · rintro (h1 | ⟨h1, h2⟩)
    · exact .inr (.inl h1)
    · obtain ⟨j, hj, rfl⟩ := List.mem_iff_getElem.1 h1
      rcases Nat.lt_or_ge j (lo l e.k) with h3 | h3
      · exact .inl (List.mem_iff_getElem.2 ⟨j, by rw [List.length_take]; omega, by rw [List.getElem_take]⟩)
      · refine .inr (.inr (List.mem_iff_getElem.2 ⟨j - (lo l e.k + if hit l e.k then 1 else 0), ?_, ?_⟩))
        all_goals
          have h4 : lo l e.k + (if hit l e.k then 1 else 0) ≤ j := by
            cases hh : hit l e.k with
            | false => simpa using h3
            | true =>
              simp
              rcases Nat.lt_or_ge (lo l e.k) j with h5 | h5
              · omega
              · exfalso
                obtain ⟨h6, h7⟩ := hit_iff.1 hh
                have : j = lo l e.k := by omega
                subst this
                exact h2 h7
        · rw [List.length_drop]; omega
        · rw [List.getElem_drop]
          congr 1
          omega
theorem getE_mem {l : List En} (h : Srt l) (key : List UInt8) (x : En) : getE l key = some x ↔ x ∈ l ∧ x.k = key := by
  unfold getE
  constructor
  · intro h1
    exact ⟨List.mem_of_find?_eq_some h1, by simpa using List.find?_some h1⟩
  · rintro ⟨h1, h2⟩
    cases hf : l.find? (fun e => e.k == key) with
    | none =>
      have := List.find?_eq_none.1 hf x h1
      simp [h2] at this
    | some y =>
      have h3 : y ∈ l := List.mem_of_find?_eq_some hf
      have h4 : y.k = key := by simpa using List.find?_some hf
      rw [h.key h1 h3 (by rw [h2, h4])]
theorem getE_none {l : List En} (key : List UInt8) : getE l key = none ↔ ∀ x ∈ l, x.k ≠ key := by
  unfold getE
  rw [List.find?_eq_none]
  simp
theorem getE_put {l : List En} (h : Srt l) (e : En) (key : List UInt8) : getE (putE l e) key = if e.k = key then some e.norm else getE l key := by
  split
  · rename_i hk
    rw [getE_mem (putE_srt h e)]
    exact ⟨(mem_putE h e _).2 (.inl rfl), by rw [En.norm_k]; exact hk⟩
  · rename_i hk
    cases hg : getE l key with
    | some x =>
      obtain ⟨h1, h2⟩ := (getE_mem h key x).1 hg
      rw [getE_mem (putE_srt h e)]
      exact ⟨(mem_putE h e x).2 (.inr ⟨h1, fun e' => hk (by rw [← e', h2])⟩), h2⟩
    | none =>
      rw [getE_none]
      intro x hx
      rcases (mem_putE h e x).1 hx with rfl | ⟨h1, h2⟩
      · rw [En.norm_k]; exact hk
      · exact (getE_none key).1 hg x h1
/-! ## The order in which unlike keys are put -/
section
variable (en : Nat → En) (n : Nat)
/-- No later one has its key. -/
def LastB (i : Nat) : Prop := ∀ k, i < k → k < n → (en k).k ≠ (en i).k
/-- Behind the first i: only the last ones of their keys. -/
def InM (i : Nat) (l : List En) : Prop := Srt l ∧ ∀ x, x ∈ l ↔ ∃ j, j < i ∧ LastB en n j ∧ x = (en j).norm
/-- Behind the last t, from the end on: those that were not there. -/
def InW (t : Nat) (l : List En) : Prop := Srt l ∧ (∀ x, x ∈ l ↔ ∃ j, n - t ≤ j ∧ j < n ∧ LastB en n j ∧ x = (en j).norm) ∧ ∀ k, n - t ≤ k → k < n → ∃ x ∈ l, x.k = (en k).k
theorem InM.zero : InM en n 0 [] := ⟨List.Pairwise.nil, fun x => ⟨fun h => (by cases h), fun h => (by obtain ⟨j, h1, _⟩ := h; omega)⟩⟩
theorem InW.zero : InW en n 0 [] := ⟨List.Pairwise.nil, fun x => ⟨fun h => (by cases h), fun h => (by obtain ⟨j, h1, h2, _⟩ := h; omega)⟩, fun k h1 h2 => (by omega)⟩
variable {en n}
theorem InM.put {i : Nat} {l : List En} (h : InM en n i l) (hi : i < n) (hl : LastB en n i) : InM en n (i + 1) (putE l (en i)) := by
  refine ⟨putE_srt h.1 _, fun x => ?_⟩
  rw [mem_putE h.1, h.2]
  constructor
  · rintro (rfl | ⟨⟨j, h1, h2, rfl⟩, _⟩)
    · exact ⟨i, by omega, hl, rfl⟩
    · exact ⟨j, by omega, h2, rfl⟩
  · rintro ⟨j, h1, h2, rfl⟩
    by_cases e : j = i
    · subst e; exact .inl rfl
    · exact .inr ⟨⟨j, by omega, h2, rfl⟩, by rw [En.norm_k]; exact fun e' => h2 i (by omega) hi e'.symm⟩
theorem InM.skip {i : Nat} {l : List En} (h : InM en n i l) (hl : ¬ LastB en n i) : InM en n (i + 1) l := by
  refine ⟨h.1, fun x => ?_⟩
  rw [h.2]
  constructor
  · rintro ⟨j, h1, h2, rfl⟩; exact ⟨j, by omega, h2, rfl⟩
  · rintro ⟨j, h1, h2, rfl⟩
    by_cases e : j = i
    · subst e; exact absurd h2 hl
    · exact ⟨j, by omega, h2, rfl⟩
theorem InW.last {t : Nat} {l : List En} (h : InW en n t l) (ht : t < n) : LastB en n (n - 1 - t) ↔ getE l (en (n - 1 - t)).k = none := by
  rw [getE_none]
  constructor
  · intro hl x hx e
    obtain ⟨j, h1, h2, _, rfl⟩ := (h.2.1 x).1 hx
    rw [En.norm_k] at e
    exact hl j (by omega) h2 e
  · intro hn k h1 h2 e
    obtain ⟨x, h3, h4⟩ := h.2.2 k (by omega) h2
    exact hn x h3 (by rw [h4, e])
theorem InW.put {t : Nat} {l : List En} (h : InW en n t l) (ht : t < n) (hl : getE l (en (n - 1 - t)).k = none) : InW en n (t + 1) (putE l (en (n - 1 - t))) := by
  have hL := (h.last ht).2 hl
  refine ⟨putE_srt h.1 _, fun x => ?_, fun k h1 h2 => ?_⟩
  · rw [mem_putE h.1, h.2.1]
    constructor
    · rintro (rfl | ⟨⟨j, h1, h2, h3, rfl⟩, _⟩)
      · exact ⟨n - 1 - t, by omega, by omega, hL, rfl⟩
      · exact ⟨j, by omega, h2, h3, rfl⟩
    · rintro ⟨j, h1, h2, h3, rfl⟩
      by_cases e : j = n - 1 - t
      · subst e; exact .inl rfl
      · exact .inr ⟨⟨j, by omega, h2, h3, rfl⟩, by rw [En.norm_k]; exact hL j (by omega) h2⟩
  · by_cases e : k = n - 1 - t
    · subst e; exact ⟨_, (mem_putE h.1 _ _).2 (.inl rfl), En.norm_k _⟩
    · obtain ⟨x, h3, h4⟩ := h.2.2 k (by omega) h2
      exact ⟨x, (mem_putE h.1 _ _).2 (.inr ⟨h3, by rw [h4]; exact hL k (by omega) h2⟩), h4⟩
theorem InW.skip {t : Nat} {l : List En} (h : InW en n t l) (ht : t < n) (hl : getE l (en (n - 1 - t)).k ≠ none) : InW en n (t + 1) l := by
  have hL : ¬ LastB en n (n - 1 - t) := fun hh => hl ((h.last ht).1 hh)
  refine ⟨h.1, fun x => ?_, fun k h1 h2 => ?_⟩
  · rw [h.2.1]
    constructor
    · rintro ⟨j, h1, h2, h3, rfl⟩; exact ⟨j, by omega, h2, h3, rfl⟩
    · rintro ⟨j, h1, h2, h3, rfl⟩
      by_cases e : j = n - 1 - t
      · subst e; exact absurd h3 hL
      · exact ⟨j, by omega, h2, h3, rfl⟩
  · by_cases e : k = n - 1 - t
    · subst e
      cases hg : getE l (en (n - 1 - t)).k with
      | none => exact absurd hg hl
      | some x => exact ⟨x, (getE_mem h.1 _ x).1 hg⟩
    · exact h.2.2 k (by omega) h2
theorem InM_InW {a b : List En} (ha : InM en n n a) (hb : InW en n n b) : a = b :=
  srt_ext ha.1 hb.1 fun x => by
    rw [ha.2, hb.2.1]
    constructor
    · rintro ⟨j, h1, h2, h3⟩; exact ⟨j, by omega, h1, h2, h3⟩
    · rintro ⟨j, _, h1, h2, h3⟩; exact ⟨j, h1, h2, h3⟩
end
/-! ## What was put last -/
/-- Behind the first i of all. -/
def putsE (en : Nat → En) : Nat → List En
  | 0 => []
  | i + 1 => putE (putsE en i) (en i)
theorem puts_srt (en : Nat → En) : ∀ i, Srt (putsE en i)
  | 0 => List.Pairwise.nil
  | i + 1 => putE_srt (puts_srt en i) _
theorem puts_len (en : Nat → En) : ∀ i, (putsE en i).length ≤ i
  | 0 => Nat.le_refl _
  | i + 1 => by
    have := puts_len en i
    show (putE _ _).length ≤ _
    rw [putE_len]
    split <;> omega
theorem puts_get (en : Nat → En) {j : Nat} : ∀ n, j < n → LastB en n j → getE (putsE en n) (en j).k = some (en j).norm
  | 0, h, _ => by omega
  | n + 1, h, hl => by
    show getE (putE _ _) _ = _
    rw [getE_put (puts_srt en n)]
    by_cases e : j = n
    · subst e; rw [if_pos rfl]
    · rw [if_neg (hl n (by omega) (by omega)), puts_get en n (by omega) (fun k h1 h2 => hl k h1 (by omega))]
end Go.Proofs.Ytaedmafmflohiaa
