/- What package mem tells of its rows: contracts. -/
import Derived.Test.YtaedmafmflohiaaMemPut2
namespace Go.Proofs.Ytaedmafmflohiaa
open Go.RowKit

theorem results_cell_tmp2 {P : Program} {fn : Func} {p q : Tmp} {ty : TypeId} (h : fn.results = #[.cell p ty, .tmp q]) (tmps : Array Value) (w : World) (g : Nat) (t : TypeId) (cs : Array Value) (fr : Nat × Nat) (d : TypeDesc) (v : Value)
    (hp : tmps.getD p undef = .pointer (some ⟨g, 0, none⟩)) (hq : tmps.getD q undef = v) (hg : w.heap[g]? = some (.cells cs t fr))
    (hu : P.underlying ty = some d) (hd : (match d with | .struct _ | .array _ _ => true | _ => false) = true) (hi : (P.info? ty).map (·.size) = some cs.size) :
    (results fn tmps).run P w = .ok (.tuple #[.agg cs, v]) w := by
  have hp' : tmps[p]?.getD undef = .pointer (some ⟨g, 0, none⟩) := by simpa using hp
  have hq' : tmps[q]?.getD undef = v := by simpa using hq
  simp [results, h, hp', hq', asAddr, run_loadVar_row w g t ty cs fr d hg hu hd hi]
def zeroE : En := ⟨[], [], false⟩
/-- What a key has, or nothing. -/
def getV (l : List En) (key : List UInt8) : Value := .tuple #[((getE l key).getD zeroE).val, .bool (getE l key).isSome]
set_option maxHeartbeats 4000000 in
theorem get_any (g : Nat) (A : Option Addr) (c : Nat) (l : List En) (key : List UInt8) (w : World) (hm : MemS w g A c l) (hs : Srt l) (hl : l.length ≤ 10000) :
    Calls Try.prog 15 #[.pointer (some ⟨g, 0, none⟩), .string (strB key)] w fun r w' => r = .returned (getV l key) ∧ Keeps [] w w' := by
  have HM := Lib.hid hm
  have HS := Lib.hid hs
  obtain ⟨gr, hgr⟩ : ∃ gr, gr = w.heap.size := ⟨_, rfl⟩
  obtain ⟨W0, hW0⟩ : ∃ W0, W0 = w.alloc (.cells #[.string ⟨#[]⟩, .string ⟨#[]⟩, .bool false] 27) := ⟨_, rfl⟩
  have H0 := Lib.hid (show W0.heap[gr]? = some (.cells #[.string ⟨#[]⟩, .string ⟨#[]⟩, .bool false] 27 (0, 0)) ∧ MemS W0 g A c l ∧ Keeps [] w W0 from by
    have hka : Keeps [] w W0 := by rw [hW0]; exact (Keeps.refl [] w).alloc _
    exact ⟨by rw [hW0, hgr]; exact heap_alloc_new _ _, hm.keeps0 hka, hka⟩)
  have HW0 := Lib.hid (And.intro hW0 hgr)
  obtain ⟨n, hn⟩ : ∃ n, n = l.length := ⟨_, rfl⟩
  have HN := Lib.hid hn
  have q0 : W0.cell? ⟨g, 0, none⟩ = some (.slice A n c) := by rw [hn]; exact H0.out.2.1.cells.1
  rw [← hn] at hl
  clear hm hs hgr hW0 hn
  go_enter Try.func15, Try.ntmps15
  go_upto_region 3 with fail
  rw [← HW0.out.1, ← HW0.out.2]
  go_wp2_with fail
  have HBS := bsearch_any A c l key W0 H0.out.2.1.rd HS.out (by have := HN.out; omega)
  rw [← HN.out] at HBS
  refine HBS.mono ?_
  clear HBS
  rintro r w2 ⟨rfl, hk2⟩
  obtain ⟨i, hi⟩ : ∃ i, i = lo l key := ⟨_, rfl⟩
  obtain ⟨t, htt⟩ : ∃ t, t = hit l key := ⟨_, rfl⟩
  rw [← hi, ← htt]
  have HI := Lib.hid (And.intro hi htt)
  have H2 := Lib.hid (show w2.heap[gr]? = some (.cells #[.string ⟨#[]⟩, .string ⟨#[]⟩, .bool false] 27 (0, 0)) ∧ MemS w2 g A c l ∧ Keeps [] w w2 from ⟨(hk2.block gr (lt_of_block H0.out.1) (by simp)).trans H0.out.1, H0.out.2.1.keeps0 hk2, H0.out.2.2.trans hk2 (by simp)⟩)
  have q1 : w2.cell? ⟨g, 0, none⟩ = some (.slice A n c) := by rw [HN.out]; exact H2.out.2.1.cells.1
  have z0 : w2.cell? ⟨gr, 0, none⟩ = some (.string ⟨#[]⟩) := by rw [cell_of_row _ _ _ _ _ _ H2.out.1]; rfl
  have z1 : w2.cell? ⟨gr, 1, none⟩ = some (.string ⟨#[]⟩) := by rw [cell_of_row _ _ _ _ _ _ H2.out.1]; rfl
  have z2 : w2.cell? ⟨gr, 2, none⟩ = some (.bool false) := by rw [cell_of_row _ _ _ _ _ _ H2.out.1]; rfl
  have fz : ∀ j, w2.frozen? ⟨gr, j, none⟩ = false := fun j => frozen_of_row w2 _ j _ _ H2.out.1
  clear hi htt hk2 q0 H0
  have hks : ∀ u0 u1 u2, Keeps [gr] w2 (((w2.setCell ⟨gr, 0, none⟩ u0).setCell ⟨gr, 1, none⟩ u1).setCell ⟨gr, 2, none⟩ u2) := fun u0 u1 u2 => (((Keeps.refl [gr] w2).setCell (p := ⟨gr, 0, none⟩) (.inl (by simp)) _).setCell (p := ⟨gr, 1, none⟩) (.inl (by simp)) _).setCell (p := ⟨gr, 2, none⟩) (.inl (by simp)) _
  have hrw : ∀ u0 u1 u2, (((w2.setCell ⟨gr, 0, none⟩ u0).setCell ⟨gr, 1, none⟩ u1).setCell ⟨gr, 2, none⟩ u2).heap[gr]? = some (.cells #[u0, u1, u2] 27 (0, 0)) := fun u0 u1 u2 => by
    rw [heap_setCell_same _ gr 2 _ _ _ (heap_setCell_same _ gr 1 _ _ _ (heap_setCell_same _ gr 0 _ _ _ H2.out.1))]
    rfl
  have HRW := Lib.hid (show ∀ u0 u1 u2, (((w2.setCell ⟨gr, 0, none⟩ u0).setCell ⟨gr, 1, none⟩ u1).setCell ⟨gr, 2, none⟩ u2).heap[gr]? = some (.cells #[u0, u1, u2] 27 (0, 0)) ∧ Keeps [] w (((w2.setCell ⟨gr, 0, none⟩ u0).setCell ⟨gr, 1, none⟩ u1).setCell ⟨gr, 2, none⟩ u2) from fun u0 u1 u2 => ⟨hrw u0 u1 u2, H2.out.2.2.trans (hks u0 u1 u2) (fun t ht => .inr (by simp at ht; have := HW0.out.2; omega))⟩)
  clear hks hrw
  cases t with
  | true =>
    have HGE := Lib.hid (show getE l key = l[i]? from by rw [getE_hit HS.out, ← HI.out.2, ← HI.out.1]; rfl)
    have HIL := Lib.hid (show i < l.length from by rw [HI.out.1]; exact (hit_iff.1 HI.out.2.symm).1)
    have hiI : (i : Int) < (n : Int) := by have := HN.out; have := HIL.out; omega
    obtain ⟨ga, o, rfl, k0, k1, k2⟩ := en_cells H2.out.2.1.rd (i := i) HIL.out
    obtain ⟨e, he⟩ : ∃ e, e = l[i]'(HIL.out) := ⟨_, rfl⟩
    rw [← he] at k0 k1 k2
    have HE := Lib.hid he
    clear he
    go_wp2_with fail
    have hw := HRW.out (.string (strB e.k)) (.string (strB e.v)) (.bool e.g)
    refine bodyPost_ret (v := .tuple #[.agg #[.string (strB e.k), .string (strB e.v), .bool e.g], .bool true]) (results_cell_tmp2 Try.results15 _ _ gr 27 _ (0, 0) _ _ rfl rfl hw.1 Try.underlying27 rfl infoEn3) rfl ?_
    exact ⟨by unfold getV; rw [HGE.out, List.getElem?_eq_getElem HIL.out, ← HE.out]; rfl, hw.2⟩
  | false =>
    have HGE := Lib.hid (show getE l key = none from by rw [getE_hit HS.out, ← HI.out.2]; rfl)
    go_wp2_with fail
    have hw := HRW.out (.string ⟨#[]⟩) (.string ⟨#[]⟩) (.bool false)
    refine bodyPost_ret (v := .tuple #[.agg #[.string ⟨#[]⟩, .string ⟨#[]⟩, .bool false], .bool false]) (results_cell_tmp2 Try.results15 _ _ gr 27 _ (0, 0) _ _ rfl rfl hw.1 Try.underlying27 rfl infoEn3) rfl ?_
    exact ⟨by unfold getV; rw [HGE.out]; rfl, hw.2⟩
theorem len_any (g : Nat) (A : Option Addr) (c : Nat) (l : List En) (w : World) (hm : MemS w g A c l) :
    Calls Try.prog 20 #[.pointer (some ⟨g, 0, none⟩)] w fun r w' => r = .returned (.int .i64 (l.length : Nat)) ∧ w = w' := by
  have q0 := hm.cells.1
  go_enter Try.func20, Try.ntmps20
  go_wp2_with fail
  go_ret
  exact ⟨rfl, rfl⟩
theorem size_any (g : Nat) (A : Option Addr) (c : Nat) (l : List En) (w : World) (hm : MemS w g A c l) :
    Calls Try.prog 18 #[.pointer (some ⟨g, 0, none⟩)] w fun r w' => r = .returned (.int .i64 (sizeE l : Nat)) ∧ w = w' := by
  have q0 := hm.cells.2
  go_enter Try.func18, Try.ntmps18
  go_wp2_with fail
  go_ret
  exact ⟨rfl, rfl⟩
/-- The entries with keys from one on, up to another one. -/
def rangeE (l : List En) (a b : List UInt8) : List En := (l.drop (lo l a)).take (max (lo l a) (if b = [] then l.length else lo l b) - lo l a)
set_option maxHeartbeats 4000000 in
theorem range_any (g : Nat) (A : Option Addr) (c : Nat) (l : List En) (a b : List UInt8) (w : World) (hm : MemS w g A c l) (hs : Srt l) (hl : l.length ≤ 10000) :
    Calls Try.prog 12 #[.pointer (some ⟨g, 0, none⟩), .string (strB a), .string (strB b)] w (NewEn (rangeE l a b) w) := by
  have HM := Lib.hid hm
  have HS := Lib.hid hs
  obtain ⟨n, hn⟩ : ∃ n, n = l.length := ⟨_, rfl⟩
  have HN := Lib.hid hn
  have q0 : w.cell? ⟨g, 0, none⟩ = some (.slice A n c) := by rw [hn]; exact hm.cells.1
  rw [← hn] at hl
  clear hm hs hn
  go_enter Try.func12, Try.ntmps12
  go_wp2_with fail
  have HBS := bsearch_any A c l a w HM.out.rd HS.out (by have := HN.out; omega)
  rw [← HN.out] at HBS
  refine HBS.mono ?_
  clear HBS
  rintro r w2 ⟨rfl, hk2⟩
  obtain ⟨i, hi⟩ : ∃ i, i = lo l a := ⟨_, rfl⟩
  rw [← hi]
  have HI := Lib.hid hi
  have hin : i ≤ n := by rw [hi, HN.out]; exact lo_le _ _
  have H2 := Lib.hid (show MemS w2 g A c l ∧ Keeps [] w w2 from ⟨HM.out.keeps0 hk2, hk2⟩)
  have q1 : w2.cell? ⟨g, 0, none⟩ = some (.slice A n c) := by rw [HN.out]; exact H2.out.1.cells.1
  clear hi hk2 q0
  have hnc : n ≤ c := by
    rcases H2.out.1.2.1.2 with ⟨h1, h0⟩ | ⟨g', cap, cur, hv, hb, hh, hnc, _⟩
    · have := HN.out; omega
    · injection hv with e1 e2 e3
      have := HN.out
      omega
  by_cases hb : b = []
  · have fb : (strB b).toList.isEmpty = true := by rw [strB_toList, hb]; rfl
    have fm : max (i : Int) (n : Int) = (n : Int) := by omega
    have HR := Lib.hid (show Rd w2 (secA A i c 3) ((l.drop i).take (n - i)).length 3 (encEn ((l.drop i).take (n - i))) ∧ ((l.drop i).take (n - i)).length = n - i ∧ rangeE l a b = (l.drop i).take (n - i) from by
      have h1 := H2.out.1.rd.sec i (n - i) c (by have := HN.out; omega) (by omega)
      have e1 : ((l.drop i).take (n - i)).length = n - i := by rw [List.length_take, List.length_drop]; have := HN.out; omega
      rw [e1, ← encEn_take, ← encEn_drop, Nat.mul_comm 3, Nat.mul_comm 3]
      exact ⟨h1, rfl, by unfold rangeE; rw [if_pos hb, ← HI.out, ← HN.out, Nat.max_eq_right hin]⟩)
    clear hb
    go_wp2_with (refine wpList_sec rfl 22 (.tmp 40) (some (.tmp 41)) (some (.tmp 44)) none rfl Try.underlying22 infoEn3 A n c i n c rfl (Bnd.at_ rfl) (Bnd.at_ rfl) Bnd.no (by omega) (by omega) (by omega) (by simp) ?_)
    have HCL := clone_en (secA A i c 3) (c - i) ((l.drop i).take (n - i)) w2 HR.out.1 (by rw [HR.out.2.1]; omega)
    unfold NewEn at HCL
    rw [HR.out.2.1] at HCL
    refine HCL.mono ?_
    clear HCL
    rintro r w3 ⟨A3, c3, rfl, ho3, hk3, hb3⟩
    have H3 := Lib.hid (And.intro ho3 (And.intro hk3 hb3))
    clear ho3 hk3 hb3
    go_wp2_with fail
    go_ret
    refine ⟨A3, c3, by rw [HR.out.2.2, HR.out.2.1]; rfl, by rw [HR.out.2.2, HR.out.2.1]; exact H3.out.1, H2.out.2.trans H3.out.2.1 (by simp), fun a ha => Nat.le_trans H2.out.2.size (H3.out.2.2 a ha)⟩
  · have fb : (strB b).toList.isEmpty = false := by
      cases b with
      | nil => exact absurd rfl hb
      | cons x y => rw [strB_toList]; rfl
    have HNB := Lib.hid hb
    clear hb
    go_wp2_with fail
    have HBS := bsearch_any A c l b w2 H2.out.1.rd HS.out (by have := HN.out; omega)
    rw [← HN.out] at HBS
    refine HBS.mono ?_
    clear HBS
    rintro r w3 ⟨rfl, hk3⟩
    obtain ⟨j, hj⟩ : ∃ j, j = lo l b := ⟨_, rfl⟩
    rw [← hj]
    obtain ⟨m, hm⟩ : ∃ m, m = max i j := ⟨_, rfl⟩
    have hjn : j ≤ n := by rw [hj, HN.out]; exact lo_le _ _
    have fm : max (i : Int) (j : Int) = (m : Int) := by omega
    have hmn : m ≤ n := by omega
    have him : i ≤ m := by omega
    have HR := Lib.hid (show Rd w3 (secA A i c 3) ((l.drop i).take (m - i)).length 3 (encEn ((l.drop i).take (m - i))) ∧ ((l.drop i).take (m - i)).length = m - i ∧ rangeE l a b = (l.drop i).take (m - i) from by
      have h1 := (H2.out.1.rd.keeps0 hk3).sec i (m - i) c (by have := HN.out; omega) (by omega)
      have e1 : ((l.drop i).take (m - i)).length = m - i := by rw [List.length_take, List.length_drop]; have := HN.out; omega
      rw [e1, ← encEn_take, ← encEn_drop, Nat.mul_comm 3, Nat.mul_comm 3]
      exact ⟨h1, rfl, by unfold rangeE; rw [if_neg HNB.out, ← HI.out, ← hj, ← hm]⟩)
    have H3 := Lib.hid (show MemS w3 g A c l ∧ Keeps [] w w3 from ⟨H2.out.1.keeps0 hk3, H2.out.2.trans hk3 (by simp)⟩)
    have q2 : w3.cell? ⟨g, 0, none⟩ = some (.slice A n c) := by rw [HN.out]; exact H3.out.1.cells.1
    clear hj hm hk3 q1 hjn
    go_wp2_with (refine wpList_sec rfl 22 (.tmp 40) (some (.tmp 41)) (some (.tmp 44)) none rfl Try.underlying22 infoEn3 A n c i m c rfl (Bnd.at_ rfl) (Bnd.at_ rfl) Bnd.no (by omega) (by omega) (by omega) (by simp) ?_)
    have HCL := clone_en (secA A i c 3) (c - i) ((l.drop i).take (m - i)) w3 HR.out.1 (by rw [HR.out.2.1]; omega)
    unfold NewEn at HCL
    rw [HR.out.2.1] at HCL
    refine HCL.mono ?_
    clear HCL
    rintro r w4 ⟨A3, c3, rfl, ho3, hk3, hb3⟩
    have H4 := Lib.hid (And.intro ho3 (And.intro hk3 hb3))
    clear ho3 hk3 hb3
    go_wp2_with fail
    go_ret
    refine ⟨A3, c3, by rw [HR.out.2.2, HR.out.2.1]; rfl, by rw [HR.out.2.2, HR.out.2.1]; exact H4.out.1, H3.out.2.trans H4.out.2.1 (by simp), fun a ha => Nat.le_trans H3.out.2.size (H4.out.2.2 a ha)⟩
theorem range_all (l : List En) : rangeE l [] [] = l := by
  have h : lo l [] = 0 := by
    cases l with
    | nil => rfl
    | cons e l => rw [lo_cons, bl_nil]; rfl
  unfold rangeE
  rw [h]
  simp
theorem entries_any (g : Nat) (A : Option Addr) (c : Nat) (l : List En) (w : World) (hm : MemS w g A c l) (hs : Srt l) (hl : l.length ≤ 10000) :
    Calls Try.prog 16 #[.pointer (some ⟨g, 0, none⟩)] w (NewEn l w) := by
  have HRG := Lib.hid (range_any g A c l [] [] w hm hs hl)
  rw [range_all] at HRG
  have hz : (⟨#[]⟩ : ByteArray) = strB [] := rfl
  clear hm hs
  go_enter Try.func16, Try.ntmps16
  go_wp2_with fail
  refine HRG.out.mono ?_
  rintro r w2 ⟨A2, c2, rfl, h2, h3, h4⟩
  have H2 := Lib.hid (And.intro h2 (And.intro h3 h4))
  clear h2 h3 h4
  go_wp2_with fail
  go_ret
  exact ⟨A2, c2, rfl, H2.out.1, H2.out.2.1, H2.out.2.2⟩
end Go.Proofs.Ytaedmafmflohiaa
