/- The law on all that comes: called with any rows it answers true. What a row's condition on package errors' variable gives. -/
import Derived.Test.YtaedmafmflohiaaDoorQMergeAll14
import Derived.Test.YtaedmafmflohiaaDoorQMergeAll15
import Derived.RegionTactic
import Derived.Test.YtaedmafmflohiaaDoorRows
import Derived.ChangeSame
import Derived.ChangeVars
import Derived.JoinedOf
import Derived.LaidLaws
import Derived.LaidHandle
import Derived.Stop.Joined
import Derived.RowKit
namespace Go.Proofs.YtaedmafmflohiaaDoor
open Go.RowKit

/-- Behind New and both answers of the document. -/
structure AlI (w wr : World) (A A2 : Option Addr) (rs rs2 : List Ro) (AA YY LL : Option Addr) (drop : Bool) (M' : List En) (B : Nat) : Prop where
  kp : Keeps [] w wr
  l : RdL wr A rs
  mine : RdL wr A2 rs2
  a : Rd wr AA (keepE drop M').length 3 (encEn (keepE drop M'))
  y : Rd wr YY (keepE drop M').length 3 (encEn (keepE drop M'))
  all : Rd wr LL M'.length 3 (encEn M')
  ap : ∀ a, LL = some a → B ≤ a.block
  le : B ≤ wr.heap.size
theorem AlI.keeps0 {w wr wr' : World} {A A2 : Option Addr} {rs rs2 : List Ro} {AA YY LL : Option Addr} {drop : Bool} {M' : List En} {B : Nat} (h : AlI w wr A A2 rs rs2 AA YY LL drop M' B) (hk : Keeps [] wr wr') : AlI w wr' A A2 rs rs2 AA YY LL drop M' B :=
  ⟨h.kp.trans hk (by simp), h.l.keeps0 hk, h.mine.keeps0 hk, h.a.keeps0 hk, h.y.keeps0 hk, h.all.keeps0 hk, h.ap, Nat.le_trans h.le hk.size⟩
theorem same_at {rs rs2 : List Ro} (h : rs2.map Ro.es = rs.map Ro.es) {i : Nat} (hi : i < rs.length) (hi2 : i < rs2.length) : rs2[i].es = rs[i].es := by
  have h1 : (rs2.map Ro.es)[i]? = (rs.map Ro.es)[i]? := by rw [h]
  rw [List.getElem?_map, List.getElem?_map, List.getElem?_eq_getElem hi, List.getElem?_eq_getElem hi2] at h1
  injection h1
set_option maxRecDepth 100000 in
set_option maxHeartbeats 16000000 in
theorem all14_any (A : Option Addr) (c : Nat) (rs : List Ro) (drop : Bool) (w : World) (h : RdL0 w A rs) (hg : HT w) :
    Calls Tryd.prog 3 #[.slice A rs.length c, .bool drop] w fun r w' => r = .returned (.bool true) ∧ Keeps [] w w' := by
  have HR := Lib.hid h
  have HG := Lib.hid hg
  obtain ⟨n, hn⟩ : ∃ n, n = rs.length := ⟨_, rfl⟩
  have HN := Lib.hid hn
  have HM := many_any A c rs w h
  rw [← hn] at HM ⊢
  have HMH := Lib.hid HM
  clear h hg hn HM
  go_enter Tryd.func3, Tryd.ntmps3
  go_wp2_with fail
  refine HMH.out.mono ?_
  rintro r w ⟨b, rfl, rfl, hb⟩
  cases b with
  | true =>
    clear HMH hb
    go_wp2_with fail
    refine (sure4_any _).mono ?_
    rintro r w2 ⟨rfl, hk⟩
    have HK := Lib.hid hk
    clear hk
    go_wp2_with fail
    go_ret
    exact ⟨rfl, HK.out⟩
  | false =>
    have HB := Lib.hid (show rs.length ≤ 51 ∧ totR rs ≤ 400 from by have := hb rfl; exact ⟨by have := HN.out; omega, by omega⟩)
    have HRL := Lib.hid (show RdL w A rs from ⟨HR.out.1, fun r hr => ⟨(HR.out.2 r hr).1, by have := totR_len r hr; have := HB.out.2; omega⟩⟩)
    obtain ⟨Ls, hLs⟩ : ∃ Ls, Ls = rs.map Ro.es := ⟨_, rfl⟩
    obtain ⟨M, hM⟩ : ∃ M, M = refM Ls := ⟨_, rfl⟩
    have HLs := Lib.hid (show Ls = rs.map Ro.es ∧ M = refM Ls ∧ M.length ≤ 400 from ⟨hLs, hM, by
      rw [hM]
      refine Nat.le_trans (refM_len Ls) ?_
      rw [hLs, List.map_map]
      exact HB.out.2⟩)
    have hn51 : n ≤ 51 := by have := HB.out; have := HN.out; omega
    clear hb HMH hLs hM HR
    go_wp2_with fail
    have HC := owns_any A c rs w HRL.out (by have := HB.out; omega)
    rw [← HN.out] at HC
    refine HC.mono ?_
    clear HC
    rintro r w2 ⟨A2, c2, rs2, rfl, hrb2, hmap2⟩
    have hlen2 : rs2.length = n := by rw [HN.out]; have := congrArg List.length hmap2; simpa using this
    have H2 := Lib.hid (show RdL w2 A2 rs2 ∧ Keeps [] w w2 ∧ rs2.map Ro.es = Ls ∧ rs2.length = n ∧ rs2.map Ro.es = rs.map Ro.es from by
      refine ⟨hrb2.rdl (fun r hr => ?_), hrb2.kp, by rw [hmap2, HLs.out.1], hlen2, hmap2⟩
      have h2 : r.es ∈ rs.map Ro.es := by rw [← hmap2]; exact List.mem_map_of_mem hr
      obtain ⟨r', h3, h4⟩ := List.mem_map.1 h2
      rw [← h4]
      exact (HRL.out.2 r' h3).2)
    rw [hlen2]
    clear hrb2 hmap2 hlen2
    go_wp2_with fail
    have HC := all_any A2 c2 rs2 drop M w2 H2.out.1 (by have := H2.out.2.2.2.1; omega) (fun h => by rw [HLs.out.2.1]; rw [H2.out.2.2.1] at h ⊢; exact refM_is _ h) (by have := HLs.out.2.2; omega)
    rw [H2.out.2.2.2.1, H2.out.2.2.1] at HC
    refine HC.mono ?_
    clear HC
    intro r w3 hr3
    obtain ⟨q, M', hqm⟩ : ∃ (q : Int) (M' : List En), OkM Ls M M' q := by
      by_cases hS : ∀ es ∈ Ls, Srt es
      · exact ⟨0, M, .inl ⟨hS, rfl, rfl⟩⟩
      · exact ⟨41, [], .inr ⟨hS, rfl, rfl⟩⟩
    have HQ := Lib.hid (show OkM Ls (refM Ls) M' q ∧ M'.length ≤ 400 from by
      refine ⟨by rw [← HLs.out.2.1]; exact hqm, ?_⟩
      rcases hqm with ⟨_, _, rfl⟩ | ⟨_, _, rfl⟩
      · exact HLs.out.2.2
      · exact Nat.zero_le _)
    obtain ⟨AA, cA, rfl, hA3, hk3⟩ := hr3.err hqm
    obtain ⟨N, hN⟩ : ∃ N, N = (keepE drop M').length := ⟨_, rfl⟩
    have H3 := Lib.hid (show Keeps [] w w3 ∧ Keeps [] w2 w3 ∧ Rd w3 AA (keepE drop M').length 3 (encEn (keepE drop M')) ∧ N = (keepE drop M').length from ⟨H2.out.2.1.trans hk3 (by simp), hk3, hA3, hN⟩)
    have hN4 : N ≤ 400 := by rw [hN]; exact Nat.le_trans (keepE_len _ _) HQ.out.2
    obtain ⟨ev, hev⟩ : ∃ ev, ev = errV q := ⟨_, rfl⟩
    have HEV := Lib.hid hev
    rw [← hN, ← hev]
    clear hk3 hA3 hr3 hN hev hqm
    go_wp2_with fail
    have HC := rall14_any A c rs drop w3 (HRL.out.keeps0 H3.out.1) (by have := HB.out; omega) HB.out.2
    rw [← HN.out, ← HLs.out.1] at HC
    refine HC.mono ?_
    clear HC
    intro r w4 hr4
    obtain ⟨YY, cY, rfl, hY4, hk4, _⟩ := hr4.err HQ.out.1
    have H4 := Lib.hid (show Keeps [] w w4 ∧ Keeps [] w2 w4 ∧ Rd w4 AA (keepE drop M').length 3 (encEn (keepE drop M')) ∧ Rd w4 YY (keepE drop M').length 3 (encEn (keepE drop M')) from ⟨H3.out.1.trans hk4 (by simp), H3.out.2.1.trans hk4 (by simp), H3.out.2.2.1.keeps0 hk4, hY4⟩)
    rw [← H3.out.2.2.2]
    clear hk4 hY4 hr4
    go_wp2_with fail
    have HC := new_any A2 c2 rs2 w4 (H2.out.1.keeps0 H4.out.2.1) (by have := H2.out.2.2.2.1; omega)
    rw [H2.out.2.2.2.1, H2.out.2.2.1] at HC
    refine HC.mono ?_
    clear HC
    rintro r w5 ⟨hk5, ⟨hS, gR, g, rfl, h1, h2, h3, h4, h5⟩ | ⟨hS, rfl⟩⟩
    · have H5 := Lib.hid (And.intro (H4.out.1.trans hk5 (by simp)) hk5)
      have HRM := Lib.hid (show IsM Ls M ∧ RM Ls M gR g w5.heap.size w5 0 ∧ w.heap.size ≤ gR ∧ w.heap.size ≤ g ∧ gR < w5.heap.size ∧ g < w5.heap.size ∧ (∀ es ∈ Ls, Srt es) from by
        have hm : IsM Ls M := by rw [HLs.out.2.1]; exact refM_is _ hS
        have := H4.out.1.size
        exact ⟨hm, h5 M hm, by omega, by omega, h3, h4, hS⟩)
      obtain ⟨rfl, rfl⟩ : q = 0 ∧ M' = M := by
        rcases HQ.out.1 with ⟨_, h6, h7⟩ | ⟨h6, _⟩
        · exact ⟨h6, by rw [h7, HLs.out.2.1]⟩
        · exact absurd hS h6
      clear hk5 hS h1 h2 h3 h4 h5
      go_wp2_with fail
      have HC := rall14_any A c rs false w5 (HRL.out.keeps0 H5.out.1) (by have := HB.out; omega) HB.out.2
      rw [← HN.out, ← HLs.out.1] at HC
      refine HC.mono ?_
      clear HC
      intro r w6 hr6
      obtain ⟨LL, cL, rfl, hL6, hk6, hf6⟩ := hr6.err HQ.out.1
      rw [keepE_false] at hL6 ⊢
      obtain ⟨B, hB⟩ : ∃ B, B = w5.heap.size := ⟨_, rfl⟩
      have H6 := Lib.hid (show AlI w w6 A A2 rs rs2 AA YY LL drop M' B from by
        have h26 : Keeps [] w2 w6 := (H4.out.2.1.trans H5.out.2 (by simp)).trans hk6 (by simp)
        have h46 : Keeps [] w4 w6 := H5.out.2.trans hk6 (by simp)
        exact ⟨H5.out.1.trans hk6 (by simp), HRL.out.keeps0 (H5.out.1.trans hk6 (by simp)), H2.out.1.keeps0 h26, H4.out.2.2.1.keeps0 h46, H4.out.2.2.2.keeps0 h46, hL6, by rw [hB]; exact hf6, by rw [hB]; exact hk6.size⟩)
      have HK6 := Lib.hid (show Keeps [] w5 w6 ∧ B = w5.heap.size from ⟨hk6, hB⟩)
      clear hk6 hL6 hf6 hr6 hB
      go_wp2_with fail
      have HC := entries_same4 (keepE drop M') AA YY cA cY w6 H6.out.a H6.out.y (by have := H3.out.2.2.2; omega)
      rw [← H3.out.2.2.2] at HC
      refine HC.mono ?_
      clear HC
      rintro r w7 ⟨rfl, hk7⟩
      have H7 := Lib.hid (show AlI w w7 A A2 rs rs2 AA YY LL drop M' B ∧ Keeps [] w5 w7 from ⟨H6.out.keeps0 hk7, HK6.out.1.trans hk7 (by simp)⟩)
      clear hk7 H6
      go_wp2_with fail
      have HC := num_any 0 w7 (HG.out.keeps H7.out.1.kp (by simp))
      rw [← HEV.out] at HC
      refine HC.mono ?_
      clear HC
      rintro r w8 ⟨rfl, hk8⟩
      have H8 := Lib.hid (show AlI w w8 A A2 rs rs2 AA YY LL drop M' B ∧ Keeps [] w5 w8 from ⟨H7.out.1.keeps0 hk8, H7.out.2.trans hk8 (by simp)⟩)
      clear hk8 H7
      go_wp2_with fail
      refine (num_nil w8).mono ?_
      rintro r w9 ⟨rfl, hk9⟩
      have H9 := Lib.hid (show AlI w w9 A A2 rs rs2 AA YY LL drop M' B ∧ Keeps [] w5 w9 from ⟨H8.out.1.keeps0 hk9, H8.out.2.trans hk9 (by simp)⟩)
      clear hk9 H8
      obtain ⟨K, hK⟩ : ∃ K, K = M'.length := ⟨_, rfl⟩
      have HKK := Lib.hid hK
      have hK4 : K ≤ 400 := by rw [hK]; exact HQ.out.2
      rw [← hK]
      clear hK
      go_wp2_with fail
      go_loopw [14] (fun s14 wr => ∃ i : Nat, s14 = .int .i64 i ∧ Hid (i ≤ n ∧ Keeps [] w9 wr)) (fun s14 _ => n - (intOf s14).toNat)
      case atStart => exact ⟨0, rfl, ⟨Nat.zero_le _, Keeps.refl [] w9⟩⟩
      case round =>
        obtain ⟨i, rfl, D⟩ := hrel
        by_cases hi : i < n
        ·
          have hin : (i : Int) < (n : Int) := by omega
          have HIL := Lib.hid (show i < rs.length ∧ i < rs2.length ∧ i < n from by have := HN.out; have := H2.out.2.2.2.1; omega)
          obtain ⟨gl, ol, rfl, x0⟩ := (H9.out.1.l.keeps0 D.out.2).at_ HIL.out.1
          obtain ⟨gm, om, rfl, y0⟩ := (H9.out.1.mine.keeps0 D.out.2).at_ HIL.out.2.1
          rw [same_at H2.out.2.2.2.2 HIL.out.1 HIL.out.2.1] at y0
          obtain ⟨es, hes⟩ : ∃ es, es = (rs[i]'(HIL.out.1)).es := ⟨_, rfl⟩
          obtain ⟨B1, hB1⟩ : ∃ B1, B1 = (rs[i]'(HIL.out.1)).A := ⟨_, rfl⟩
          obtain ⟨B2, hB2⟩ : ∃ B2, B2 = (rs2[i]'(HIL.out.2.1)).A := ⟨_, rfl⟩
          obtain ⟨b1, hb1⟩ : ∃ b1, b1 = (rs[i]'(HIL.out.1)).c := ⟨_, rfl⟩
          obtain ⟨b2, hb2⟩ : ∃ b2, b2 = (rs2[i]'(HIL.out.2.1)).c := ⟨_, rfl⟩
          obtain ⟨e, he⟩ : ∃ e, e = es.length := ⟨_, rfl⟩
          rw [← hes, ← he, ← hB1, ← hb1] at x0
          rw [← hes, ← he, ← hB2, ← hb2] at y0
          have HE := Lib.hid (show Rd wr B1 es.length 3 (encEn es) ∧ Rd wr B2 es.length 3 (encEn es) ∧ e = es.length ∧ es.length ≤ 1000 from by
            have h1 := (H9.out.1.l.keeps0 D.out.2).2 _ (List.getElem_mem HIL.out.1)
            have h2 := (H9.out.1.mine.keeps0 D.out.2).2 _ (List.getElem_mem HIL.out.2.1)
            rw [same_at H2.out.2.2.2.2 HIL.out.1 HIL.out.2.1, ← hes, ← hB2] at h2
            rw [← hes, ← hB1] at h1
            exact ⟨h1.1, h2.1, he, h1.2⟩)
          have he1 : e ≤ 1000 := by have := HE.out.2.2; omega
          have HC := Lib.hid (And.intro x0 y0)
          clear hes hB1 hB2 hb1 hb2 he hi x0 y0
          go_upto_region 13 with fail
          have qa : ∀ z : World, (z.cell? ⟨gl, ol + i, none⟩ = some (.slice B1 e b1) ∧ z.cell? ⟨gm, om + i, none⟩ = some (.slice B2 e b2)) → z.cell? ⟨gl, ol + i, none⟩ = some (.slice B1 e b1) := fun z hz => hz.1
          have qb : ∀ z : World, (z.cell? ⟨gl, ol + i, none⟩ = some (.slice B1 e b1) ∧ z.cell? ⟨gm, om + i, none⟩ = some (.slice B2 e b2)) → z.cell? ⟨gm, om + i, none⟩ = some (.slice B2 e b2) := fun z hz => hz.2
          refine seq_start (by kernel_rfl) (fun z => (z.cell? ⟨gl, ol + i, none⟩ = some (.slice B1 e b1) ∧ z.cell? ⟨gm, om + i, none⟩ = some (.slice B2 e b2))) 10 [0, 1, 2, 3, 4, 5, 6, 7, 8, 9] rfl (HC.out) (fun hS => ?_)
          have HV := Lib.hid (show Keeps [] w9 wr.drew ∧ Rd wr.drew B1 es.length 3 (encEn es) ∧ Rd wr.drew B2 es.length 3 (encEn es) ∧ (wr.drew.cell? ⟨gl, ol + i, none⟩ = some (.slice B1 e b1) ∧ wr.drew.cell? ⟨gm, om + i, none⟩ = some (.slice B2 e b2)) from ⟨D.out.2.drew, HE.out.1.keeps0 (Keeps.refl [] wr).drew, HE.out.2.1.keeps0 (Keeps.refl [] wr).drew, HC.out⟩)
          have HE2 := Lib.hid HE.out.2.2
          clear HC HE
          generalize wr.drew = V at HV hS ⊢
          refine seq_take (v := ?_) rfl (by kernel_rfl) (by kernel_rfl) (by kernel_rfl) (Or.inl ⟨by rfl, fun w' hSw => ?_⟩) (by assumption) ?_
          rotate_left
          · go_simp
            with_reducible rfl
          simp only [Act.put, List.setIfInBounds_toArray, List.set_cons_zero, List.set_cons_succ]
          refine seq_take (v := ?_) rfl (by kernel_rfl) (by kernel_rfl) (by kernel_rfl) (Or.inl ⟨by rfl, fun w' hSw => ?_⟩) (by assumption) ?_
          rotate_left
          · go_simp
            with_reducible rfl
          simp only [Act.put, List.setIfInBounds_toArray, List.set_cons_zero, List.set_cons_succ]
          refine seq_take (v := ?_) rfl (by kernel_rfl) (by kernel_rfl) (by kernel_rfl) (Or.inl ⟨by rfl, fun w' hSw => ?_⟩) (by assumption) ?_
          rotate_left
          · go_simp
            with_reducible rfl
          simp only [Act.put, List.setIfInBounds_toArray, List.set_cons_zero, List.set_cons_succ]
          refine seq_take (v := ?_) rfl (by kernel_rfl) (by kernel_rfl) (by kernel_rfl) (Or.inl ⟨by rfl, fun w' hSw => ?_⟩) (by assumption) ?_
          rotate_left
          · go_simp
            with_reducible rfl
          simp only [Act.put, List.setIfInBounds_toArray, List.set_cons_zero, List.set_cons_succ]
          refine seq_take (v := ?_) rfl (by kernel_rfl) (by kernel_rfl) (by kernel_rfl) (Or.inl ⟨by rfl, fun w' hSw => ?_⟩) (by assumption) ?_
          rotate_left
          · go_simp
            with_reducible rfl
          simp only [Act.put, List.setIfInBounds_toArray, List.set_cons_zero, List.set_cons_succ]
          refine seq_take (v := ?_) rfl (by kernel_rfl) (by kernel_rfl) (by kernel_rfl) (Or.inl ⟨by rfl, fun w' hSw => ?_⟩) (by assumption) ?_
          rotate_left
          · go_simp
            with_reducible rfl
          simp only [Act.put, List.setIfInBounds_toArray, List.set_cons_zero, List.set_cons_succ]
          refine seq_take (v := ?_) rfl (by kernel_rfl) (by kernel_rfl) (by kernel_rfl) (Or.inl ⟨by rfl, fun w' hSw => ?_⟩) (by assumption) ?_
          rotate_left
          · go_simp
            with_reducible rfl
          simp only [Act.put, List.setIfInBounds_toArray, List.set_cons_zero, List.set_cons_succ]
          refine seq_take (v := ?_) rfl (by kernel_rfl) (by kernel_rfl) (by kernel_rfl) (Or.inl ⟨by rfl, fun w' hSw => ?_⟩) (by assumption) ?_
          rotate_left
          · go_simp
            with_reducible rfl
          simp only [Act.put, List.setIfInBounds_toArray, List.set_cons_zero, List.set_cons_succ]
          refine seq_do rfl (by kernel_rfl) (by rfl) (fun K hK => ?_)
          go_simp
          have HC := entries_same4 es B2 B1 b2 b1 V HV.out.2.2.1 HV.out.2.1 (by have := HE2.out; omega)
          rw [← HE2.out.1] at HC
          refine HC.mono ?_
          clear HC
          rintro r w10 ⟨rfl, hk10⟩
          have D2 := Lib.hid (show i + 1 ≤ n ∧ Keeps [] w9 w10 from ⟨by have := HIL.out.2.2; omega, HV.out.1.trans hk10 (by simp)⟩)
          refine hK.out (fun z => (z.cell? ⟨gl, ol + i, none⟩ = some (.slice B1 e b1) ∧ z.cell? ⟨gm, om + i, none⟩ = some (.slice B2 e b2))) _ _ (fun _ h => h) ⟨hk10.cell HV.out.2.2.2.1 (by simp), hk10.cell HV.out.2.2.2.2 (by simp)⟩ (fun hS => ?_)
          refine seq_take (v := ?_) rfl (by kernel_rfl) (by kernel_rfl) (by kernel_rfl) (Or.inl ⟨by rfl, fun w' hSw => ?_⟩) (by assumption) ?_
          rotate_left
          · go_simp
            with_reducible rfl
          simp only [Act.put, List.setIfInBounds_toArray, List.set_cons_zero, List.set_cons_succ]
          refine seq_done (by kernel_rfl) ?_
          all_goals skip
          clear hS qa qb hK hk10 HV D
          go_wp2_with fail
          go_roundw
          case rel => exact ⟨i + 1, by go_num, D2⟩
          case measure => have := HIL.out; simp [intOf]; omega
        · have hin : ¬ (i : Int) < (n : Int) := by omega
          have HS := Lib.hid (show AlI w wr A A2 rs rs2 AA YY LL drop M' B ∧ RM Ls M' gR g B wr 0 from ⟨H9.out.1.keeps0 D.out.2, by rw [HK6.out.2]; exact HRM.out.2.1.keeps0 (H9.out.2.trans D.out.2 (by simp))⟩)
          clear hi D
          go_wp2_with fail
          obtain ⟨w10, hw10⟩ : ∃ w10, w10 = wr := ⟨_, rfl⟩
          subst hw10
          go_loopw [15] (fun s15 wr => ∃ i : Nat, s15 = .int .i64 i ∧ Hid (i ≤ K ∧ Keeps [] w wr ∧ RM Ls M' gR g B wr i ∧ Rd wr LL M'.length 3 (encEn M') ∧ B ≤ wr.heap.size)) (fun s15 _ => K - (intOf s15).toNat)
          case atStart => exact ⟨0, rfl, ⟨Nat.zero_le _, HS.out.1.kp, HS.out.2, HS.out.1.all, HS.out.1.le⟩⟩
          case round =>
            have HAP := Lib.hid (show (∀ a, LL = some a → B ≤ a.block) ∧ gR < B ∧ g < B ∧ w.heap.size ≤ gR ∧ w.heap.size ≤ g from ⟨HS.out.1.ap, by have := HK6.out.2; have := HRM.out; omega, by have := HK6.out.2; have := HRM.out; omega, HRM.out.2.2.1, HRM.out.2.2.2.1⟩)
            clear HS
            obtain ⟨i, rfl, D⟩ := hrel
            by_cases hi : i < K
            · have hik : (i : Int) < (K : Int) := by omega
              have HIK := Lib.hid (show i < M'.length ∧ i < K from by have := HKK.out; omega)
              clear hi
              go_wp2_with fail
              refine (next_any Ls M' gR g B i wr HRM.out.1 HRM.out.2.2.2.2.2.2 D.out.2.2.2.2 D.out.2.2.1).mono ?_
              rintro r w11 ⟨hk11, ⟨hj, rfl, hrm⟩ | ⟨hj, _⟩⟩
              rotate_left
              · exact absurd HIK.out.1 hj
              obtain ⟨x, hx⟩ : ∃ x, x = M'[i]'(HIK.out.1) := ⟨_, rfl⟩
              have H11 := Lib.hid (show Keeps [] w w11 ∧ RM Ls M' gR g B w11 (i + 1) ∧ Rd w11 LL M'.length 3 (encEn M') ∧ B ≤ w11.heap.size ∧ x = M'[i]'(HIK.out.1) from
                ⟨D.out.2.1.trans hk11 (fun t ht => .inr (by simp at ht; have := HAP.out.2; omega)), hrm, D.out.2.2.2.1.keeps hk11 (fun a ha hp hm => by simp at hm; have := HAP.out.1 a ha; have := HAP.out.2; omega), Nat.le_trans D.out.2.2.2.2 hk11.size, hx⟩)
              rw [← hx]
              unfold En.val
              obtain ⟨gx, hgx⟩ : ∃ gx, gx = w11.heap.size := ⟨_, rfl⟩
              obtain ⟨W4, hW4⟩ : ∃ W4, W4 = w11.alloc (.cells #[.string (strB x.k), .string (strB x.v), .bool x.g] 39) := ⟨_, rfl⟩
              have HW4 := Lib.hid (And.intro hW4 hgx)
              have hka : Keeps [] w11 W4 := by rw [hW4]; exact (Keeps.refl [] w11).alloc _
              have hrow : W4.heap[gx]? = some (.cells #[.string (strB x.k), .string (strB x.v), .bool x.g] 39 (0, 0)) := by rw [hW4, hgx]; exact heap_alloc_new _ _
              have H4' := Lib.hid (show Keeps [] w W4 ∧ RM Ls M' gR g B W4 (i + 1) ∧ Rd W4 LL M'.length 3 (encEn M') ∧ B ≤ W4.heap.size from ⟨H11.out.1.trans hka (by simp), H11.out.2.1.keeps0 hka, H11.out.2.2.1.keeps0 hka, Nat.le_trans H11.out.2.2.2.1 hka.size⟩)
              have m0 : W4.cell? ⟨gx, 0, none⟩ = some (.string (strB x.k)) := by rw [cell_of_row _ _ _ _ _ _ hrow]; rfl
              have m1 : W4.cell? ⟨gx, 1, none⟩ = some (.string (strB x.v)) := by rw [cell_of_row _ _ _ _ _ _ hrow]; rfl
              have m2 : W4.cell? ⟨gx, 2, none⟩ = some (.bool x.g) := by rw [cell_of_row _ _ _ _ _ _ hrow]; rfl
              obtain ⟨ga, oa, rfl, k0, k1, k2⟩ := en_cells H4'.out.2.2.1 HIK.out.1
              rw [← H11.out.2.2.2.2] at k0 k1 k2
              have HCC := Lib.hid (And.intro (And.intro k0 (And.intro k1 k2)) (And.intro m0 (And.intro m1 m2)))
              clear hW4 hgx hk11 hrm hx hka hrow k0 k1 k2 m0 m1 m2 D
              go_upto_region 19 with fail
              rw [← HW4.out.1, ← HW4.out.2]
              have qa : ∀ z : World, Keeps [] W4 z → z.cell? ⟨ga, oa + i * 3, none⟩ = some (.string (strB x.k)) := fun z hz => hz.cell HCC.out.1.1 (by simp)
              have qb : ∀ z : World, Keeps [] W4 z → z.cell? ⟨ga, oa + i * 3 + 1, none⟩ = some (.string (strB x.v)) := fun z hz => hz.cell HCC.out.1.2.1 (by simp)
              have qc : ∀ z : World, Keeps [] W4 z → z.cell? ⟨ga, oa + i * 3 + 2, none⟩ = some (.bool x.g) := fun z hz => hz.cell HCC.out.1.2.2 (by simp)
              have qd : ∀ z : World, Keeps [] W4 z → z.cell? ⟨gx, 0, none⟩ = some (.string (strB x.k)) := fun z hz => hz.cell HCC.out.2.1 (by simp)
              have qe : ∀ z : World, Keeps [] W4 z → z.cell? ⟨gx, 1, none⟩ = some (.string (strB x.v)) := fun z hz => hz.cell HCC.out.2.2.1 (by simp)
              have qf : ∀ z : World, Keeps [] W4 z → z.cell? ⟨gx, 2, none⟩ = some (.bool x.g) := fun z hz => hz.cell HCC.out.2.2.2 (by simp)
              refine seq_start (by kernel_rfl) (fun z => Keeps [] W4 z) 10 [0, 1, 2, 3, 4, 5, 6, 7, 8, 9] rfl ((Keeps.refl [] W4).drew) (fun hS => ?_)
              refine seq_take (v := ?_) rfl (by kernel_rfl) (by kernel_rfl) (by kernel_rfl) (Or.inl ⟨by rfl, fun w' hSw => ?_⟩) (by assumption) ?_
              rotate_left
              · go_simp
                with_reducible rfl
              simp only [Act.put, List.setIfInBounds_toArray, List.set_cons_zero, List.set_cons_succ]
              refine seq_take (v := ?_) rfl (by kernel_rfl) (by kernel_rfl) (by kernel_rfl) (Or.inl ⟨by rfl, fun w' hSw => ?_⟩) (by assumption) ?_
              rotate_left
              · go_simp
                with_reducible rfl
              simp only [Act.put, List.setIfInBounds_toArray, List.set_cons_zero, List.set_cons_succ]
              refine seq_take (v := ?_) rfl (by kernel_rfl) (by kernel_rfl) (by kernel_rfl) (Or.inl ⟨by rfl, fun w' hSw => ?_⟩) (by assumption) ?_
              rotate_left
              · go_simp
                with_reducible rfl
              simp only [Act.put, List.setIfInBounds_toArray, List.set_cons_zero, List.set_cons_succ]
              refine seq_take (v := ?_) rfl (by kernel_rfl) (by kernel_rfl) (by kernel_rfl) (Or.inl ⟨by rfl, fun w' hSw => ?_⟩) (by assumption) ?_
              rotate_left
              · go_simp
                with_reducible rfl
              simp only [Act.put, List.setIfInBounds_toArray, List.set_cons_zero, List.set_cons_succ]
              refine seq_take (v := ?_) rfl (by kernel_rfl) (by kernel_rfl) (by kernel_rfl) (Or.inl ⟨by rfl, fun w' hSw => ?_⟩) (by assumption) ?_
              rotate_left
              · go_simp
                with_reducible rfl
              simp only [Act.put, List.setIfInBounds_toArray, List.set_cons_zero, List.set_cons_succ]
              refine seq_take (v := ?_) rfl (by kernel_rfl) (by kernel_rfl) (by kernel_rfl) (Or.inl ⟨by rfl, fun w' hSw => ?_⟩) (by assumption) ?_
              rotate_left
              · go_simp
                with_reducible rfl
              simp only [Act.put, List.setIfInBounds_toArray, List.set_cons_zero, List.set_cons_succ]
              refine seq_take (v := ?_) rfl (by kernel_rfl) (by kernel_rfl) (by kernel_rfl) (Or.inl ⟨by rfl, fun w' hSw => ?_⟩) (by assumption) ?_
              rotate_left
              · go_simp
                with_reducible rfl
              simp only [Act.put, List.setIfInBounds_toArray, List.set_cons_zero, List.set_cons_succ]
              refine seq_take (v := ?_) rfl (by kernel_rfl) (by kernel_rfl) (by kernel_rfl) (Or.inl ⟨by rfl, fun w' hSw => ?_⟩) (by assumption) ?_
              rotate_left
              · go_simp
                with_reducible rfl
              simp only [Act.put, List.setIfInBounds_toArray, List.set_cons_zero, List.set_cons_succ]
              refine seq_take (v := ?_) rfl (by kernel_rfl) (by kernel_rfl) (by kernel_rfl) (Or.inl ⟨by rfl, fun w' hSw => ?_⟩) (by assumption) ?_
              rotate_left
              · go_simp
                with_reducible rfl
              simp only [Act.put, List.setIfInBounds_toArray, List.set_cons_zero, List.set_cons_succ]
              refine seq_take (v := ?_) rfl (by kernel_rfl) (by kernel_rfl) (by kernel_rfl) (Or.inl ⟨by rfl, fun w' hSw => ?_⟩) (by assumption) ?_
              rotate_left
              · go_simp
                with_reducible rfl
              simp only [Act.put, List.setIfInBounds_toArray, List.set_cons_zero, List.set_cons_succ]
              refine seq_done (by kernel_rfl) ?_
              all_goals skip
              have D5 := Lib.hid (show i + 1 ≤ K ∧ Keeps [] w W4.drew ∧ RM Ls M' gR g B W4.drew (i + 1) ∧ Rd W4.drew (some ⟨ga, oa, none⟩) M'.length 3 (encEn M') ∧ B ≤ W4.drew.heap.size from
                ⟨HIK.out.2, H4'.out.1.drew, H4'.out.2.1.keeps0 (Keeps.refl [] W4).drew, H4'.out.2.2.1.keeps0 (Keeps.refl [] W4).drew, Nat.le_trans H4'.out.2.2.2 (Keeps.refl [] W4).drew.size⟩)
              clear hS qa qb qc qd qe qf HCC H11 H4' HW4
              generalize W4.drew = V5 at D5 ⊢
              go_wp2_with fail
              go_roundw
              case rel => exact ⟨i + 1, by go_num, D5⟩
              case measure => have := HIK.out; simp [intOf]; omega
            · have hik : ¬ (i : Int) < (K : Int) := by omega
              have HIK := Lib.hid (show ¬ i < M'.length from by have := HKK.out; omega)
              clear hi
              go_wp2_with fail
              refine (next_any Ls M' gR g B i wr HRM.out.1 HRM.out.2.2.2.2.2.2 D.out.2.2.2.2 D.out.2.2.1).mono ?_
              rintro r w11 ⟨hk11, ⟨hj, _⟩ | ⟨hj, rfl⟩⟩
              · exact absurd hj HIK.out
              have H10 := Lib.hid (show Keeps [] w w11 from D.out.2.1.trans hk11 (fun t ht => .inr (by simp at ht; have := HAP.out.2; omega)))
              clear hk11 hj D
              unfold En.val
              go_wp2_with fail
              have H11 := Lib.hid (H10.out.alloc (.cells #[.string (strB zeroE.k), .string (strB zeroE.v), .bool zeroE.g] 39))
              clear H10
              refine (next_nil _).mono ?_
              rintro r w12 ⟨rfl, hk12⟩
              have H12 := Lib.hid (show Keeps [] w w12 from H11.out.trans hk12 (by simp))
              clear hk12 H11
              unfold En.val
              go_wp2_with fail
              refine (sure4_any _).mono ?_
              rintro r w13 ⟨rfl, hk13⟩
              have H14 := Lib.hid (show Keeps [] w w13 from (H12.out.alloc _).trans hk13 (by simp))
              clear hk13
              go_wp2_with fail
              go_ret
              exact ⟨rfl, H14.out⟩
    · have H5 := Lib.hid (And.intro (H4.out.1.trans hk5 (by simp)) hk5)
      obtain ⟨rfl, rfl⟩ : q = 41 ∧ M' = [] := by
        rcases HQ.out.1 with ⟨h6, _⟩ | ⟨_, h6, h7⟩
        · exact absurd h6 hS
        · exact ⟨h6, h7⟩
      clear hk5 hS
      go_wp2_with fail
      have HC := rall14_any A c rs false w5 (HRL.out.keeps0 H5.out.1) (by have := HB.out; omega) HB.out.2
      rw [← HN.out, ← HLs.out.1] at HC
      refine HC.mono ?_
      clear HC
      intro r w6 hr6
      obtain ⟨LL, cL, rfl, hL6, hk6, hf6⟩ := hr6.err HQ.out.1
      rw [keepE_false] at hL6 ⊢
      obtain ⟨B, hB⟩ : ∃ B, B = w5.heap.size := ⟨_, rfl⟩
      have H6 := Lib.hid (show AlI w w6 A A2 rs rs2 AA YY LL drop ([] : List En) B from by
        have h26 : Keeps [] w2 w6 := (H4.out.2.1.trans H5.out.2 (by simp)).trans hk6 (by simp)
        have h46 : Keeps [] w4 w6 := H5.out.2.trans hk6 (by simp)
        exact ⟨H5.out.1.trans hk6 (by simp), HRL.out.keeps0 (H5.out.1.trans hk6 (by simp)), H2.out.1.keeps0 h26, H4.out.2.2.1.keeps0 h46, H4.out.2.2.2.keeps0 h46, hL6, by rw [hB]; exact hf6, by rw [hB]; exact hk6.size⟩)
      have HK6 := Lib.hid (show Keeps [] w5 w6 ∧ B = w5.heap.size from ⟨hk6, hB⟩)
      clear hk6 hL6 hf6 hr6 hB
      go_wp2_with fail
      have HC := entries_same4 (keepE drop ([] : List En)) AA YY cA cY w6 H6.out.a H6.out.y (by have := H3.out.2.2.2; omega)
      rw [← H3.out.2.2.2] at HC
      refine HC.mono ?_
      clear HC
      rintro r w7 ⟨rfl, hk7⟩
      have H7 := Lib.hid (show AlI w w7 A A2 rs rs2 AA YY LL drop ([] : List En) B ∧ Keeps [] w5 w7 from ⟨H6.out.keeps0 hk7, HK6.out.1.trans hk7 (by simp)⟩)
      clear hk7 H6
      go_wp2_with fail
      have HC := num_any 41 w7 (HG.out.keeps H7.out.1.kp (by simp))
      rw [← HEV.out] at HC
      refine HC.mono ?_
      clear HC
      rintro r w8 ⟨rfl, hk8⟩
      have H8 := Lib.hid (show AlI w w8 A A2 rs rs2 AA YY LL drop ([] : List En) B ∧ Keeps [] w5 w8 from ⟨H7.out.1.keeps0 hk8, H7.out.2.trans hk8 (by simp)⟩)
      clear hk8 H7
      go_wp2_with fail
      refine (num_err 41 w8 (HG.out.keeps H8.out.1.kp (by simp))).mono ?_
      rintro r w9 ⟨rfl, hk9⟩
      have H9 := Lib.hid (show AlI w w9 A A2 rs rs2 AA YY LL drop ([] : List En) B ∧ Keeps [] w5 w9 from ⟨H8.out.1.keeps0 hk9, H8.out.2.trans hk9 (by simp)⟩)
      clear hk9 H8
      go_wp2_with fail
      go_loopw [14] (fun s14 wr => ∃ i : Nat, s14 = .int .i64 i ∧ Hid (i ≤ n ∧ Keeps [] w9 wr)) (fun s14 _ => n - (intOf s14).toNat)
      case atStart => exact ⟨0, rfl, ⟨Nat.zero_le _, Keeps.refl [] w9⟩⟩
      case round =>
        obtain ⟨i, rfl, D⟩ := hrel
        by_cases hi : i < n
        ·
          have hin : (i : Int) < (n : Int) := by omega
          have HIL := Lib.hid (show i < rs.length ∧ i < rs2.length ∧ i < n from by have := HN.out; have := H2.out.2.2.2.1; omega)
          obtain ⟨gl, ol, rfl, x0⟩ := (H9.out.1.l.keeps0 D.out.2).at_ HIL.out.1
          obtain ⟨gm, om, rfl, y0⟩ := (H9.out.1.mine.keeps0 D.out.2).at_ HIL.out.2.1
          rw [same_at H2.out.2.2.2.2 HIL.out.1 HIL.out.2.1] at y0
          obtain ⟨es, hes⟩ : ∃ es, es = (rs[i]'(HIL.out.1)).es := ⟨_, rfl⟩
          obtain ⟨B1, hB1⟩ : ∃ B1, B1 = (rs[i]'(HIL.out.1)).A := ⟨_, rfl⟩
          obtain ⟨B2, hB2⟩ : ∃ B2, B2 = (rs2[i]'(HIL.out.2.1)).A := ⟨_, rfl⟩
          obtain ⟨b1, hb1⟩ : ∃ b1, b1 = (rs[i]'(HIL.out.1)).c := ⟨_, rfl⟩
          obtain ⟨b2, hb2⟩ : ∃ b2, b2 = (rs2[i]'(HIL.out.2.1)).c := ⟨_, rfl⟩
          obtain ⟨e, he⟩ : ∃ e, e = es.length := ⟨_, rfl⟩
          rw [← hes, ← he, ← hB1, ← hb1] at x0
          rw [← hes, ← he, ← hB2, ← hb2] at y0
          have HE := Lib.hid (show Rd wr B1 es.length 3 (encEn es) ∧ Rd wr B2 es.length 3 (encEn es) ∧ e = es.length ∧ es.length ≤ 1000 from by
            have h1 := (H9.out.1.l.keeps0 D.out.2).2 _ (List.getElem_mem HIL.out.1)
            have h2 := (H9.out.1.mine.keeps0 D.out.2).2 _ (List.getElem_mem HIL.out.2.1)
            rw [same_at H2.out.2.2.2.2 HIL.out.1 HIL.out.2.1, ← hes, ← hB2] at h2
            rw [← hes, ← hB1] at h1
            exact ⟨h1.1, h2.1, he, h1.2⟩)
          have he1 : e ≤ 1000 := by have := HE.out.2.2; omega
          have HC := Lib.hid (And.intro x0 y0)
          clear hes hB1 hB2 hb1 hb2 he hi x0 y0
          go_upto_region 13 with fail
          have qa : ∀ z : World, (z.cell? ⟨gl, ol + i, none⟩ = some (.slice B1 e b1) ∧ z.cell? ⟨gm, om + i, none⟩ = some (.slice B2 e b2)) → z.cell? ⟨gl, ol + i, none⟩ = some (.slice B1 e b1) := fun z hz => hz.1
          have qb : ∀ z : World, (z.cell? ⟨gl, ol + i, none⟩ = some (.slice B1 e b1) ∧ z.cell? ⟨gm, om + i, none⟩ = some (.slice B2 e b2)) → z.cell? ⟨gm, om + i, none⟩ = some (.slice B2 e b2) := fun z hz => hz.2
          refine seq_start (by kernel_rfl) (fun z => (z.cell? ⟨gl, ol + i, none⟩ = some (.slice B1 e b1) ∧ z.cell? ⟨gm, om + i, none⟩ = some (.slice B2 e b2))) 10 [0, 1, 2, 3, 4, 5, 6, 7, 8, 9] rfl (HC.out) (fun hS => ?_)
          have HV := Lib.hid (show Keeps [] w9 wr.drew ∧ Rd wr.drew B1 es.length 3 (encEn es) ∧ Rd wr.drew B2 es.length 3 (encEn es) ∧ (wr.drew.cell? ⟨gl, ol + i, none⟩ = some (.slice B1 e b1) ∧ wr.drew.cell? ⟨gm, om + i, none⟩ = some (.slice B2 e b2)) from ⟨D.out.2.drew, HE.out.1.keeps0 (Keeps.refl [] wr).drew, HE.out.2.1.keeps0 (Keeps.refl [] wr).drew, HC.out⟩)
          have HE2 := Lib.hid HE.out.2.2
          clear HC HE
          generalize wr.drew = V at HV hS ⊢
          refine seq_take (v := ?_) rfl (by kernel_rfl) (by kernel_rfl) (by kernel_rfl) (Or.inl ⟨by rfl, fun w' hSw => ?_⟩) (by assumption) ?_
          rotate_left
          · go_simp
            with_reducible rfl
          simp only [Act.put, List.setIfInBounds_toArray, List.set_cons_zero, List.set_cons_succ]
          refine seq_take (v := ?_) rfl (by kernel_rfl) (by kernel_rfl) (by kernel_rfl) (Or.inl ⟨by rfl, fun w' hSw => ?_⟩) (by assumption) ?_
          rotate_left
          · go_simp
            with_reducible rfl
          simp only [Act.put, List.setIfInBounds_toArray, List.set_cons_zero, List.set_cons_succ]
          refine seq_take (v := ?_) rfl (by kernel_rfl) (by kernel_rfl) (by kernel_rfl) (Or.inl ⟨by rfl, fun w' hSw => ?_⟩) (by assumption) ?_
          rotate_left
          · go_simp
            with_reducible rfl
          simp only [Act.put, List.setIfInBounds_toArray, List.set_cons_zero, List.set_cons_succ]
          refine seq_take (v := ?_) rfl (by kernel_rfl) (by kernel_rfl) (by kernel_rfl) (Or.inl ⟨by rfl, fun w' hSw => ?_⟩) (by assumption) ?_
          rotate_left
          · go_simp
            with_reducible rfl
          simp only [Act.put, List.setIfInBounds_toArray, List.set_cons_zero, List.set_cons_succ]
          refine seq_take (v := ?_) rfl (by kernel_rfl) (by kernel_rfl) (by kernel_rfl) (Or.inl ⟨by rfl, fun w' hSw => ?_⟩) (by assumption) ?_
          rotate_left
          · go_simp
            with_reducible rfl
          simp only [Act.put, List.setIfInBounds_toArray, List.set_cons_zero, List.set_cons_succ]
          refine seq_take (v := ?_) rfl (by kernel_rfl) (by kernel_rfl) (by kernel_rfl) (Or.inl ⟨by rfl, fun w' hSw => ?_⟩) (by assumption) ?_
          rotate_left
          · go_simp
            with_reducible rfl
          simp only [Act.put, List.setIfInBounds_toArray, List.set_cons_zero, List.set_cons_succ]
          refine seq_take (v := ?_) rfl (by kernel_rfl) (by kernel_rfl) (by kernel_rfl) (Or.inl ⟨by rfl, fun w' hSw => ?_⟩) (by assumption) ?_
          rotate_left
          · go_simp
            with_reducible rfl
          simp only [Act.put, List.setIfInBounds_toArray, List.set_cons_zero, List.set_cons_succ]
          refine seq_take (v := ?_) rfl (by kernel_rfl) (by kernel_rfl) (by kernel_rfl) (Or.inl ⟨by rfl, fun w' hSw => ?_⟩) (by assumption) ?_
          rotate_left
          · go_simp
            with_reducible rfl
          simp only [Act.put, List.setIfInBounds_toArray, List.set_cons_zero, List.set_cons_succ]
          refine seq_do rfl (by kernel_rfl) (by rfl) (fun K hK => ?_)
          go_simp
          have HC := entries_same4 es B2 B1 b2 b1 V HV.out.2.2.1 HV.out.2.1 (by have := HE2.out; omega)
          rw [← HE2.out.1] at HC
          refine HC.mono ?_
          clear HC
          rintro r w10 ⟨rfl, hk10⟩
          have D2 := Lib.hid (show i + 1 ≤ n ∧ Keeps [] w9 w10 from ⟨by have := HIL.out.2.2; omega, HV.out.1.trans hk10 (by simp)⟩)
          refine hK.out (fun z => (z.cell? ⟨gl, ol + i, none⟩ = some (.slice B1 e b1) ∧ z.cell? ⟨gm, om + i, none⟩ = some (.slice B2 e b2))) _ _ (fun _ h => h) ⟨hk10.cell HV.out.2.2.2.1 (by simp), hk10.cell HV.out.2.2.2.2 (by simp)⟩ (fun hS => ?_)
          refine seq_take (v := ?_) rfl (by kernel_rfl) (by kernel_rfl) (by kernel_rfl) (Or.inl ⟨by rfl, fun w' hSw => ?_⟩) (by assumption) ?_
          rotate_left
          · go_simp
            with_reducible rfl
          simp only [Act.put, List.setIfInBounds_toArray, List.set_cons_zero, List.set_cons_succ]
          refine seq_done (by kernel_rfl) ?_
          all_goals skip
          clear hS qa qb hK hk10 HV D
          go_wp2_with fail
          go_roundw
          case rel => exact ⟨i + 1, by go_num, D2⟩
          case measure => have := HIL.out; simp [intOf]; omega
        · have hin : ¬ (i : Int) < (n : Int) := by omega
          have HS := Lib.hid (show Keeps [] w wr from H9.out.1.kp.trans D.out.2 (by simp))
          clear hi D
          go_wp2_with fail
          obtain ⟨w10, hw10⟩ : ∃ w10, w10 = wr := ⟨_, rfl⟩
          subst hw10
          go_loopw [15] (fun s15 wr => s15 = .int .i64 0 ∧ Hid (Keeps [] w wr)) (fun _ _ => 0)
          case atStart => exact ⟨rfl, HS⟩
          case round =>
            obtain ⟨rfl, D⟩ := hrel
            go_wp2_with fail
            refine (next_nil _).mono ?_
            rintro r w11 ⟨rfl, hk11⟩
            have H10 := Lib.hid (show Keeps [] w w11 from D.out.trans hk11 (by simp))
            clear hk11 D
            unfold En.val
            go_wp2_with fail
            have H11 := Lib.hid (H10.out.alloc (.cells #[.string (strB zeroE.k), .string (strB zeroE.v), .bool zeroE.g] 39))
            clear H10
            refine (next_nil _).mono ?_
            rintro r w12 ⟨rfl, hk12⟩
            have H12 := Lib.hid (show Keeps [] w w12 from H11.out.trans hk12 (by simp))
            clear hk12 H11
            unfold En.val
            go_wp2_with fail
            refine (sure4_any _).mono ?_
            rintro r w13 ⟨rfl, hk13⟩
            have H14 := Lib.hid (show Keeps [] w w13 from (H12.out.alloc _).trans hk13 (by simp))
            clear hk13
            go_wp2_with fail
            go_ret
            exact ⟨rfl, H14.out⟩
theorem all14_row (A : Option Addr) (c : Nat) (xs : List ((Option Addr × Nat) × List (ByteArray × ByteArray × Bool × Unit))) (drop : Bool) (w : World) (hok : KL.ok w ((A, c), xs)) (hg : HT w) :
    Calls Tryd.prog 3 #[.slice A xs.length c, .bool drop] w fun e w' => e = .returned (.bool true) ∧ Below w.heap.size w w' := by
  obtain ⟨h1, _⟩ := read_rows hok
  have h2 := all14_any A c _ drop w h1 hg
  rw [List.length_map] at h2
  exact h2.mono fun _ _ h => ⟨h.1, h.2.below (Nat.le_refl _) (by simp)⟩
end Go.Proofs.YtaedmafmflohiaaDoor
namespace Go.Proofs.YtaedmafmflohiaaDoor
open Go.ChangeShapes Go.WideShapes Go.RowKit

def laidE : List (String × DataW Unit) := [("errors.errorType", Rows.laid_errors_errorType)]
theorem et : Tryd.prog.globalNamed "errors.errorType" = some 0 := by kernel_rfl
theorem rt : (Tryd.prog.cutTypes.find? (·.1 == "internal/reflectlite.rtype")).map (·.2) = some 79 := by kernel_rfl
theorem oneRow : ((List.range 128).filter fun t => Tryd.prog.rowNamed t [101, 114, 114, 111, 114]) = [28] := by kernel_rfl
theorem tsize : Tryd.prog.types.size = 128 := by kernel_rfl

/-- What the condition gives a walk: the variable's one cell. -/
theorem handle_met {W : World} (h : handlesMet Tryd.prog laidE W) : HT W := by
  obtain ⟨name, u, ty, e1, e2, e3, e4, e5⟩ := h _ (List.mem_singleton.2 rfl)
  have en : name = [101, 114, 114, 111, 114] := (Option.some.inj e1).symm
  subst en
  obtain rfl := Option.some.inj (rt.symm.trans e2)
  have hm : ty ∈ (List.range 128).filter fun t => Tryd.prog.rowNamed t [101, 114, 114, 111, 114] := List.mem_filter.2 ⟨List.mem_range.2 (by rw [← tsize]; exact e3), e4⟩
  rw [oneRow] at hm
  obtain rfl := List.mem_singleton.1 hm
  have hh : typeHandle Tryd.prog 28 = .pointer (some ⟨2, 28, none⟩) := by kernel_rfl
  rw [hh] at e5
  unfold HT
  simpa using World.var?_cell et e5 0
end Go.Proofs.YtaedmafmflohiaaDoor
