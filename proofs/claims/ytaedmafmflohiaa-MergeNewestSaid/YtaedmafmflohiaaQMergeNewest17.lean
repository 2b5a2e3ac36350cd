/- The law on what comes first: called with any rows it answers true. -/
import Derived.Test.YtaedmafmflohiaaQMergeNewest14
import Derived.Test.YtaedmafmflohiaaQMergeNewest15
import Derived.Test.YtaedmafmflohiaaQMergeNewest16
import Derived.RegionTactic
import Derived.Laws.Cover1
namespace Go.Proofs.Ytaedmafmflohiaa
open Go.RowKit

theorem RdL0.cell {w : World} {gl ol : Nat} {rs : List Ro} (h : RdL0 w (some ⟨gl, ol, none⟩) rs) {i : Nat} (hi : i < rs.length) : w.cell? ⟨gl, ol + i, none⟩ = some (.slice rs[i].A rs[i].es.length rs[i].c) := by
  obtain ⟨g, o, e, hc⟩ := h.at_ hi
  injection e with e
  injection e with e1 e2
  subst e1 e2
  exact hc
theorem RdL0.at2 {w : World} {A : Option Addr} {rs : List Ro} (h : Rd w A rs.length 1 (rs.map Ro.cell)) {i : Nat} (hi : i < rs.length) : ∃ g o, A = some ⟨g, o, none⟩ ∧ w.cell? ⟨g, o + i, none⟩ = some (.slice rs[i].A rs[i].es.length rs[i].c) := by
  obtain ⟨g, o, e, hc⟩ := Rd.form h (by simp; omega)
  exact ⟨g, o, e, hc i _ (by rw [List.getElem?_map, List.getElem?_eq_getElem hi]; rfl)⟩
theorem RdL0.cell2 {w : World} {gl ol : Nat} {rs : List Ro} (h : Rd w (some ⟨gl, ol, none⟩) rs.length 1 (rs.map Ro.cell)) {i : Nat} (hi : i < rs.length) : w.cell? ⟨gl, ol + i, none⟩ = some (.slice rs[i].A rs[i].es.length rs[i].c) := by
  obtain ⟨g, o, e, hc⟩ := RdL0.at2 h hi
  injection e with e
  injection e with e1 e2
  subst e1 e2
  exact hc
theorem en_cell3 {w : World} {g o n : Nat} {l : List En} (h : Rd w (some ⟨g, o, none⟩) n 3 (encEn l)) {i : Nat} (hi : i < l.length) : w.cell? ⟨g, o + i * 3, none⟩ = some (.string (strB l[i].k)) ∧ w.cell? ⟨g, o + i * 3 + 1, none⟩ = some (.string (strB l[i].v)) ∧ w.cell? ⟨g, o + i * 3 + 2, none⟩ = some (.bool l[i].g) := by
  obtain ⟨g', o', e, h1, h2, h3⟩ := en_cells h hi
  injection e with e
  injection e with e1 e2
  subst e1 e2
  exact ⟨h1, h2, h3⟩
theorem len_le_sum {es : List En} : ∀ {Ls : List (List En)}, es ∈ Ls → es.length ≤ (Ls.map List.length).sum
  | [], h => by cases h
  | x :: Ls, h => by
    rw [List.map_cons, List.sum_cons]
    rcases List.mem_cons.1 h with rfl | h
    · omega
    · have := len_le_sum h
      omega
theorem totR_sum (rs : List Ro) : ((rs.map Ro.es).map List.length).sum = totR rs := by
  unfold totR
  rw [List.map_map]
  rfl
set_option maxRecDepth 100000 in
set_option maxHeartbeats 16000000 in
theorem newest_any (A : Option Addr) (c : Nat) (rs : List Ro) (w : World) (h : RdL0 w A rs) :
    Calls Try.prog 7 #[.slice A rs.length c] w fun r w' => r = .returned (.bool true) ∧ Keeps [] w w' := by
  have HR := Lib.hid h
  obtain ⟨n, hn⟩ : ∃ n, n = rs.length := ⟨_, rfl⟩
  have HN := Lib.hid hn
  have HM := many_any A c rs w h
  rw [← hn] at HM ⊢
  have HMH := Lib.hid HM
  clear h hn HM
  go_enter Try.func7, Try.ntmps7
  go_wp2_with fail
  refine HMH.out.mono ?_
  rintro r w ⟨b, rfl, rfl, hb⟩
  cases b with
  | true =>
    clear HMH hb
    go_wp2_with fail
    refine (sure4_any _).mono ?_
    rintro r w2 ⟨rfl, hk⟩
    have HK := Lib.hid hk
    clear hk
    go_wp2_with fail
    go_ret
    exact ⟨rfl, HK.out⟩
  | false =>
    have HB := Lib.hid (show rs.length ≤ 51 ∧ totR rs ≤ 400 from by have := hb rfl; exact ⟨by have := HN.out; omega, by omega⟩)
    have hn51 : n ≤ 51 := by have := HB.out; have := HN.out; omega
    obtain ⟨Ls, hLs⟩ : ∃ Ls, Ls = rs.map Ro.es := ⟨_, rfl⟩
    have HLs := Lib.hid (show Ls = rs.map Ro.es ∧ Ls.length = n ∧ (Ls.map List.length).sum ≤ 400 from ⟨hLs, by rw [hLs, List.length_map, HN.out], by rw [hLs, totR_sum]; exact HB.out.2⟩)
    clear hb HMH hLs
    go_wp2_with fail
    go_loopw [3, 5, 6] (fun s3 s5 s6 wr => ∃ (i : Nat) (A1 S : Option Addr) (c1 sc : Nat) (rs1 : List Ro) (sl : List En), s6 = .int .i64 i ∧ s3 = .slice A1 rs1.length c1 ∧ s5 = .slice S sl.length sc ∧ i ≤ n ∧ Hid (rs1.map Ro.es = (Ls.take i).map rowE ∧ RB w wr A1 c1 rs1 ∧ sl = rowE ((Ls.take i).flatten) ∧ ApR w wr A1 S sc sl)) (fun _ _ s6 _ => n - (intOf s6).toNat)
    case atStart => exact ⟨0, none, none, 0, 0, [], [], rfl, rfl, rfl, Nat.zero_le _, ⟨rfl, RB.nil w, rfl, ApR.nil _ _ _⟩⟩
    case round =>
      obtain ⟨i, A1, S, c1, sc, rs1, sl, rfl, rfl, rfl, hi, D0⟩ := hrel
      have HLEN := Lib.hid (show rs1.length = i from by have h1 := congrArg List.length D0.out.1; rw [List.length_map, List.length_map, List.length_take] at h1; have := HLs.out.2.1; omega)
      by_cases hin : i < n
      · have hini : (i : Int) < (n : Int) := by omega
        have HIL := Lib.hid (show i < rs.length ∧ i < n ∧ i < Ls.length from by have := HN.out; have := HLs.out.2.1; omega)
        obtain ⟨gl, ol, rfl, x0⟩ := (HR.out.keeps0 D0.out.2.1.kp).at_ HIL.out.1
        obtain ⟨ro, hro⟩ : ∃ ro, ro = rs[i]'(HIL.out.1) := ⟨_, rfl⟩
        obtain ⟨es, hes⟩ : ∃ es, es = Ls[i]'(HIL.out.2.2) := ⟨_, rfl⟩
        obtain ⟨B, hB⟩ : ∃ B, B = ro.A := ⟨_, rfl⟩
        obtain ⟨b, hb⟩ : ∃ b, b = ro.c := ⟨_, rfl⟩
        obtain ⟨m, hm⟩ : ∃ m, m = es.length := ⟨_, rfl⟩
        have HROW := Lib.hid (show (∀ z, Keeps [] w z → z.cell? ⟨gl, ol + i, none⟩ = some (.slice B m b) ∧ Rd z B es.length 3 (encEn es)) ∧ m = es.length ∧ es = Ls[i]'(HIL.out.2.2) from by
          have e1 : es = ro.es := by rw [hes, hro]; simp [HLs.out.1]
          refine ⟨fun z hz => ?_, hm, hes⟩
          have h1 := HR.out.keeps0 hz
          have h2 := h1.cell HIL.out.1
          rw [← hro, ← hB, ← hb, ← e1, ← hm] at h2
          refine ⟨h2, ?_⟩
          have h3 := (h1.2 ro (by rw [hro]; exact List.getElem_mem _)).1
          rw [hB, e1]
          exact h3)
        have HFL := Lib.hid (show ∀ k, ((Ls.take i).flatten ++ es.take k).length ≤ 400 from fun k => by rw [hes]; exact Nat.le_trans (flat_le HIL.out.2.2) HLs.out.2.2)
        have hm1 : m ≤ 400 := by have h1 := HFL.out m; rw [List.length_append, List.length_take] at h1; omega
        have E1 := Lib.hid D0.out.1
        have D1 := Lib.hid (show NX w wr A1 c1 rs1 S sc sl none 0 [] ∧ sl = rowE ((Ls.take i).flatten ++ es.take 0) from ⟨⟨D0.out.2.1, D0.out.2.2.2, ApR.nil _ _ _⟩, by rw [D0.out.2.2.1]; simp⟩)
        clear x0 hro hes hB hb hm hin D0
        go_wp2_with fail
        go_loopw [5, 7, 8] (fun s5 s7 s8 wr => ∃ (k : Nat) (S X : Option Addr) (sc xc : Nat) (sl xl : List En), s8 = .int .i64 k ∧ s5 = .slice S sl.length sc ∧ s7 = .slice X xl.length xc ∧ k ≤ m ∧ Hid (NX w wr A1 c1 rs1 S sc sl X xc xl ∧ sl = rowE ((Ls.take i).flatten ++ es.take k) ∧ xl = rowE (es.take k))) (fun _ _ s8 _ => m - (intOf s8).toNat)
        case atStart => exact ⟨0, S, none, sc, 0, sl, [], rfl, rfl, rfl, Nat.zero_le _, ⟨D1.out.1, D1.out.2, rfl⟩⟩
        case round =>
          clear D1
          obtain ⟨k, S1, X, sc1, xc, sl1, xl, rfl, rfl, rfl, hk, D⟩ := hrel
          have x0 := (HROW.out.1 wr D.out.1.rb.kp).1
          by_cases hkm : k < m
          · have hkmi : (k : Int) < (m : Int) := by omega
            have HKL := Lib.hid (show k < es.length ∧ k < m from by have := HROW.out.2.1; omega)
            obtain ⟨ge, oe, hBe, k0, k1, k2⟩ := en_cells (HROW.out.1 wr D.out.1.rb.kp).2 HKL.out.1
            subst hBe
            obtain ⟨e, he⟩ : ∃ e, e = es[k]'(HKL.out.1) := ⟨_, rfl⟩
            rw [← he] at k0 k1 k2
            have HE := Lib.hid he
            have HXL := Lib.hid (show xl.length ≤ 400 ∧ sl1.length ≤ 400 from by
              have h1 := HFL.out k
              constructor
              · rw [D.out.2.2]; have := rowE_len (es.take k); rw [List.length_append] at h1; omega
              · rw [D.out.2.1]; have := rowE_len ((Ls.take i).flatten ++ es.take k); omega)
            clear he hkm hk
            go_wp2_with fail
            have HRP := rput_any X xc xl e wr D.out.1.x.rd D.out.1.x.cap (by have := HXL.out; omega)
            unfold En.val at HRP
            refine HRP.mono ?_
            clear HRP
            intro r w3 hp
            obtain ⟨X3, xc3, rfl, h3⟩ := D.out.1.putx hp
            obtain ⟨xl3, hxl3⟩ : ∃ xl3, xl3 = putE xl e := ⟨_, rfl⟩
            rw [← hxl3] at h3 ⊢
            have H3 := Lib.hid (show NX w w3 A1 c1 rs1 S1 sc1 sl1 X3 xc3 xl3 ∧ xl3 = rowE (es.take (k + 1)) ∧ sl1 = rowE ((Ls.take i).flatten ++ es.take k) from ⟨h3, by rw [hxl3, D.out.2.2, HE.out, rowE_step HKL.out.1], D.out.2.1⟩)
            clear hp h3 hxl3 k0 k1 k2 x0 D
            have x0 := (HROW.out.1 w3 H3.out.1.rb.kp).1
            obtain ⟨k0, k1, k2⟩ := en_cell3 (HROW.out.1 w3 H3.out.1.rb.kp).2 HKL.out.1
            rw [← HE.out] at k0 k1 k2
            go_wp2_with fail
            have HRP := rput_any S1 sc1 sl1 e w3 H3.out.1.s.rd H3.out.1.s.cap (by have := HXL.out; omega)
            unfold En.val at HRP
            refine HRP.mono ?_
            clear HRP
            intro r w4 hp
            obtain ⟨S4, sc4, rfl, h4⟩ := H3.out.1.puts hp
            obtain ⟨sl4, hsl4⟩ : ∃ sl4, sl4 = putE sl1 e := ⟨_, rfl⟩
            rw [← hsl4] at h4 ⊢
            have H4 := Lib.hid (show NX w w4 A1 c1 rs1 S4 sc4 sl4 X3 xc3 xl3 ∧ sl4 = rowE ((Ls.take i).flatten ++ es.take (k + 1)) ∧ xl3 = rowE (es.take (k + 1)) from ⟨h4, by
              rw [hsl4, H3.out.2.2, HE.out, List.take_succ_eq_append_getElem HKL.out.1, ← List.append_assoc]
              unfold rowE
              rw [List.foldl_append (l' := [_])]
              rfl, H3.out.2.1⟩)
            clear hp h4 hsl4 k0 k1 k2 x0 H3
            go_wp2_with fail
            go_roundw
            case rel => exact ⟨k + 1, S4, X3, sc4, xc3, sl4, xl3, by go_num, rfl, rfl, by have := HKL.out; omega, H4⟩
            case measure => have := HKL.out; simp [intOf]; omega
          · have hkmi : ¬ (k : Int) < (m : Int) := by omega
            have HLE := Lib.hid (show rs1.length ≤ 100 from by have := HLEN.out; have := HIL.out; omega)
            have H3 := Lib.hid (show NX w wr A1 c1 rs1 S1 sc1 sl1 X xc xl ∧ sl1 = rowE ((Ls.take (i + 1)).flatten) ∧ rs1.map Ro.es ++ [xl] = (Ls.take (i + 1)).map rowE from by
              have e1 : es.take k = es := List.take_of_length_le (by have := HROW.out.2.1; omega)
              have e2 : Ls.take (i + 1) = Ls.take i ++ [es] := by rw [HROW.out.2.2]; exact List.take_succ_eq_append_getElem HIL.out.2.2
              refine ⟨D.out.1, ?_, ?_⟩
              · rw [D.out.2.1, e1, e2]; simp
              · rw [E1.out, D.out.2.2, e1, e2]; simp)
            clear hkm hk D
            go_wp2_with (at_builtin; refine wpList_appendV rfl (.tmp 51) (.tmp 53) 42 22 rfl Try.underlying42 _ 1 24 infoRow rfl (by decide) A1 c1 rs1.length (rs1.map Ro.cell) rfl (ownsRow_keeps H3.out.1.rb.own ((Keeps.refl [] wr).alloc _) (by simp)) (some ⟨wr.heap.size, 0, none⟩) 1 1 [.slice X xl.length xc] rfl (rd_row1 (xs := [.slice X xl.length xc]) (heap_alloc_new _ _) rfl) (by intro u hu; rw [List.mem_singleton] at hu; subst hu; rfl) (by have := HLE.out; unfold maxLen; omega) (by have := HLE.out; omega) ?_; intro A4 c4 w4 ho hkk hbb; have D4 := Lib.hid (NX.add H3.out.1 ((Keeps.refl [] wr).alloc _) rfl rfl ho hkk hbb); clear ho hkk hbb)
            go_roundw
            case rel => exact ⟨i + 1, A4, S1, c4, sc1, rs1 ++ [⟨X, xc, xl⟩], sl1, by go_num, by rw [List.length_append]; rfl, rfl, by have := HIL.out; omega, ⟨by rw [List.map_append]; exact H3.out.2.2, D4.out.1, H3.out.2.1, D4.out.2⟩⟩
            case measure => have := HIL.out; simp [intOf]; omega
      · have hini : ¬ (i : Int) < (n : Int) := by omega
        have HIN := Lib.hid (show i = n ∧ rs1.length ≤ 51 from by have := HLEN.out; omega)
        have D := Lib.hid (show rs1.map Ro.es = Ls.map rowE ∧ RB w wr A1 c1 rs1 ∧ sl = rowE Ls.flatten ∧ (∀ r ∈ rs1, r.es.length ≤ 1000) from by
          have e1 : Ls.take i = Ls := List.take_of_length_le (by have := HLs.out.2.1; have := HIN.out; omega)
          have h1 := D0.out
          rw [e1] at h1
          refine ⟨h1.1, h1.2.1, h1.2.2.1, fun r hr => ?_⟩
          have h2 : r.es ∈ Ls.map rowE := by rw [← h1.1]; exact List.mem_map_of_mem hr
          obtain ⟨es, h3, h4⟩ := List.mem_map.1 h2
          have h5 := rowE_len es
          have h6 : es.length ≤ (Ls.map List.length).sum := len_le_sum h3
          rw [← h4]
          have := HLs.out.2.2
          omega)
        clear D0 hin hi
        go_wp2_with fail
        refine (owns_any A1 c1 rs1 wr (D.out.2.1.rdl D.out.2.2.2) (by have := HIN.out; omega)).mono ?_
        rintro r w2 ⟨A2, c2, rs2, rfl, hrb2, hmap2⟩
        have H2 := Lib.hid (show RB wr w2 A2 c2 rs2 ∧ rs2.map Ro.es = Ls.map rowE ∧ (∀ r ∈ rs2, r.es.length ≤ 1000) ∧ rs2.length ≤ 51 from by
          refine ⟨hrb2, by rw [hmap2, D.out.1], fun r hr => ?_, ?_⟩
          · have h2 : r.es ∈ rs1.map Ro.es := by rw [← hmap2]; exact List.mem_map_of_mem hr
            obtain ⟨r', h3, h4⟩ := List.mem_map.1 h2
            rw [← h4]
            exact D.out.2.2.2 r' h3
          · have h3 := congrArg List.length hmap2
            rw [List.length_map, List.length_map] at h3
            have := HIN.out
            omega)
        clear hrb2 hmap2
        go_wp2_with fail
        refine (all_any A2 c2 rs2 false (refM (rs2.map Ro.es)) w2 (H2.out.1.rdl H2.out.2.2.1) (by have := H2.out.2.2.2; omega) (fun h => refM_is _ h) ?_).mono ?_
        · rw [H2.out.2.1, newest_len]
          have := rowE_len Ls.flatten
          rw [List.length_flatten] at this
          have := HLs.out.2.2
          omega
        rintro r w3 ⟨hk3, ⟨_, AA, cA, rfl, ho3, _⟩ | ⟨hns, _⟩⟩
        rotate_left
        · exfalso
          refine hns (fun es hes => ?_)
          rw [H2.out.2.1] at hes
          obtain ⟨es', _, rfl⟩ := List.mem_map.1 hes
          exact rowE_srt _
        rw [keepE_false, H2.out.2.1] at ho3 ⊢
        obtain ⟨M, hM⟩ : ∃ M, M = refM (Ls.map rowE) := ⟨_, rfl⟩
        rw [← hM] at ho3 ⊢
        obtain ⟨N, hN⟩ : ∃ N, N = M.length := ⟨_, rfl⟩
        have hns : N = sl.length := by rw [hN, hM, newest_len, D.out.2.2.1]
        obtain ⟨n1, hn1⟩ : ∃ n1, n1 = rs1.length := ⟨_, rfl⟩
        have H3 := Lib.hid (show RB w w3 A1 c1 rs1 ∧ Rd w3 AA M.length 3 (encEn M) ∧ rs1.map Ro.es = Ls.map rowE ∧ N = M.length ∧ n1 = rs1.length ∧ IsM (Ls.map rowE) M ∧ n1 = Ls.length from ⟨(D.out.2.1.keeps0 H2.out.1.kp).keeps0 hk3, Rd.of_own ho3, D.out.1, hN, hn1, by rw [hM]; exact refM_is _ (fun es hes => by obtain ⟨es', _, rfl⟩ := List.mem_map.1 hes; exact rowE_srt _), by rw [hn1]; have := congrArg List.length D.out.1; simpa using this⟩)
        have hN4 : N ≤ 400 := by
          rw [hns, D.out.2.2.1]
          have := rowE_len Ls.flatten
          rw [List.length_flatten] at this
          have := HLs.out.2.2
          omega
        have hn15 : n1 ≤ 51 := by have := HIN.out; omega
        rw [← hN, ← hns, ← hn1]
        clear ho3 hk3 hM hN hns hn1 H2 D
        go_wp2_with fail
        go_loopw [11] (fun s11 wr => ∃ i : Nat, s11 = .int .i64 i ∧ i ≤ N ∧ Hid (Keeps [] w3 wr)) (fun s11 _ => N - (intOf s11).toNat)
        case atStart => exact ⟨0, rfl, Nat.zero_le _, Lib.hid (Keeps.refl [] w3)⟩
        case round =>
          obtain ⟨i, rfl, hi, hinv⟩ := hrel
          by_cases hiN : i < N
          · have hiNi : (i : Int) < (N : Int) := by omega
            have HIM := Lib.hid (show i < M.length ∧ i < N from by have := H3.out.2.2.2.1; omega)
            obtain ⟨ga, oa, rfl, k0, k1, k2⟩ := en_cells (H3.out.2.1.keeps0 hinv.out) HIM.out.1
            obtain ⟨x, hx⟩ : ∃ x, x = M[i]'(HIM.out.1) := ⟨_, rfl⟩
            rw [← hx] at k0 k1 k2
            have HF0 := newest_first H3.out.2.2.2.2.2.1 (x := x) (by rw [hx]; exact List.getElem_mem _)
            obtain ⟨r, hr, hr1, hr2⟩ := HF0
            have HF := Lib.hid (show x = M[i]'(HIM.out.1) ∧ r < n1 ∧ (∀ es, Ls[r]? = some es → getE (rowE es) x.k = some x) ∧ ∀ r', r' < r → ∀ es, Ls[r']? = some es → getE (rowE es) x.k = none from ⟨hx, by have := H3.out.2.2.2.2.2.2; omega, hr1, hr2⟩)
            clear hx hr hr1 hr2
            rcases Nat.eq_zero_or_pos i with h0 | h0
            case' inl =>
              have h0i : ¬ (0 : Int) < (i : Int) := by omega
              have h0n : ¬ 0 < i := by omega
              clear h0
              go_upto_region 23 with fail
              refine seq_start (by kernel_rfl) (fun _ => True) 16 [0, 1, 2, 3, 4, 5, 6, 7, 8, 9, 10, 11, 12, 13, 14, 15] rfl (trivial) (fun hS => ?_)
              refine seq_take (v := ?_) rfl (by kernel_rfl) (by kernel_rfl) (by kernel_rfl) (Or.inl ⟨by rfl, fun w' hSw => ?_⟩) (by assumption) ?_
              rotate_left
              · go_simp
                with_reducible rfl
              simp only [Act.put, List.setIfInBounds_toArray, List.set_cons_zero, List.set_cons_succ]
              refine seq_take (v := ?_) rfl (by kernel_rfl) (by kernel_rfl) (by kernel_rfl) (Or.inl ⟨by rfl, fun w' hSw => ?_⟩) (by assumption) ?_
              rotate_left
              · go_simp
                with_reducible rfl
              simp only [Act.put, List.setIfInBounds_toArray, List.set_cons_zero, List.set_cons_succ]
              refine seq_take (v := ?_) rfl (by kernel_rfl) (by kernel_rfl) (by kernel_rfl) (Or.inl ⟨by rfl, fun w' hSw => ?_⟩) (by assumption) ?_
              rotate_left
              · go_simp
                with_reducible rfl
              simp only [Act.put, List.setIfInBounds_toArray, List.set_cons_zero, List.set_cons_succ]
              refine seq_take (v := undef) rfl (by kernel_rfl) (by kernel_rfl) (by kernel_rfl) (Or.inr ⟨by rfl, rfl⟩) (by assumption) ?_
              simp only [Act.put, List.setIfInBounds_toArray, List.set_cons_zero, List.set_cons_succ]
              refine seq_take (v := undef) rfl (by kernel_rfl) (by kernel_rfl) (by kernel_rfl) (Or.inr ⟨by rfl, rfl⟩) (by assumption) ?_
              simp only [Act.put, List.setIfInBounds_toArray, List.set_cons_zero, List.set_cons_succ]
              refine seq_take (v := undef) rfl (by kernel_rfl) (by kernel_rfl) (by kernel_rfl) (Or.inr ⟨by rfl, rfl⟩) (by assumption) ?_
              simp only [Act.put, List.setIfInBounds_toArray, List.set_cons_zero, List.set_cons_succ]
              refine seq_take (v := undef) rfl (by kernel_rfl) (by kernel_rfl) (by kernel_rfl) (Or.inr ⟨by rfl, rfl⟩) (by assumption) ?_
              simp only [Act.put, List.setIfInBounds_toArray, List.set_cons_zero, List.set_cons_succ]
              refine seq_take (v := undef) rfl (by kernel_rfl) (by kernel_rfl) (by kernel_rfl) (Or.inr ⟨by rfl, rfl⟩) (by assumption) ?_
              simp only [Act.put, List.setIfInBounds_toArray, List.set_cons_zero, List.set_cons_succ]
              refine seq_take (v := undef) rfl (by kernel_rfl) (by kernel_rfl) (by kernel_rfl) (Or.inr ⟨by rfl, rfl⟩) (by assumption) ?_
              simp only [Act.put, List.setIfInBounds_toArray, List.set_cons_zero, List.set_cons_succ]
              refine seq_take (v := undef) rfl (by kernel_rfl) (by kernel_rfl) (by kernel_rfl) (Or.inr ⟨by rfl, rfl⟩) (by assumption) ?_
              simp only [Act.put, List.setIfInBounds_toArray, List.set_cons_zero, List.set_cons_succ]
              refine seq_take (v := undef) rfl (by kernel_rfl) (by kernel_rfl) (by kernel_rfl) (Or.inr ⟨by rfl, rfl⟩) (by assumption) ?_
              simp only [Act.put, List.setIfInBounds_toArray, List.set_cons_zero, List.set_cons_succ]
              refine seq_take (v := undef) rfl (by kernel_rfl) (by kernel_rfl) (by kernel_rfl) (Or.inr ⟨by rfl, rfl⟩) (by assumption) ?_
              simp only [Act.put, List.setIfInBounds_toArray, List.set_cons_zero, List.set_cons_succ]
              refine seq_take (v := undef) rfl (by kernel_rfl) (by kernel_rfl) (by kernel_rfl) (Or.inr ⟨by rfl, rfl⟩) (by assumption) ?_
              simp only [Act.put, List.setIfInBounds_toArray, List.set_cons_zero, List.set_cons_succ]
              refine seq_take (v := undef) rfl (by kernel_rfl) (by kernel_rfl) (by kernel_rfl) (Or.inr ⟨by rfl, rfl⟩) (by assumption) ?_
              simp only [Act.put, List.setIfInBounds_toArray, List.set_cons_zero, List.set_cons_succ]
              refine seq_take (v := undef) rfl (by kernel_rfl) (by kernel_rfl) (by kernel_rfl) (Or.inr ⟨by rfl, rfl⟩) (by assumption) ?_
              simp only [Act.put, List.setIfInBounds_toArray, List.set_cons_zero, List.set_cons_succ]
              refine seq_take (v := ?_) rfl (by kernel_rfl) (by kernel_rfl) (by kernel_rfl) (Or.inl ⟨by rfl, fun w' hSw => ?_⟩) (by assumption) ?_
              rotate_left
              · go_simp
                with_reducible rfl
              simp only [Act.put, List.setIfInBounds_toArray, List.set_cons_zero, List.set_cons_succ]
              refine seq_done (by kernel_rfl) ?_
              all_goals skip
            rotate_left
            case' inr =>
              have h0i : (0 : Int) < (i : Int) := by omega
              obtain ⟨i1, hi1⟩ : ∃ i1, i - 1 = i1 := ⟨_, rfl⟩
              have e1 : (i : Int) - 1 = (i1 : Int) := by omega
              have hi1N : (i1 : Int) < (N : Int) := by omega
              have e2 : IntKind.i64.wrap (i1 : Int) = (i1 : Int) := by rw [IntKind.wrap_i64]; omega
              have HI1 := Lib.hid (show i1 < M.length ∧ i1 < i from by have := HIM.out.1; omega)
              obtain ⟨a0, _⟩ := en_cell3 (H3.out.2.1.keeps0 hinv.out) HI1.out.1
              have fl : Op.bytesLess (strB (M[i1]'(HI1.out.1)).k).toList (strB x.k).toList = true := by
                rw [strB_toList, strB_toList, HF.out.1]
                exact H3.out.2.2.2.2.2.1.1.lt HIM.out.1 HI1.out.2
              obtain ⟨ka, hka⟩ : ∃ ka, ka = (M[i1]'(HI1.out.1)).k := ⟨_, rfl⟩
              rw [← hka] at fl a0
              have HC := Lib.hid (And.intro a0 k0)
              have qa : ∀ z : World, Keeps [] wr z → z.cell? ⟨ga, oa + i1 * 3, none⟩ = some (.string (strB ka)) := fun z hz => hz.cell HC.out.1 (by simp)
              have qb : ∀ z : World, Keeps [] wr z → z.cell? ⟨ga, oa + i * 3, none⟩ = some (.string (strB x.k)) := fun z hz => hz.cell HC.out.2 (by simp)
              clear hka
              go_upto_region 23 with fail
              refine seq_start (by kernel_rfl) (fun z => Keeps [] wr z) 16 [0, 1, 2, 3, 4, 5, 6, 7, 8, 9, 10, 11, 12, 13, 14, 15] rfl ((Keeps.refl [] wr).drew) (fun hS => ?_)
              refine seq_take (v := ?_) rfl (by kernel_rfl) (by kernel_rfl) (by kernel_rfl) (Or.inl ⟨by rfl, fun w' hSw => ?_⟩) (by assumption) ?_
              rotate_left
              · go_simp
                with_reducible rfl
              simp only [Act.put, List.setIfInBounds_toArray, List.set_cons_zero, List.set_cons_succ]
              refine seq_take (v := ?_) rfl (by kernel_rfl) (by kernel_rfl) (by kernel_rfl) (Or.inl ⟨by rfl, fun w' hSw => ?_⟩) (by assumption) ?_
              rotate_left
              · go_simp
                with_reducible rfl
              simp only [Act.put, List.setIfInBounds_toArray, List.set_cons_zero, List.set_cons_succ]
              refine seq_take (v := ?_) rfl (by kernel_rfl) (by kernel_rfl) (by kernel_rfl) (Or.inl ⟨by rfl, fun w' hSw => ?_⟩) (by assumption) ?_
              rotate_left
              · go_simp
                with_reducible rfl
              simp only [Act.put, List.setIfInBounds_toArray, List.set_cons_zero, List.set_cons_succ]
              refine seq_take (v := ?_) rfl (by kernel_rfl) (by kernel_rfl) (by kernel_rfl) (Or.inl ⟨by rfl, fun w' hSw => ?_⟩) (by assumption) ?_
              rotate_left
              · go_simp
                with_reducible rfl
              simp only [Act.put, List.setIfInBounds_toArray, List.set_cons_zero, List.set_cons_succ]
              refine seq_take (v := ?_) rfl (by kernel_rfl) (by kernel_rfl) (by kernel_rfl) (Or.inl ⟨by rfl, fun w' hSw => ?_⟩) (by assumption) ?_
              rotate_left
              · go_simp
                with_reducible rfl
              simp only [Act.put, List.setIfInBounds_toArray, List.set_cons_zero, List.set_cons_succ]
              refine seq_take (v := ?_) rfl (by kernel_rfl) (by kernel_rfl) (by kernel_rfl) (Or.inl ⟨by rfl, fun w' hSw => ?_⟩) (by assumption) ?_
              rotate_left
              · go_simp
                with_reducible rfl
              simp only [Act.put, List.setIfInBounds_toArray, List.set_cons_zero, List.set_cons_succ]
              refine seq_take (v := ?_) rfl (by kernel_rfl) (by kernel_rfl) (by kernel_rfl) (Or.inl ⟨by rfl, fun w' hSw => ?_⟩) (by assumption) ?_
              rotate_left
              · go_simp
                with_reducible rfl
              simp only [Act.put, List.setIfInBounds_toArray, List.set_cons_zero, List.set_cons_succ]
              refine seq_take (v := ?_) rfl (by kernel_rfl) (by kernel_rfl) (by kernel_rfl) (Or.inl ⟨by rfl, fun w' hSw => ?_⟩) (by assumption) ?_
              rotate_left
              · go_simp
                with_reducible rfl
              simp only [Act.put, List.setIfInBounds_toArray, List.set_cons_zero, List.set_cons_succ]
              refine seq_take (v := ?_) rfl (by kernel_rfl) (by kernel_rfl) (by kernel_rfl) (Or.inl ⟨by rfl, fun w' hSw => ?_⟩) (by assumption) ?_
              rotate_left
              · go_simp
                with_reducible rfl
              simp only [Act.put, List.setIfInBounds_toArray, List.set_cons_zero, List.set_cons_succ]
              refine seq_take (v := ?_) rfl (by kernel_rfl) (by kernel_rfl) (by kernel_rfl) (Or.inl ⟨by rfl, fun w' hSw => ?_⟩) (by assumption) ?_
              rotate_left
              · go_simp
                with_reducible rfl
              simp only [Act.put, List.setIfInBounds_toArray, List.set_cons_zero, List.set_cons_succ]
              refine seq_take (v := ?_) rfl (by kernel_rfl) (by kernel_rfl) (by kernel_rfl) (Or.inl ⟨by rfl, fun w' hSw => ?_⟩) (by assumption) ?_
              rotate_left
              · go_simp
                with_reducible rfl
              simp only [Act.put, List.setIfInBounds_toArray, List.set_cons_zero, List.set_cons_succ]
              refine seq_take (v := ?_) rfl (by kernel_rfl) (by kernel_rfl) (by kernel_rfl) (Or.inl ⟨by rfl, fun w' hSw => ?_⟩) (by assumption) ?_
              rotate_left
              · go_simp
                with_reducible rfl
              simp only [Act.put, List.setIfInBounds_toArray, List.set_cons_zero, List.set_cons_succ]
              refine seq_take (v := ?_) rfl (by kernel_rfl) (by kernel_rfl) (by kernel_rfl) (Or.inl ⟨by rfl, fun w' hSw => ?_⟩) (by assumption) ?_
              rotate_left
              · go_simp
                with_reducible rfl
              simp only [Act.put, List.setIfInBounds_toArray, List.set_cons_zero, List.set_cons_succ]
              refine seq_take (v := ?_) rfl (by kernel_rfl) (by kernel_rfl) (by kernel_rfl) (Or.inl ⟨by rfl, fun w' hSw => ?_⟩) (by assumption) ?_
              rotate_left
              · go_simp
                with_reducible rfl
              simp only [Act.put, List.setIfInBounds_toArray, List.set_cons_zero, List.set_cons_succ]
              refine seq_take (v := ?_) rfl (by kernel_rfl) (by kernel_rfl) (by kernel_rfl) (Or.inl ⟨by rfl, fun w' hSw => ?_⟩) (by assumption) ?_
              rotate_left
              · go_simp
                with_reducible rfl
              simp only [Act.put, List.setIfInBounds_toArray, List.set_cons_zero, List.set_cons_succ]
              refine seq_take (v := ?_) rfl (by kernel_rfl) (by kernel_rfl) (by kernel_rfl) (Or.inl ⟨by rfl, fun w' hSw => ?_⟩) (by assumption) ?_
              rotate_left
              · go_simp
                with_reducible rfl
              simp only [Act.put, List.setIfInBounds_toArray, List.set_cons_zero, List.set_cons_succ]
              refine seq_done (by kernel_rfl) ?_
              all_goals skip
              clear hS
              clear a0 fl e1 e2 hi1 hi1N qa qb HC
            all_goals
              have HKK := Lib.hid (show Keeps [] w3 wr.drew from hinv.out.drew)
              clear k0 k1 k2 hinv
              generalize wr.drew = wr2 at HKK ⊢
              go_wp2_with fail
              go_loopw [12] (fun s12 wr => ∃ k : Nat, s12 = .int .i64 k ∧ Hid (k ≤ r ∧ Keeps [] w3 wr)) (fun s12 _ => n1 - (intOf s12).toNat)
              case atStart => exact ⟨0, rfl, ⟨Nat.zero_le _, HKK.out⟩⟩
              case round =>
                obtain ⟨k, rfl, hkr⟩ := hrel
                have hkni : (k : Int) < (n1 : Int) := by have := hkr.out.1; have := HF.out.2.1; omega
                have HKL := Lib.hid (show k < rs1.length ∧ k < Ls.length ∧ k < n1 from by have := H3.out.2.2.2.2.1; have := H3.out.2.2.2.2.2.2; omega)
                have hrb := H3.out.1.keeps0 hkr.out.2
                obtain ⟨gr, og, hA1, x0⟩ := (RdL0.at2 hrb.rows) HKL.out.1
                subst hA1
                obtain ⟨ro, hro⟩ : ∃ ro, ro = rs1[k]'(HKL.out.1) := ⟨_, rfl⟩
                have y0 := RdL0.cell2 H3.out.1.rows HKL.out.1
                rw [← hro] at x0 y0
                obtain ⟨es, hes⟩ : ∃ es, es = ro.es := ⟨_, rfl⟩
                have HES := Lib.hid (show es = rowE (Ls[k]'(HKL.out.2.1)) from by
                  have h1 : (rs1.map Ro.es)[k]? = (Ls.map rowE)[k]? := by rw [H3.out.2.2.1]
                  rw [List.getElem?_map, List.getElem?_map, List.getElem?_eq_getElem HKL.out.1, List.getElem?_eq_getElem HKL.out.2.1] at h1
                  injection h1 with h1
                  rw [hes, hro]
                  exact h1)
                obtain ⟨B, hB⟩ : ∃ B, B = ro.A := ⟨_, rfl⟩
                obtain ⟨b, hb⟩ : ∃ b, b = ro.c := ⟨_, rfl⟩
                obtain ⟨m, hm⟩ : ∃ m, m = es.length := ⟨_, rfl⟩
                rw [← hes, ← hB, ← hb, ← hm] at x0 y0
                have HRO := Lib.hid (show Rd wr B es.length 3 (encEn es) ∧ m = es.length ∧ es.length ≤ 10000 from ⟨by rw [hB, hes]; exact (hrb.rd ro (by rw [hro]; exact List.getElem_mem _)).1, hm, by
                  rw [HES.out]
                  have h5 := rowE_len (Ls[k]'(HKL.out.2.1))
                  have h6 := len_le_sum (List.getElem_mem HKL.out.2.1)
                  have := HLs.out.2.2
                  omega⟩)
                obtain ⟨k0, k1, k2⟩ := en_cell3 (H3.out.2.1.keeps0 hkr.out.2) HIM.out.1
                rw [← HF.out.1] at k0 k1 k2
                obtain ⟨xv, hxv⟩ : ∃ xv, xv = (getE es x.k).getD zeroE := ⟨_, rfl⟩
                obtain ⟨bv, hbv⟩ : ∃ bv, bv = (getE es x.k).isSome := ⟨_, rfl⟩
                have HX := Lib.hid (show getV es x.k = .tuple #[.agg #[.string (strB xv.k), .string (strB xv.v), .bool xv.g], .bool bv] ∧ ((bv = true ∧ xv = x) ∨ (bv = false ∧ k + 1 ≤ r)) from by
                  refine ⟨by rw [hxv, hbv]; rfl, ?_⟩
                  rcases Nat.lt_or_ge k r with hlt | hge
                  · have hg := HF.out.2.2.2 k hlt _ (List.getElem?_eq_getElem HKL.out.2.1)
                    rw [← HES.out] at hg
                    exact .inr ⟨by rw [hbv, hg]; rfl, hlt⟩
                  · obtain rfl : k = r := by have := hkr.out.1; omega
                    have hg := HF.out.2.2.1 _ (List.getElem?_eq_getElem HKL.out.2.1)
                    rw [← HES.out] at hg
                    exact .inl ⟨by rw [hbv, hg]; rfl, by rw [hxv, hg]; rfl⟩)
                have HC := Lib.hid (And.intro x0 k0)
                have H7 := Lib.hid (show w3.cell? ⟨gr, og + k, none⟩ = some (.slice B m b) ∧ w3.cell? ⟨ga, oa + i * 3, none⟩ = some (.string (strB x.k)) from ⟨y0, by have h1 := (en_cell3 H3.out.2.1 HIM.out.1).1; rw [← HF.out.1] at h1; exact h1⟩)
                have hm1 : m ≤ 10000 := by have := HRO.out.2; omega
                clear hrb hro hes hB hb hm hxv hbv x0 y0 k0 k1 k2
                go_upto_region 28 with fail
                have qa : ∀ z : World, (z.cell? ⟨gr, og + k, none⟩ = some (.slice B m b) ∧ z.cell? ⟨ga, oa + i * 3, none⟩ = some (.string (strB x.k))) → z.cell? ⟨gr, og + k, none⟩ = some (.slice B m b) := fun z hz => hz.1
                have qb : ∀ z : World, (z.cell? ⟨gr, og + k, none⟩ = some (.slice B m b) ∧ z.cell? ⟨ga, oa + i * 3, none⟩ = some (.string (strB x.k))) → z.cell? ⟨ga, oa + i * 3, none⟩ = some (.string (strB x.k)) := fun z hz => hz.2
                refine seq_start (by kernel_rfl) (fun z => (z.cell? ⟨gr, og + k, none⟩ = some (.slice B m b) ∧ z.cell? ⟨ga, oa + i * 3, none⟩ = some (.string (strB x.k)))) 16 [0, 1, 2, 3, 4, 5, 6, 7, 8, 9, 10, 11, 12, 13, 14, 15] rfl (HC.out) (fun hS => ?_)
                have HV := Lib.hid (show Keeps [] w3 wr.drew ∧ Rd wr.drew B es.length 3 (encEn es) ∧ (wr.drew.cell? ⟨gr, og + k, none⟩ = some (.slice B m b) ∧ wr.drew.cell? ⟨ga, oa + i * 3, none⟩ = some (.string (strB x.k))) from ⟨hkr.out.2.drew, HRO.out.1.keeps0 (Keeps.refl [] wr).drew, HC.out⟩)
                have HL := Lib.hid (And.intro HRO.out.2.1 HRO.out.2.2)
                clear HC HRO
                generalize wr.drew = V at HV hS ⊢
                refine seq_take (v := ?_) rfl (by kernel_rfl) (by kernel_rfl) (by kernel_rfl) (Or.inl ⟨by rfl, fun w' hSw => ?_⟩) (by assumption) ?_
                rotate_left
                · go_simp
                  with_reducible rfl
                simp only [Act.put, List.setIfInBounds_toArray, List.set_cons_zero, List.set_cons_succ]
                refine seq_take (v := ?_) rfl (by kernel_rfl) (by kernel_rfl) (by kernel_rfl) (Or.inl ⟨by rfl, fun w' hSw => ?_⟩) (by assumption) ?_
                rotate_left
                · go_simp
                  with_reducible rfl
                simp only [Act.put, List.setIfInBounds_toArray, List.set_cons_zero, List.set_cons_succ]
                refine seq_take (v := ?_) rfl (by kernel_rfl) (by kernel_rfl) (by kernel_rfl) (Or.inl ⟨by rfl, fun w' hSw => ?_⟩) (by assumption) ?_
                rotate_left
                · go_simp
                  with_reducible rfl
                simp only [Act.put, List.setIfInBounds_toArray, List.set_cons_zero, List.set_cons_succ]
                refine seq_take (v := ?_) rfl (by kernel_rfl) (by kernel_rfl) (by kernel_rfl) (Or.inl ⟨by rfl, fun w' hSw => ?_⟩) (by assumption) ?_
                rotate_left
                · go_simp
                  with_reducible rfl
                simp only [Act.put, List.setIfInBounds_toArray, List.set_cons_zero, List.set_cons_succ]
                refine seq_take (v := ?_) rfl (by kernel_rfl) (by kernel_rfl) (by kernel_rfl) (Or.inl ⟨by rfl, fun w' hSw => ?_⟩) (by assumption) ?_
                rotate_left
                · go_simp
                  with_reducible rfl
                simp only [Act.put, List.setIfInBounds_toArray, List.set_cons_zero, List.set_cons_succ]
                refine seq_take (v := ?_) rfl (by kernel_rfl) (by kernel_rfl) (by kernel_rfl) (Or.inl ⟨by rfl, fun w' hSw => ?_⟩) (by assumption) ?_
                rotate_left
                · go_simp
                  with_reducible rfl
                simp only [Act.put, List.setIfInBounds_toArray, List.set_cons_zero, List.set_cons_succ]
                refine seq_take (v := ?_) rfl (by kernel_rfl) (by kernel_rfl) (by kernel_rfl) (Or.inl ⟨by rfl, fun w' hSw => ?_⟩) (by assumption) ?_
                rotate_left
                · go_simp
                  with_reducible rfl
                simp only [Act.put, List.setIfInBounds_toArray, List.set_cons_zero, List.set_cons_succ]
                refine seq_take (v := ?_) rfl (by kernel_rfl) (by kernel_rfl) (by kernel_rfl) (Or.inl ⟨by rfl, fun w' hSw => ?_⟩) (by assumption) ?_
                rotate_left
                · go_simp
                  with_reducible rfl
                simp only [Act.put, List.setIfInBounds_toArray, List.set_cons_zero, List.set_cons_succ]
                refine seq_take (v := ?_) rfl (by kernel_rfl) (by kernel_rfl) (by kernel_rfl) (Or.inl ⟨by rfl, fun w' hSw => ?_⟩) (by assumption) ?_
                rotate_left
                · go_simp
                  with_reducible rfl
                simp only [Act.put, List.setIfInBounds_toArray, List.set_cons_zero, List.set_cons_succ]
                iterate 3 (refine seq_later2 ?_; simp only [List.cons_append, List.nil_append])
                refine seq_two rfl rfl (by kernel_rfl) (by rfl) (by rfl) (fun K hK => ?_) (fun K hK => ?_)
                case' _ =>
                  go_simp
                  have HG := rget_any B b es x.k V HV.out.2.1 HL.out.2
                  rw [← HL.out.1] at HG
                  refine HG.mono ?_
                  clear HG
                  rintro r' w4 ⟨hr', hk4⟩
                  rw [HX.out.1] at hr'
                  subst hr'
                  have H4 := Lib.hid (show Keeps [] w3 w4 ∧ (w4.cell? ⟨gr, og + k, none⟩ = some (.slice B m b) ∧ w4.cell? ⟨ga, oa + i * 3, none⟩ = some (.string (strB x.k))) from ⟨HV.out.1.trans hk4 (by simp), hk4.cell HV.out.2.2.1 (by simp), hk4.cell HV.out.2.2.2 (by simp)⟩)
                  clear hk4 HV
                  refine hK.out (fun z => (z.cell? ⟨gr, og + k, none⟩ = some (.slice B m b) ∧ z.cell? ⟨ga, oa + i * 3, none⟩ = some (.string (strB x.k)))) _ _ (fun _ h => h) H4.out.2 (fun hS => ?_)
                  iterate 3 (refine seq_later ?_; simp only [List.cons_append, List.nil_append])
                  refine seq_take (v := ?_) rfl (by kernel_rfl) (by kernel_rfl) (by kernel_rfl) (Or.inl ⟨by rfl, fun w' hSw => ?_⟩) (by assumption) ?_
                  rotate_left
                  · go_simp
                    with_reducible rfl
                  simp only [Act.put, List.setIfInBounds_toArray, List.set_cons_zero, List.set_cons_succ]
                  refine seq_take (v := ?_) rfl (by kernel_rfl) (by kernel_rfl) (by kernel_rfl) (Or.inl ⟨by rfl, fun w' hSw => ?_⟩) (by assumption) ?_
                  rotate_left
                  · go_simp
                    with_reducible rfl
                  simp only [Act.put, List.setIfInBounds_toArray, List.set_cons_zero, List.set_cons_succ]
                  refine seq_take (v := ?_) rfl (by kernel_rfl) (by kernel_rfl) (by kernel_rfl) (Or.inl ⟨by rfl, fun w' hSw => ?_⟩) (by assumption) ?_
                  rotate_left
                  · go_simp
                    with_reducible rfl
                  simp only [Act.put, List.setIfInBounds_toArray, List.set_cons_zero, List.set_cons_succ]
                  refine seq_do rfl (by kernel_rfl) (by rfl) (fun K hK => ?_)
                  go_simp
                  obtain ⟨gx, hgx⟩ : ∃ gx, gx = w4.heap.size := ⟨_, rfl⟩
                  have H5 := Lib.hid (show (w4.alloc (.cells #[.string ⟨#[]⟩, .string ⟨#[]⟩, .bool false] 27)).heap[gx]? = some (.cells #[.string ⟨#[]⟩, .string ⟨#[]⟩, .bool false] 27 (0, 0)) ∧ Keeps [] w3 (w4.alloc (.cells #[.string ⟨#[]⟩, .string ⟨#[]⟩, .bool false] 27)) ∧ w3.heap.size ≤ gx ∧ (((w4.alloc (.cells #[.string ⟨#[]⟩, .string ⟨#[]⟩, .bool false] 27)).cell? ⟨gr, og + k, none⟩ = some (.slice B m b) ∧ (w4.alloc (.cells #[.string ⟨#[]⟩, .string ⟨#[]⟩, .bool false] 27)).cell? ⟨ga, oa + i * 3, none⟩ = some (.string (strB x.k)))) from by
                    have hka : Keeps [] w4 (w4.alloc (.cells #[.string ⟨#[]⟩, .string ⟨#[]⟩, .bool false] 27)) := (Keeps.refl [] w4).alloc _
                    exact ⟨by rw [hgx]; exact heap_alloc_new _ _, H4.out.1.trans hka (by simp), by rw [hgx]; exact H4.out.1.size, hka.cell H4.out.2.1 (by simp), hka.cell H4.out.2.2 (by simp)⟩)
                  rw [← hgx]
                  clear hgx H4
                  generalize w4.alloc (.cells #[.string ⟨#[]⟩, .string ⟨#[]⟩, .bool false] 27) = w5 at H5 ⊢
                  refine hK.out (fun z => (z.cell? ⟨gr, og + k, none⟩ = some (.slice B m b) ∧ z.cell? ⟨ga, oa + i * 3, none⟩ = some (.string (strB x.k)))) _ _ (fun _ h => h) H5.out.2.2.2 (fun hS => ?_)
                rotate_left
                case' _ =>
                  go_simp
                  obtain ⟨gx, hgx⟩ : ∃ gx, gx = V.heap.size := ⟨_, rfl⟩
                  have H4 := Lib.hid (show (V.alloc (.cells #[.string ⟨#[]⟩, .string ⟨#[]⟩, .bool false] 27)).heap[gx]? = some (.cells #[.string ⟨#[]⟩, .string ⟨#[]⟩, .bool false] 27 (0, 0)) ∧ Keeps [] w3 (V.alloc (.cells #[.string ⟨#[]⟩, .string ⟨#[]⟩, .bool false] 27)) ∧ w3.heap.size ≤ gx ∧ (((V.alloc (.cells #[.string ⟨#[]⟩, .string ⟨#[]⟩, .bool false] 27)).cell? ⟨gr, og + k, none⟩ = some (.slice B m b) ∧ (V.alloc (.cells #[.string ⟨#[]⟩, .string ⟨#[]⟩, .bool false] 27)).cell? ⟨ga, oa + i * 3, none⟩ = some (.string (strB x.k)))) ∧ Rd (V.alloc (.cells #[.string ⟨#[]⟩, .string ⟨#[]⟩, .bool false] 27)) B es.length 3 (encEn es) from by
                    have hka : Keeps [] V (V.alloc (.cells #[.string ⟨#[]⟩, .string ⟨#[]⟩, .bool false] 27)) := (Keeps.refl [] V).alloc _
                    exact ⟨by rw [hgx]; exact heap_alloc_new _ _, HV.out.1.trans hka (by simp), by rw [hgx]; exact HV.out.1.size, ⟨hka.cell HV.out.2.2.1 (by simp), hka.cell HV.out.2.2.2 (by simp)⟩, HV.out.2.1.keeps0 hka⟩)
                  rw [← hgx]
                  clear hgx HV
                  generalize V.alloc (.cells #[.string ⟨#[]⟩, .string ⟨#[]⟩, .bool false] 27) = w4 at H4 ⊢
                  refine hK.out (fun z => (z.cell? ⟨gr, og + k, none⟩ = some (.slice B m b) ∧ z.cell? ⟨ga, oa + i * 3, none⟩ = some (.string (strB x.k)))) _ _ (fun _ h => h) H4.out.2.2.2.1 (fun hS => ?_)
                  refine seq_do rfl (by kernel_rfl) (by rfl) (fun K hK => ?_)
                  go_simp
                  have HG := rget_any B b es x.k w4 H4.out.2.2.2.2 HL.out.2
                  rw [← HL.out.1] at HG
                  refine HG.mono ?_
                  clear HG
                  rintro r' w5 ⟨hr', hk4⟩
                  rw [HX.out.1] at hr'
                  subst hr'
                  have H5 := Lib.hid (show w5.heap[gx]? = some (.cells #[.string ⟨#[]⟩, .string ⟨#[]⟩, .bool false] 27 (0, 0)) ∧ Keeps [] w3 w5 ∧ w3.heap.size ≤ gx ∧ ((w5.cell? ⟨gr, og + k, none⟩ = some (.slice B m b) ∧ w5.cell? ⟨ga, oa + i * 3, none⟩ = some (.string (strB x.k)))) from ⟨(hk4.block gx (lt_of_block H4.out.1) (by simp)).trans H4.out.1, H4.out.2.1.trans hk4 (by simp), H4.out.2.2.1, hk4.cell H4.out.2.2.2.1.1 (by simp), hk4.cell H4.out.2.2.2.1.2 (by simp)⟩)
                  clear hk4 H4
                  refine hK.out (fun z => (z.cell? ⟨gr, og + k, none⟩ = some (.slice B m b) ∧ z.cell? ⟨ga, oa + i * 3, none⟩ = some (.string (strB x.k)))) _ _ (fun _ h => h) H5.out.2.2.2 (fun hS => ?_)
                  iterate 2 (refine seq_later ?_; simp only [List.cons_append, List.nil_append])
                  refine seq_take (v := ?_) rfl (by kernel_rfl) (by kernel_rfl) (by kernel_rfl) (Or.inl ⟨by rfl, fun w' hSw => ?_⟩) (by assumption) ?_
                  rotate_left
                  · go_simp
                    with_reducible rfl
                  simp only [Act.put, List.setIfInBounds_toArray, List.set_cons_zero, List.set_cons_succ]
                  refine seq_take (v := ?_) rfl (by kernel_rfl) (by kernel_rfl) (by kernel_rfl) (Or.inl ⟨by rfl, fun w' hSw => ?_⟩) (by assumption) ?_
                  rotate_left
                  · go_simp
                    with_reducible rfl
                  simp only [Act.put, List.setIfInBounds_toArray, List.set_cons_zero, List.set_cons_succ]
                  refine seq_take (v := ?_) rfl (by kernel_rfl) (by kernel_rfl) (by kernel_rfl) (Or.inl ⟨by rfl, fun w' hSw => ?_⟩) (by assumption) ?_
                  rotate_left
                  · go_simp
                    with_reducible rfl
                  simp only [Act.put, List.setIfInBounds_toArray, List.set_cons_zero, List.set_cons_succ]
                all_goals
                  have z0 : w5.cell? ⟨gx, 0, none⟩ = some (.string ⟨#[]⟩) := by rw [cell_of_row _ _ _ _ _ _ H5.out.1]; rfl
                  have z1 : w5.cell? ⟨gx, 1, none⟩ = some (.string ⟨#[]⟩) := by rw [cell_of_row _ _ _ _ _ _ H5.out.1]; rfl
                  have z2 : w5.cell? ⟨gx, 2, none⟩ = some (.bool false) := by rw [cell_of_row _ _ _ _ _ _ H5.out.1]; rfl
                  have fz : ∀ j, w5.frozen? ⟨gx, j, none⟩ = false := fun j => frozen_of_row w5 _ j _ _ H5.out.1
                  refine seq_do rfl (by kernel_rfl) (by rfl) (fun K hK => ?_)
                  go_simp
                  obtain ⟨w6, hw6⟩ : ∃ w6, w6 = (((w5.setCell ⟨gx, 0, none⟩ (.string (strB xv.k))).setCell ⟨gx, 1, none⟩ (.string (strB xv.v))).setCell ⟨gx, 2, none⟩ (.bool xv.g)) := ⟨_, rfl⟩
                  have H6 := Lib.hid (show w6.heap[gx]? = some (.cells #[.string (strB xv.k), .string (strB xv.v), .bool xv.g] 27 (0, 0)) ∧ Keeps [] w3 w6 ∧ ((w6.cell? ⟨gr, og + k, none⟩ = some (.slice B m b) ∧ w6.cell? ⟨ga, oa + i * 3, none⟩ = some (.string (strB x.k)))) from by
                    have hks : Keeps [gx] w5 w6 := by rw [hw6]; exact (((Keeps.refl [gx] w5).setCell (p := ⟨gx, 0, none⟩) (.inl (by simp)) _).setCell (p := ⟨gx, 1, none⟩) (.inl (by simp)) _).setCell (p := ⟨gx, 2, none⟩) (.inl (by simp)) _
                    have hk6 : Keeps [] w3 w6 := H5.out.2.1.trans hks (fun t ht => .inr (by simp at ht; rw [ht]; exact H5.out.2.2.1))
                    have hlt : ∀ {g o : Nat} {v : Value}, w3.cell? ⟨g, o, none⟩ = some v → w6.cell? ⟨g, o, none⟩ = some v := fun {g o v} h => hk6.cell h (by simp)
                    refine ⟨?_, hk6, ?_, ?_⟩
                    · rw [hw6, heap_setCell_same _ gx 2 _ _ _ (heap_setCell_same _ gx 1 _ _ _ (heap_setCell_same _ gx 0 _ _ _ H5.out.1))]
                      rfl
                    · exact hlt H7.out.1
                    · exact hlt H7.out.2)
                  rw [← hw6]
                  clear hw6 H5 z0 z1 z2 fz
                  refine hK.out (fun z => (z.cell? ⟨gr, og + k, none⟩ = some (.slice B m b) ∧ z.cell? ⟨ga, oa + i * 3, none⟩ = some (.string (strB x.k)))) _ _ (fun _ h => h) H6.out.2.2 (fun hS => ?_)
                  refine seq_take (v := ?_) rfl (by kernel_rfl) (by kernel_rfl) (by kernel_rfl) (Or.inl ⟨by rfl, fun w' hSw => ?_⟩) (by assumption) ?_
                  rotate_left
                  · go_simp
                    with_reducible rfl
                  simp only [Act.put, List.setIfInBounds_toArray, List.set_cons_zero, List.set_cons_succ]
                  refine seq_done (by kernel_rfl) ?_
                  all_goals skip
                  clear hS qa qb hK
                  have hb2 := HX.out.2
                  rcases hb2 with ⟨rfl, hx⟩ | ⟨rfl, hk1⟩
                  · replace hx := hx.symm
                    subst hx
                    have m0 : w6.cell? ⟨gx, 0, none⟩ = some (.string (strB x.k)) := by rw [cell_of_row _ _ _ _ _ _ H6.out.1]; rfl
                    have m1 : w6.cell? ⟨gx, 1, none⟩ = some (.string (strB x.v)) := by rw [cell_of_row _ _ _ _ _ _ H6.out.1]; rfl
                    have m2 : w6.cell? ⟨gx, 2, none⟩ = some (.bool x.g) := by rw [cell_of_row _ _ _ _ _ _ H6.out.1]; rfl
                    obtain ⟨k0, k1, k2⟩ := en_cell3 (H3.out.2.1.keeps0 H6.out.2.1) HIM.out.1
                    rw [← HF.out.1] at k0 k1 k2
                    have HKK := Lib.hid (And.intro (And.intro k0 (And.intro k1 k2)) (And.intro m0 (And.intro m1 m2)))
                    clear k0 k1 k2 m0 m1 m2
                    go_upto_region 30 with fail
                    have qa : ∀ z : World, Keeps [] w6 z → z.cell? ⟨ga, oa + i * 3, none⟩ = some (.string (strB x.k)) := fun z hz => hz.cell HKK.out.1.1 (by simp)
                    have qb : ∀ z : World, Keeps [] w6 z → z.cell? ⟨ga, oa + i * 3 + 1, none⟩ = some (.string (strB x.v)) := fun z hz => hz.cell HKK.out.1.2.1 (by simp)
                    have qc : ∀ z : World, Keeps [] w6 z → z.cell? ⟨ga, oa + i * 3 + 2, none⟩ = some (.bool x.g) := fun z hz => hz.cell HKK.out.1.2.2 (by simp)
                    have qd : ∀ z : World, Keeps [] w6 z → z.cell? ⟨gx, 0, none⟩ = some (.string (strB x.k)) := fun z hz => hz.cell HKK.out.2.1 (by simp)
                    have qe : ∀ z : World, Keeps [] w6 z → z.cell? ⟨gx, 1, none⟩ = some (.string (strB x.v)) := fun z hz => hz.cell HKK.out.2.2.1 (by simp)
                    have qf : ∀ z : World, Keeps [] w6 z → z.cell? ⟨gx, 2, none⟩ = some (.bool x.g) := fun z hz => hz.cell HKK.out.2.2.2 (by simp)
                    refine seq_start (by kernel_rfl) (fun z => Keeps [] w6 z) 6 [0, 1, 2, 3, 4, 5] rfl ((Keeps.refl [] w6).drew) (fun hS => ?_)
                    refine seq_take (v := ?_) rfl (by kernel_rfl) (by kernel_rfl) (by kernel_rfl) (Or.inl ⟨by rfl, fun w' hSw => ?_⟩) (by assumption) ?_
                    rotate_left
                    · go_simp
                      with_reducible rfl
                    simp only [Act.put, List.setIfInBounds_toArray, List.set_cons_zero, List.set_cons_succ]
                    refine seq_take (v := ?_) rfl (by kernel_rfl) (by kernel_rfl) (by kernel_rfl) (Or.inl ⟨by rfl, fun w' hSw => ?_⟩) (by assumption) ?_
                    rotate_left
                    · go_simp
                      with_reducible rfl
                    simp only [Act.put, List.setIfInBounds_toArray, List.set_cons_zero, List.set_cons_succ]
                    refine seq_take (v := ?_) rfl (by kernel_rfl) (by kernel_rfl) (by kernel_rfl) (Or.inl ⟨by rfl, fun w' hSw => ?_⟩) (by assumption) ?_
                    rotate_left
                    · go_simp
                      with_reducible rfl
                    simp only [Act.put, List.setIfInBounds_toArray, List.set_cons_zero, List.set_cons_succ]
                    refine seq_take (v := ?_) rfl (by kernel_rfl) (by kernel_rfl) (by kernel_rfl) (Or.inl ⟨by rfl, fun w' hSw => ?_⟩) (by assumption) ?_
                    rotate_left
                    · go_simp
                      with_reducible rfl
                    simp only [Act.put, List.setIfInBounds_toArray, List.set_cons_zero, List.set_cons_succ]
                    refine seq_take (v := ?_) rfl (by kernel_rfl) (by kernel_rfl) (by kernel_rfl) (Or.inl ⟨by rfl, fun w' hSw => ?_⟩) (by assumption) ?_
                    rotate_left
                    · go_simp
                      with_reducible rfl
                    simp only [Act.put, List.setIfInBounds_toArray, List.set_cons_zero, List.set_cons_succ]
                    refine seq_take (v := ?_) rfl (by kernel_rfl) (by kernel_rfl) (by kernel_rfl) (Or.inl ⟨by rfl, fun w' hSw => ?_⟩) (by assumption) ?_
                    rotate_left
                    · go_simp
                      with_reducible rfl
                    simp only [Act.put, List.setIfInBounds_toArray, List.set_cons_zero, List.set_cons_succ]
                    refine seq_done (by kernel_rfl) ?_
                    all_goals skip
                    have HI := Lib.hid H6.out.2.1.drew
                    clear qa qb qc qd qe qf hS HKK H6
                    generalize w6.drew = V7 at HI ⊢
                    go_wp2_with fail
                    go_roundw
                    case rel => exact ⟨i + 1, by go_num, by have := HIM.out; omega, HI⟩
                    case measure => have := HIM.out; simp [intOf]; omega
                  · have H8 := Lib.hid (show k + 1 ≤ r ∧ Keeps [] w3 w6 from ⟨hk1, H6.out.2.1⟩)
                    clear hk1 H6 HX
                    go_wp2_with fail
                    go_roundw
                    case rel => exact ⟨k + 1, by go_num, H8⟩
                    case measure => have := HKL.out; simp [intOf]; omega
          · have hiNi : ¬ (i : Int) < (N : Int) := by omega
            have HKE := Lib.hid (show Keeps [] w w3 ∧ Keeps [] w3 wr from ⟨H3.out.1.kp, hinv.out⟩)
            clear hiN hinv
            go_wp2_with fail
            refine (sure4_any _).mono ?_
            rintro r w4 ⟨rfl, hk4⟩
            have H4 := Lib.hid (show Keeps [] w w4 from (HKE.out.1.trans HKE.out.2 (by simp)).trans hk4 (by simp))
            clear hk4
            go_wp2_with fail
            go_ret
            exact ⟨rfl, H4.out⟩
end Go.Proofs.Ytaedmafmflohiaa
