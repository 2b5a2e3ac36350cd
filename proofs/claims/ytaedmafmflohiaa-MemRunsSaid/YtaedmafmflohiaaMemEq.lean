/- Rows of entries held against one another; a row of one's own: contracts. -/
import Derived.Test.YtaedmafmflohiaaMemGet
namespace Go.Proofs.Ytaedmafmflohiaa
open Go.RowKit

set_option maxHeartbeats 4000000 in
theorem entries_same (l : List En) (A1 A2 : Option Addr) (c1 c2 : Nat) (w : World) (h1 : Rd w A1 l.length 3 (encEn l)) (h2 : Rd w A2 l.length 3 (encEn l)) (hl : l.length ≤ 1000000) :
    Calls Try.prog 11 #[.slice A1 l.length c1, .slice A2 l.length c2] w fun r w' => r = .returned (.bool true) ∧ Keeps [] w w' := by
  have H1 := Lib.hid h1
  have H2 := Lib.hid h2
  obtain ⟨n, hn⟩ : ∃ n, n = l.length := ⟨_, rfl⟩
  have HN := Lib.hid hn
  have INV := Lib.hid (Keeps.refl [] w)
  rw [← hn] at hl ⊢
  clear h1 h2 hn
  go_enter Try.func11, Try.ntmps11
  go_wp2_with fail
  go_loopw [5] (fun si wr => ∃ i : Nat, i ≤ n ∧ si = .int .i64 i ∧ Hid (Keeps [] w wr)) (fun si _ => n - (intOf si).toNat)
  case atStart => exact ⟨0, Nat.zero_le _, rfl, INV.out⟩
  case round =>
    clear INV
    obtain ⟨i, hi, rfl, hinv⟩ := hrel
    by_cases hlt : i < n
    · have hik : (i : Int) < (n : Int) := by omega
      have HIL := Lib.hid (show i < l.length by have := HN.out; omega)
      obtain ⟨g1, o1, rfl, k0, k1, k2⟩ := en_cells (H1.out.keeps0 hinv.out) (i := i) HIL.out
      obtain ⟨g2, o2, rfl, m0, m1, m2⟩ := en_cells (H2.out.keeps0 hinv.out) (i := i) HIL.out
      obtain ⟨e, he⟩ : ∃ e, e = l[i]'(HIL.out) := ⟨_, rfl⟩
      rw [← he] at k0 k1 k2 m0 m1 m2
      have HKK := Lib.hid (And.intro (And.intro k0 (And.intro k1 k2)) (And.intro m0 (And.intro m1 m2)))
      clear k0 k1 k2 m0 m1 m2 he hlt
      go_upto_region 6 with fail
      have qa : ∀ z : World, Keeps [] wr z → z.cell? ⟨g1, o1 + i * 3, none⟩ = some (.string (strB e.k)) := fun z hz => hz.cell HKK.out.1.1 (by simp)
      have qb : ∀ z : World, Keeps [] wr z → z.cell? ⟨g1, o1 + i * 3 + 1, none⟩ = some (.string (strB e.v)) := fun z hz => hz.cell HKK.out.1.2.1 (by simp)
      have qc : ∀ z : World, Keeps [] wr z → z.cell? ⟨g1, o1 + i * 3 + 2, none⟩ = some (.bool e.g) := fun z hz => hz.cell HKK.out.1.2.2 (by simp)
      have qd : ∀ z : World, Keeps [] wr z → z.cell? ⟨g2, o2 + i * 3, none⟩ = some (.string (strB e.k)) := fun z hz => hz.cell HKK.out.2.1 (by simp)
      have qe : ∀ z : World, Keeps [] wr z → z.cell? ⟨g2, o2 + i * 3 + 1, none⟩ = some (.string (strB e.v)) := fun z hz => hz.cell HKK.out.2.2.1 (by simp)
      have qf : ∀ z : World, Keeps [] wr z → z.cell? ⟨g2, o2 + i * 3 + 2, none⟩ = some (.bool e.g) := fun z hz => hz.cell HKK.out.2.2.2 (by simp)
      refine seq_start (by kernel_rfl) (fun z => Keeps [] wr z) 9 [0, 1, 2, 3, 4, 5, 6, 7, 8] rfl ((Keeps.refl [] wr).drew) (fun hS => ?_)
      refine seq_take (v := ?_) rfl (by kernel_rfl) (by kernel_rfl) (by kernel_rfl) (Or.inl ⟨by rfl, fun w' hSw => ?_⟩) (by assumption) ?_
      rotate_left
      · go_simp
        with_reducible rfl
      simp only [Act.put, List.setIfInBounds_toArray, List.set_cons_zero, List.set_cons_succ]
      refine seq_take (v := ?_) rfl (by kernel_rfl) (by kernel_rfl) (by kernel_rfl) (Or.inl ⟨by rfl, fun w' hSw => ?_⟩) (by assumption) ?_
      rotate_left
      · go_simp
        with_reducible rfl
      simp only [Act.put, List.setIfInBounds_toArray, List.set_cons_zero, List.set_cons_succ]
      refine seq_take (v := ?_) rfl (by kernel_rfl) (by kernel_rfl) (by kernel_rfl) (Or.inl ⟨by rfl, fun w' hSw => ?_⟩) (by assumption) ?_
      rotate_left
      · go_simp
        with_reducible rfl
      simp only [Act.put, List.setIfInBounds_toArray, List.set_cons_zero, List.set_cons_succ]
      refine seq_take (v := ?_) rfl (by kernel_rfl) (by kernel_rfl) (by kernel_rfl) (Or.inl ⟨by rfl, fun w' hSw => ?_⟩) (by assumption) ?_
      rotate_left
      · go_simp
        with_reducible rfl
      simp only [Act.put, List.setIfInBounds_toArray, List.set_cons_zero, List.set_cons_succ]
      refine seq_take (v := ?_) rfl (by kernel_rfl) (by kernel_rfl) (by kernel_rfl) (Or.inl ⟨by rfl, fun w' hSw => ?_⟩) (by assumption) ?_
      rotate_left
      · go_simp
        with_reducible rfl
      simp only [Act.put, List.setIfInBounds_toArray, List.set_cons_zero, List.set_cons_succ]
      refine seq_take (v := ?_) rfl (by kernel_rfl) (by kernel_rfl) (by kernel_rfl) (Or.inl ⟨by rfl, fun w' hSw => ?_⟩) (by assumption) ?_
      rotate_left
      · go_simp
        with_reducible rfl
      simp only [Act.put, List.setIfInBounds_toArray, List.set_cons_zero, List.set_cons_succ]
      refine seq_take (v := ?_) rfl (by kernel_rfl) (by kernel_rfl) (by kernel_rfl) (Or.inl ⟨by rfl, fun w' hSw => ?_⟩) (by assumption) ?_
      rotate_left
      · go_simp
        with_reducible rfl
      simp only [Act.put, List.setIfInBounds_toArray, List.set_cons_zero, List.set_cons_succ]
      refine seq_take (v := ?_) rfl (by kernel_rfl) (by kernel_rfl) (by kernel_rfl) (Or.inl ⟨by rfl, fun w' hSw => ?_⟩) (by assumption) ?_
      rotate_left
      · go_simp
        with_reducible rfl
      simp only [Act.put, List.setIfInBounds_toArray, List.set_cons_zero, List.set_cons_succ]
      refine seq_take (v := ?_) rfl (by kernel_rfl) (by kernel_rfl) (by kernel_rfl) (Or.inl ⟨by rfl, fun w' hSw => ?_⟩) (by assumption) ?_
      rotate_left
      · go_simp
        with_reducible rfl
      simp only [Act.put, List.setIfInBounds_toArray, List.set_cons_zero, List.set_cons_succ]
      refine seq_done (by kernel_rfl) ?_
      all_goals skip
      have HI := Lib.hid hinv.out.drew
      clear qa qb qc qd qe qf hS hinv HKK
      generalize wr.drew = V at HI ⊢
      go_wp2_with fail
      go_roundw
      case rel => exact ⟨i + 1, by omega, by go_num, HI.out⟩
      case measure => simp [intOf]; omega
    · have hik : ¬ (i : Int) < (n : Int) := by omega
      clear hlt
      go_wp2_with fail
      go_ret
      exact ⟨rfl, hinv.out⟩
theorem own_en (A : Option Addr) (c : Nat) (l : List En) (w : World) (h : Rd w A l.length 3 (encEn l)) (hl : l.length ≤ 1000000000) :
    Calls Try.prog 17 #[.slice A l.length c] w (NewEn l w) := by
  have HR := Lib.hid h
  obtain ⟨n, hn⟩ : ∃ n, n = l.length := ⟨_, rfl⟩
  have HN := Lib.hid hn
  have HB := Lib.hid (show 0 + n ≤ maxLen ∧ (0 + n) * 40 ≤ 140737488355328 from by unfold maxLen; omega)
  rw [← hn] at hl HR ⊢
  clear h hn
  go_enter Try.func17, Try.ntmps17
  go_wp2_with (at_builtin; refine wpList_appendV rfl (.tmp 4) (.tmp 5) 22 27 rfl Try.underlying22 _ 3 40 infoEn rfl (by decide) none 0 0 [] rfl (World.ownsRow_nil _ 0 _ _) A n c (encEn l) rfl HR.out (encEn_one l) HB.out.1 HB.out.2 ?_; intro A' c' w' ho hk hb; rw [Nat.zero_add, List.nil_append] at ho; have HO := Lib.hid ho; have HK := Lib.hid hk; have HBB := Lib.hid hb; clear ho hk hb)
  go_ret
  have hnl := HN.out
  subst hnl
  refine ⟨A', c', by simp, HO.out, HK.out.mono (by simp [blk]), fun a ha => ?_⟩
  rcases HBB.out a ha with h | h
  · simp [blk] at h
  · exact h
theorem rd_rowN {w : World} {g n : Nat} {T : TypeId} {xs : List Value} {fr : Nat × Nat} (h : w.heap[g]? = some (.cells xs.toArray T fr)) (hn : xs.length = n * 3) : Rd w (some ⟨g, 0, none⟩) n 3 xs :=
  ⟨by simp [hn], fun _ => ⟨_, rfl, fun j u hu => by rw [Addr.add_lit, Nat.zero_add, cell_of_row _ _ _ _ _ _ h, List.getElem?_toArray]; exact hu⟩⟩
def sb : En := ⟨[98], [120], false⟩
def sa : En := ⟨[97], [121], false⟩
def sg : En := ⟨[98], [], true⟩
theorem put_b : putE [] sb = [sb] := rfl
theorem put_ab : putE [sb] sa = [sa, sb] := rfl
theorem put_gb : putE [sa, sb] sg = [sa, sg] := rfl
theorem PutP.step {g : Nat} {A : Option Addr} {l : List En} {w0 w : World} {r : Ending} {w' : World} (h : PutP g A l w r w') (hk : Keeps [] w0 w) (h0 : w0.heap.size ≤ g) (hA : ∀ a, A = some a → w0.heap.size ≤ a.block) :
    r = .returned (.tuple #[]) ∧ ∃ A' c', MemS w' g A' c' l ∧ Keeps [] w0 w' ∧ (∀ a, A' = some a → w0.heap.size ≤ a.block) := by
  obtain ⟨h1, A', c', h2, h3, h4⟩ := h
  refine ⟨h1, A', c', h2, hk.trans h3 (fun t ht => ?_), fun a ha => ?_⟩
  · rcases List.mem_cons.1 ht with rfl | ht
    · exact .inr h0
    · obtain ⟨a, e1, e2⟩ := mem_blk.1 ht
      exact .inr (by rw [← e2]; exact hA a e1)
  · rcases h4 a ha with h | h
    · obtain ⟨a1, e1, e2⟩ := mem_blk.1 h
      have := hA a1 e1
      omega
    · exact Nat.le_trans hk.size h
set_option maxHeartbeats 4000000 in
theorem msure_any (w : World) : Calls Try.prog 14 #[] w fun r w' => r = .returned (.bool true) ∧ Keeps [] w w' := by
  go_enter Try.func14, Try.ntmps14
  go_wp2_with fail
  refine (mnew_any w).mono ?_
  rintro r w1 ⟨g, rfl, hm1, hk1, hg1⟩
  have H1 := Lib.hid (And.intro hm1 (And.intro hk1 hg1))
  clear hm1 hk1 hg1
  go_wp2_with fail
  refine (put_any g none 0 [] sb w1 H1.out.1 List.Pairwise.nil (by intro e he; cases he) (by decide) (by decide) (by decide)).mono ?_
  intro r w2 hp
  obtain ⟨rfl, A2, c2, hm2, hk2, hb2⟩ := hp.step H1.out.2.1 H1.out.2.2 (by simp)
  rw [put_b] at hm2
  have H2 := Lib.hid (And.intro hm2 (And.intro hk2 (And.intro H1.out.2.2 hb2)))
  clear hm2 hk2 hb2 hp H1
  go_wp2_with fail
  have hs1 : Srt [sb] := List.pairwise_singleton _ _
  refine (put_any g A2 c2 [sb] sa w2 H2.out.1 hs1 (by intro e he; simp at he; subst he; decide) (by decide) (by decide) (by decide)).mono ?_
  intro r w3 hp
  obtain ⟨rfl, A3, c3, hm3, hk3, hb3⟩ := hp.step H2.out.2.1 H2.out.2.2.1 H2.out.2.2.2
  rw [put_ab] at hm3
  have H3 := Lib.hid (And.intro hm3 (And.intro hk3 (And.intro H2.out.2.2.1 hb3)))
  have hs2 : Srt [sa, sb] := by rw [← put_ab]; exact putE_srt hs1 _
  clear hm3 hk3 hb3 hp H2
  go_wp2_with fail
  refine (put_any g A3 c3 [sa, sb] sg w3 H3.out.1 hs2 (by intro e he; simp at he; rcases he with rfl | rfl <;> decide) (by decide) (by decide) (by decide)).mono ?_
  intro r w4 hp
  obtain ⟨rfl, A4, c4, hm4, hk4, hb4⟩ := hp.step H3.out.2.1 H3.out.2.2.1 H3.out.2.2.2
  rw [put_gb] at hm4
  have H4 := Lib.hid (And.intro hm4 hk4)
  have HS3 := Lib.hid (show Srt [sa, sg] by rw [← put_gb]; exact putE_srt hs2 _)
  clear hm4 hk4 hb4 hp H3 hs1 hs2
  go_wp2_with fail
  refine (entries_any g A4 c4 [sa, sg] w4 H4.out.1 HS3.out (by decide)).mono ?_
  rintro r w5 ⟨A5, c5, rfl, ho5, hk5, _⟩
  have H5 := Lib.hid (show MemS w5 g A4 c4 [sa, sg] ∧ Keeps [] w w5 ∧ Rd w5 A5 2 3 (encEn [sa, sg]) from ⟨H4.out.1.keeps0 hk5, H4.out.2.trans hk5 (by simp), Rd.of_own ho5⟩)
  clear ho5 hk5 H4
  go_wp2_with fail
  have hrow : (w5.alloc (.cells (encEn [sa, sg]).toArray 27)).heap[w5.heap.size]? = some (.cells (encEn [sa, sg]).toArray 27 (0, 0)) := heap_alloc_new _ _
  have HES := entries_same [sa, sg] A5 (some ⟨w5.heap.size, 0, none⟩) c5 2 (w5.alloc (.cells (encEn [sa, sg]).toArray 27)) (H5.out.2.2.alloc _) (rd_rowN hrow rfl) (by decide)
  refine HES.mono ?_
  clear HES
  rintro r w6 ⟨rfl, hk6⟩
  have hk56 : Keeps [] w5 w6 := ((Keeps.refl [] w5).alloc _).trans hk6 (by simp)
  have H6 := Lib.hid (show MemS w6 g A4 c4 [sa, sg] ∧ Keeps [] w w6 from ⟨H5.out.1.keeps0 hk56, H5.out.2.1.trans hk56 (by simp)⟩)
  clear hrow hk6 hk56 H5
  go_wp2_with fail
  refine (size_any g A4 c4 [sa, sg] w6 H6.out.1).mono ?_
  rintro r w7 ⟨rfl, rfl⟩
  rw [show ((sizeE [sa, sg] : Nat) : Int) = 3 from rfl]
  go_wp2_with fail
  go_ret
  exact ⟨rfl, H6.out.2⟩
end Go.Proofs.Ytaedmafmflohiaa
