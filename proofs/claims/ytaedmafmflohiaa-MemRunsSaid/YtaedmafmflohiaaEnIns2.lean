/- slices.Insert at entries, inside a row that has room: a contract. -/
import Derived.Test.YtaedmafmflohiaaEnIns
import Derived.Test.YtaedmafmflohiaaRegion
namespace Go.Proofs.Ytaedmafmflohiaa
open Go.RowKit

theorem secG {g l m : Nat} (h : m ≠ l) : secA (some (⟨g, 0, none⟩ : Addr)) l m 3 = some ⟨g, l * 3, none⟩ := by
  unfold secA
  rw [if_neg h, Option.map_some, Addr.add_lit, Nat.zero_add]
theorem list_room (cur vs : List Value) (i n : Nat) (hi : i < n) (hc : (n + 1) * 3 ≤ cur.length) (hv : vs.length = 3) :
    (((cur.take ((i + 1) * 3) ++ (cur.drop (i * 3)).take ((n - i) * 3) ++ cur.drop ((i + 1) * 3 + ((cur.drop (i * 3)).take ((n - i) * 3)).length)).take (i * 3) ++ vs ++
      (cur.take ((i + 1) * 3) ++ (cur.drop (i * 3)).take ((n - i) * 3) ++ cur.drop ((i + 1) * 3 + ((cur.drop (i * 3)).take ((n - i) * 3)).length)).drop (i * 3 + vs.length))).take ((n + 1) * 3) =
    (cur.take (n * 3)).take (i * 3) ++ vs ++ (cur.take (n * 3)).drop (i * 3) := by
  obtain ⟨M, hM⟩ : ∃ M, M = (cur.drop (i * 3)).take ((n - i) * 3) := ⟨_, rfl⟩
  have e1 : M.length = (n - i) * 3 := by rw [hM, List.length_take, List.length_drop]; omega
  rw [← hM]
  obtain ⟨R, hR⟩ : ∃ R, R = cur.drop ((i + 1) * 3 + M.length) := ⟨_, rfl⟩
  rw [← hR]
  have hP : (cur.take ((i + 1) * 3)).length = i * 3 + 3 := by rw [List.length_take]; omega
  have a1 : (cur.take ((i + 1) * 3) ++ M ++ R).take (i * 3) = cur.take (i * 3) := by
    rw [List.append_assoc, List.take_append_of_le_length (by omega), List.take_take, Nat.min_eq_left (by omega)]
  have a2 : (cur.take ((i + 1) * 3) ++ M ++ R).drop (i * 3 + vs.length) = M ++ R := by
    rw [List.append_assoc, hv, List.drop_left' hP]
  rw [a1, a2, List.take_take, Nat.min_eq_left (by omega), List.drop_take, show n * 3 - i * 3 = (n - i) * 3 by omega, ← hM, ← List.append_assoc,
    List.take_append_of_le_length (by simp only [List.length_append, List.length_take, e1, hv]; omega), List.take_of_length_le (by simp only [List.length_append, List.length_take, e1, hv]; omega)]
theorem ins_room (g c n i : Nat) (cur : List Value) (g2 : Nat) (vs : List Value) (w : World) (hg : w.heap[g]? = some (.cells cur.toArray 27 (0, 0))) (hcl : cur.length = c * 3) (hcm : c ≤ maxLen) (hone : ∀ u ∈ cur.take (n * 3), u.oneCell' = true)
    (hg2 : w.heap[g2]? = some (.cells vs.toArray 27 (0, 0))) (hne : g2 ≠ g) (hvl : vs.length = 3) (h1 : ∀ u ∈ vs, u.oneCell' = true) (hn : n ≤ 1000000000) (hi : i < n) (hc : n + 1 ≤ c) :
    Calls Try.prog 30 #[.slice (some ⟨g, 0, none⟩) n c, .int .i64 i, .slice (some ⟨g2, 0, none⟩) 1 1] w (InsEn (some ⟨g, 0, none⟩) ((cur.take (n * 3)).take (i * 3) ++ vs ++ (cur.take (n * 3)).drop (i * 3)) (n + 1) w) := by
  have hov : ∀ lb cb, (callFunc 37 #[.slice (some ⟨g2, 0, none⟩) 1 1, .slice (some ⟨g, (i + 1) * 3, none⟩) lb cb]).run Try.prog w = .ok (.value (.bool false)) w := fun lb cb => by
    rw [run_callFunc_extern Try.func37 (by kernel_rfl) (by kernel_rfl) (by kernel_rfl) (e := Extern.SlicesOverlaps.overlaps #[22, 22] #[4]) (by kernel_rfl),
      Lib.run_overlaps_apart w 22 4 27 Try.underlying22 3 Try.sizeOf27 ⟨g2, 0, none⟩ ⟨g, (i + 1) * 3, none⟩ 1 1 lb cb hne 27 27 vs.toArray.size cur.toArray.size (by unfold World.shape?; rw [hg2]) (by unfold World.shape?; rw [hg]) (by simp [hcl]; omega) (frozen_of_row w g2 0 _ _ hg2) (frozen_of_row w g2 _ _ _ hg2)]
    rfl
  have HG := Lib.hid hg
  have HG2 := Lib.hid hg2
  obtain ⟨xs, hxs⟩ : ∃ xs, xs = (cur.drop (i * 3)).take ((n - i) * 3) := ⟨_, rfl⟩
  have HXS := Lib.hid hxs
  have HFI := Lib.hid (show (((cur.take ((i + 1) * 3) ++ xs ++ cur.drop ((i + 1) * 3 + xs.length)).take (i * 3) ++ vs ++ (cur.take ((i + 1) * 3) ++ xs ++ cur.drop ((i + 1) * 3 + xs.length)).drop (i * 3 + vs.length))).take ((n + 1) * 3) = (cur.take (n * 3)).take (i * 3) ++ vs ++ (cur.take (n * 3)).drop (i * 3) from by rw [hxs]; exact list_room cur vs i n hi (by omega) hvl)
  have HXL := Lib.hid (show xs.length = (n - i) * 3 ∧ (∀ u ∈ xs, u.oneCell' = true) ∧ (i + 1) * 3 + xs.length ≤ cur.length from by
    have e1 : xs.length = (n - i) * 3 := by rw [hxs, List.length_take, List.length_drop]; omega
    refine ⟨e1, fun u hu => ?_, by omega⟩
    rw [hxs, show (n - i) * 3 = n * 3 - i * 3 by omega, ← List.drop_take] at hu
    exact hone u (List.mem_of_mem_drop hu))
  have HVL := Lib.hid (And.intro hvl h1)
  have HCL := Lib.hid (And.intro hcl hcm)
  have HSRC := Lib.hid (show ∀ (z : World), z.heap[g]? = some (.cells cur.toArray 27 (0, 0)) → ∀ j v, xs[j]? = some v → z.cell? ((⟨g, i * 3, none⟩ : Addr).add j) = some v from fun z hz j v hj => by
    rw [hxs, List.getElem?_take] at hj
    split at hj
    · rw [List.getElem?_drop] at hj
      rw [Addr.add_lit, cell_of_row _ _ _ _ _ _ hz, List.getElem?_toArray]
      exact hj
    · cases hj)
  have hni : ¬ ((i : Int) = (n : Int)) := by omega
  have hcn : ¬ ((c : Int) < (n : Int) + 1) := by omega
  clear hg hg2 hxs hone hvl h1 hcl hcm
  go_enter Try.func30, Try.ntmps30
  go_wp2_with (first
    | (refine wpList_sec rfl 22 (.tmp 10) (some (.tmp 11)) none none rfl Try.underlying22 infoEn3 (some ⟨g, 0, none⟩) n c i n c rfl (Bnd.at_ rfl) Bnd.no Bnd.no (by omega) (by omega) (by omega) (by simp) ?_; rw [secG (by omega)])
    | (refine wpList_sec rfl 22 (.tmp 56) none (some (.tmp 59)) none rfl Try.underlying22 infoEn3 (some ⟨g, 0, none⟩) n c 0 (n + 1) c rfl Bnd.no (Bnd.at_ rfl) Bnd.no (by omega) (by omega) (by omega) (by simp) ?_; rw [secA_zero, Nat.sub_zero, Nat.sub_zero])
    | (refine wpList_sec rfl 22 (.tmp 62) (some (.tmp 65)) none none rfl Try.underlying22 infoEn3 (some ⟨g, 0, none⟩) (n + 1) c (i + 1) (n + 1) c rfl (Bnd.at_ rfl) Bnd.no Bnd.no (by omega) (by omega) (by omega) (by simp) ?_; rw [secG (by omega)]))
  have fw : IntKind.i64.wrap ((i : Int) + 1) = (i : Int) + 1 := by rw [IntKind.wrap_i64]; omega
  refine seq_start (by kernel_rfl) (fun _ => True) 9 [0, 1, 2, 3, 4, 5, 6, 7, 8] rfl (trivial) (fun hS => ?_)
  refine seq_take (v := ?_) rfl (by kernel_rfl) (by kernel_rfl) (by kernel_rfl) (Or.inl ⟨by rfl, fun w' hSw => ?_⟩) (by assumption) ?_
  rotate_left
  · go_simp
    with_reducible rfl
  simp only [Act.put, List.setIfInBounds_toArray, List.set_cons_zero, List.set_cons_succ]
  refine seq_take (v := ?_) rfl (by kernel_rfl) (by kernel_rfl) (by kernel_rfl) (Or.inl ⟨by rfl, fun w' hSw => ?_⟩) (by assumption) ?_
  rotate_left
  · go_simp
    with_reducible rfl
  simp only [Act.put, List.setIfInBounds_toArray, List.set_cons_zero, List.set_cons_succ]
  refine seq_take (v := ?_) rfl (by kernel_rfl) (by kernel_rfl) (by kernel_rfl) (Or.inl ⟨by rfl, fun w' hSw => ?_⟩) (by assumption) ?_
  rotate_left
  · go_simp
    with_reducible rfl
  simp only [Act.put, List.setIfInBounds_toArray, List.set_cons_zero, List.set_cons_succ]
  refine seq_take (v := ?_) rfl (by kernel_rfl) (by kernel_rfl) (by kernel_rfl) (Or.inl ⟨by rfl, fun w' hSw => ?_⟩) (by assumption) ?_
  rotate_left
  · go_simp
    with_reducible rfl
  simp only [Act.put, List.setIfInBounds_toArray, List.set_cons_zero, List.set_cons_succ]
  refine seq_take (v := .slice (some ⟨g, (i + 1) * 3, none⟩) (n - i) (c - (i + 1))) rfl (by kernel_rfl) (by kernel_rfl) (by kernel_rfl) ?_ (by assumption) ?_
  · exact yieldsIf_sec (by rfl) 22 (.tmp 69) (some (.tmp 72)) none none (by rfl) Try.underlying22 infoEn3 (some ⟨g, 0, none⟩) (n + 1) c (i + 1) (n + 1) c (by rfl) (Bnd.at_ (k := .i64) (by show Value.int .i64 _ = _; (try simp only [fw]); rfl)) Bnd.no Bnd.no (by omega) (by omega) (by omega) (by simp) _ (by rw [secG (by omega), show n + 1 - (i + 1) = n - i by omega])
  simp only [Act.put, List.setIfInBounds_toArray, List.set_cons_zero, List.set_cons_succ]
  refine seq_take (v := ?_) rfl (by kernel_rfl) (by kernel_rfl) (by kernel_rfl) (Or.inl ⟨by rfl, fun w' hSw => ?_⟩) (by assumption) ?_
  rotate_left
  · go_simp
    with_reducible rfl
  simp only [Act.put, List.setIfInBounds_toArray, List.set_cons_zero, List.set_cons_succ]
  refine seq_take (v := ?_) rfl (by kernel_rfl) (by kernel_rfl) (by kernel_rfl) (Or.inl ⟨by rfl, fun w' hSw => ?_⟩) (by assumption) ?_
  rotate_left
  · go_simp
    with_reducible rfl
  simp only [Act.put, List.setIfInBounds_toArray, List.set_cons_zero, List.set_cons_succ]
  refine seq_take (v := .slice (some ⟨g, i * 3, none⟩) (n + 1 - i) (c - i)) rfl (by kernel_rfl) (by kernel_rfl) (by kernel_rfl) ?_ (by assumption) ?_
  · exact yieldsIf_sec (by rfl) 22 (.tmp 74) (some (.tmp 75)) none none (by rfl) Try.underlying22 infoEn3 (some ⟨g, 0, none⟩) (n + 1) c i (n + 1) c (by rfl) (Bnd.at_ (k := .i64) (by rfl)) Bnd.no Bnd.no (by omega) (by omega) (by omega) (by simp) _ (by rw [secG (by omega)])
  simp only [Act.put, List.setIfInBounds_toArray, List.set_cons_zero, List.set_cons_succ]
  refine seq_do rfl (by kernel_rfl) (by rfl) (fun K hK => ?_)
  refine op_copyN (.tmp 73) (.tmp 76) 22 22 27 3 rfl Try.underlying22 infoEn3 g ((i + 1) * 3) (n - i) (c - (i + 1)) rfl ⟨g, i * 3, none⟩ (n + 1 - i) (c - i) rfl cur 27 HG.out xs (by rw [HXL.out.1]; simp only [Nat.min_def]; split <;> omega) (HSRC.out _ HG.out) HXL.out.2.2 HXL.out.2.1 ?_
  intro w1 hg1 hk1
  have HG1 := Lib.hid hg1.out
  obtain ⟨c1, hc1⟩ : ∃ c1, c1 = cur.take ((i + 1) * 3) ++ xs ++ cur.drop ((i + 1) * 3 + xs.length) := ⟨_, rfl⟩
  rw [← hc1] at HG1 HFI
  have HC1 := Lib.hid (show c1.length = c * 3 from by
    rw [hc1]
    have := HXL.out.2.2
    simp only [List.length_append, List.length_take, List.length_drop]
    have := HCL.out.1
    omega)
  have HK1 := Lib.hid (show Keeps [g] w w1 from (Keeps.refl [g] w).drew.trans hk1 (fun t ht => .inl ht))
  have HV1 := Lib.hid (show w1.heap[g2]? = some (.cells vs.toArray 27 (0, 0)) from (hk1.block g2 (lt_of_block (w := w.drew) HG2.out) (by simpa using hne)).trans HG2.out)
  clear hg1 hk1 hc1
  refine hK.out (fun _ => True) _ _ (fun _ h => h) trivial (fun hS => ?_)
  refine seq_done (by kernel_rfl) ?_
  all_goals skip
  go_wp2_with (first
    | (refine wpList_sec rfl 22 (.tmp 78) (some (.tmp 79)) none none rfl Try.underlying22 infoEn3 (some ⟨g, 0, none⟩) (n + 1) c i (n + 1) c rfl (Bnd.at_ rfl) Bnd.no Bnd.no (by omega) (by omega) (by omega) (by simp) ?_; rw [secG (by omega)])
    | (refine wpList_copyN rfl (.tmp 80) (.tmp 81) 22 22 27 3 rfl Try.underlying22 infoEn3 g (i * 3) (n + 1 - i) (c - i) rfl ⟨g2, 0, none⟩ 1 1 rfl c1 27 HG1.out vs (by rw [HVL.out.1]; simp only [Nat.min_def]; split <;> omega) (fun j v hj => by rw [Addr.add_lit, Nat.zero_add, cell_of_row _ _ _ _ _ _ HV1.out, List.getElem?_toArray]; exact hj) (by rw [HVL.out.1, HC1.out]; omega) HVL.out.2 ?_; intro w2 hg2 hk2; have HG2' := Lib.hid hg2.out; have HK2 := Lib.hid hk2; clear hg2 hk2))
  go_ret
  have hl2 : (c1.take (i * 3) ++ vs ++ c1.drop (i * 3 + vs.length)).length = c * 3 := by
    rw [List.length_append, List.length_append, List.length_take, List.length_drop, HVL.out.1, HC1.out]
    omega
  refine ⟨some ⟨g, 0, none⟩, c, rfl, ⟨?_, .inr ⟨g, c, _, rfl, Nat.zero_le _, HG2'.out, by omega, HCL.out.2, by rw [List.size_toArray, hl2], ?_⟩⟩, ?_, fun a ha => .inl (by cases ha; simp [blk])⟩
  · rw [← HFI.out, List.length_take, hl2]; omega
  · exact HFI.out
  · exact (HK1.out.trans HK2.out (fun t ht => .inl ht)).mono (by simp [blk])
end Go.Proofs.Ytaedmafmflohiaa
