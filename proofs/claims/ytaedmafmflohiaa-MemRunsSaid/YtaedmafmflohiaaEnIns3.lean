/- slices.Insert at entries, inside a row that has no room: a contract. -/
import Derived.Test.YtaedmafmflohiaaEnIns2
import Derived.Lib.AppendZeros
namespace Go.Proofs.Ytaedmafmflohiaa
open Go.RowKit

theorem list_grow (row xs vs : List Value) (i n : Nat) (hi : i < n) (hx : xs.length = n * 3) (hr : (n + 1) * 3 ≤ row.length) (hrt : row.take (i * 3) = xs.take (i * 3)) (hv : vs.length = 3) :
    ((row.take (i * 3) ++ vs ++ row.drop (i * 3 + vs.length)).take ((i + 1) * 3) ++ xs.drop (i * 3) ++ (row.take (i * 3) ++ vs ++ row.drop (i * 3 + vs.length)).drop ((i + 1) * 3 + (xs.drop (i * 3)).length)).take ((n + 1) * 3) =
    xs.take (i * 3) ++ vs ++ xs.drop (i * 3) := by
  have hP : (row.take (i * 3) ++ vs).length = (i + 1) * 3 := by rw [List.length_append, List.length_take, hv]; omega
  have a1 : (row.take (i * 3) ++ vs ++ row.drop (i * 3 + vs.length)).take ((i + 1) * 3) = row.take (i * 3) ++ vs := List.take_left' hP
  have e1 : (xs.drop (i * 3)).length = (n - i) * 3 := by rw [List.length_drop]; omega
  rw [a1, List.take_left' (by rw [List.length_append, hP, e1]; omega), hrt]
theorem ins_grow (g c n i : Nat) (xs : List Value) (g2 : Nat) (vs : List Value) (w : World) (hg : ∀ j v, xs[j]? = some v → w.cell? ⟨g, j, none⟩ = some v) (hgl : g < w.heap.size) (hxl : xs.length = n * 3) (hone : ∀ u ∈ xs, u.oneCell' = true)
    (hg2 : w.heap[g2]? = some (.cells vs.toArray 27 (0, 0))) (hvl : vs.length = 3) (h1 : ∀ u ∈ vs, u.oneCell' = true) (hn : n ≤ 1000000000) (hi : i < n) (hc : n ≤ c) (hc2 : c < n + 1) :
    Calls Try.prog 30 #[.slice (some ⟨g, 0, none⟩) n c, .int .i64 i, .slice (some ⟨g2, 0, none⟩) 1 1] w (InsEn (some ⟨g, 0, none⟩) (xs.take (i * 3) ++ vs ++ xs.drop (i * 3)) (n + 1) w) := by
  obtain ⟨i0, hi0, hz0, hzs, hzb⟩ := info_parts infoEn
  obtain ⟨z, hz⟩ : ∃ z : Value, z = .agg #[.string ByteArray.empty, .string ByteArray.empty, .bool false] := ⟨_, rfl⟩
  rw [← hz] at hz0
  have hzl : z.cells.size = 3 := by rw [hz]; rfl
  have hg2l := lt_of_block hg2
  obtain ⟨G, hG⟩ : ∃ G, G = grownCap w (n + 1) c 27 := ⟨_, rfl⟩
  have hGn : n + 1 ≤ G := by rw [hG]; exact grownCap_ge w _ _ _
  have hGm : G ≤ maxLen := by rw [hG]; exact grownCap_le_maxLen w (n + 1) c 27 (by unfold maxLen; omega)
  obtain ⟨row, hrow⟩ : ∃ row : List Value, row = xs.take (i * 3) ++ (Builtin.zeroCells z.cells (n + 1 - i)).toList ++ (Builtin.zeroCells z.cells (G - (n + 1))).toList := ⟨_, rfl⟩
  have hrl : row.length = G * 3 := by
    rw [hrow]
    simp [Builtin.zeroCells, hzl, hxl]
    omega
  have hrt : row.take (i * 3) = xs.take (i * 3) := by
    rw [hrow, List.append_assoc, List.take_left' (by rw [List.length_take, hxl]; omega)]
  have hold : (Builtin.firstCells i0.size i (.slice (some ⟨g, 0, none⟩) i c)).run Try.prog w.drew = .ok (xs.take (i * 3)).toArray w.drew := by
    rw [hzs]
    exact run_firstCells_some w.drew 3 i ⟨g, 0, none⟩ i c (xs.take (i * 3)) (by rw [List.length_take]; omega) (fun j v hj => by
      rw [Addr.add_lit, Nat.zero_add]
      rw [List.getElem?_take] at hj
      split at hj
      · exact hg j v hj
      · cases hj)
  have hik : i + (n + 1 - i) = n + 1 := by omega
  have hrz : ∀ ty, (Builtin.append_ #[22, 3] ty #[.slice (some ⟨g, 0, none⟩) i c, .int .i64 ((n : Int) + 1 - (i : Int))]).run Try.prog w =
      .ok (.slice (some ⟨w.heap.size, 0, none⟩) (n + 1) G) (w.drew.alloc (.cells row.toArray 27)) := fun ty => by
    have h := Lib.run_append_grow_zeros (P := Try.prog) (ty := ty) w 22 3 27 i0 z .i64 .i64 Try.underlying22 Try.underlying3 hi0 hz0 (some ⟨g, 0, none⟩) i c (xs.take (i * 3)) hold (n + 1 - i) (by omega) (by omega) (by omega) (by omega) (by rw [hzb]; omega) (by rw [hzb, hik]; exact growslice_fits (by omega) (by omega))
    rw [hik, ← hG] at h
    rw [show (n : Int) + 1 - (i : Int) = ((n + 1 - i : Nat) : Int) by omega, h, hrow]
    have e : ((xs.take (i * 3)).toArray ++ Builtin.zeroCells z.cells (n + 1 - i) ++ Builtin.zeroCells z.cells (G - (n + 1))) = (xs.take (i * 3) ++ (Builtin.zeroCells z.cells (n + 1 - i)).toList ++ (Builtin.zeroCells z.cells (G - (n + 1))).toList).toArray := by
      apply Array.toList_inj.1
      simp
    rw [e]
  have HFI := Lib.hid (list_grow row xs vs i n hi hxl (by omega) hrt hvl)
  obtain ⟨N, hN⟩ : ∃ N, N = w.heap.size := ⟨_, rfl⟩
  obtain ⟨W1, hW1⟩ : ∃ W1, W1 = w.drew.alloc (.cells row.toArray 27) := ⟨_, rfl⟩
  have H1 := Lib.hid (show W1.heap[N]? = some (.cells row.toArray 27 (0, 0)) ∧ Keeps [] w W1 ∧ g ≠ N ∧ g2 ≠ N from by
    rw [hW1, hN]
    exact ⟨heap_alloc_new (w := w.drew) _, (Keeps.refl [] w).drew.alloc _, by omega, by omega⟩)
  rw [← hW1, ← hN] at hrz
  have HSRC := Lib.hid (show ∀ (z : World), Keeps [N] W1 z → ∀ j v, (xs.drop (i * 3))[j]? = some v → z.cell? ((⟨g, i * 3, none⟩ : Addr).add j) = some v from fun z hz j v hj => by
    rw [List.getElem?_drop] at hj
    rw [Addr.add_lit]
    exact hz.cell (H1.out.2.1.cell (hg _ _ hj) (by simp)) (by simpa using H1.out.2.2.1))
  have HV := Lib.hid (show W1.heap[g2]? = some (.cells vs.toArray 27 (0, 0)) from (H1.out.2.1.block g2 hg2l (by simp)).trans hg2)
  have HRL := Lib.hid (And.intro hrl (And.intro hGn hGm))
  have HVL := Lib.hid (And.intro hvl h1)
  have HXL := Lib.hid (show (xs.drop (i * 3)).length = (n - i) * 3 ∧ (∀ u ∈ xs.drop (i * 3), u.oneCell' = true) from ⟨by rw [List.length_drop]; omega, fun u hu => hone u (List.mem_of_mem_drop hu)⟩)
  have HN := Lib.hid hN
  have hGi : ¬ (G = i) := by omega
  have hGi1 : ¬ (G = i + 1) := by omega
  have hci : ¬ (c = i) := by omega
  have hcn : (c : Int) < (n : Int) + 1 := by omega
  have hni : ¬ ((i : Int) = (n : Int)) := by omega
  have hi3 : (i : Int) ≤ (n : Int) + 1 := by omega
  have hi4 : (i : Int) + 1 ≤ (n : Int) + 1 := by omega
  have fw : IntKind.i64.wrap ((i : Int) + 1) = (i : Int) + 1 := by rw [IntKind.wrap_i64]; omega
  clear hg hgl hone hg2 h1 hvl hxl hi0 hz0 hzs hzb hz hzl hg2l hG hrow hrl hrt hold hik hN hW1
  go_enter Try.func30, Try.ntmps30
  go_wp2_with (first
    | (refine wpList_sec rfl 22 (.tmp 10) (some (.tmp 11)) none none rfl Try.underlying22 infoEn3 (some ⟨g, 0, none⟩) n c i n c rfl (Bnd.at_ rfl) Bnd.no Bnd.no (by omega) (by omega) (by omega) (by simp) ?_; rw [secG (by omega)])
    | (at_builtin; refine Lib.wpList_append_run _ rfl _ _ _ _ rfl _ _ rfl rfl _ _ (hrz _) ?_)
    | (refine wpList_copyN rfl (.tmp 43) (.tmp 44) 22 22 27 3 rfl Try.underlying22 infoEn3 N (i * 3) (n + 1 - i) (G - i) rfl ⟨g2, 0, none⟩ 1 1 rfl row 27 H1.out.1 vs (by rw [HVL.out.1]; simp only [Nat.min_def]; split <;> omega) (fun j v hj => by rw [Addr.add_lit, Nat.zero_add, cell_of_row _ _ _ _ _ _ HV.out, List.getElem?_toArray]; exact hj) (by rw [HVL.out.1, HRL.out.1]; have := HRL.out.2.1; omega) HVL.out.2 ?_; intro w2 hg2' hk2; have HG2 := Lib.hid hg2'.out; have HK2 := Lib.hid hk2; clear hg2' hk2))
  try simp only [Act.put, List.setIfInBounds_toArray, List.set_cons_zero, List.set_cons_succ]
  obtain ⟨c1, hc1⟩ : ∃ c1, c1 = row.take (i * 3) ++ vs ++ row.drop (i * 3 + vs.length) := ⟨_, rfl⟩
  rw [← hc1] at HFI HG2
  have HC1 := Lib.hid (show c1.length = G * 3 from by
    rw [hc1]
    simp only [List.length_append, List.length_take, List.length_drop, HVL.out.1, HRL.out.1]
    have := HRL.out.2.1
    omega)
  clear hc1
  refine seq_start (by kernel_rfl) (fun _ => True) 9 [0, 1, 2, 3, 4, 5, 6, 7, 8] rfl (trivial) (fun hS => ?_)
  refine seq_take (v := ?_) rfl (by kernel_rfl) (by kernel_rfl) (by kernel_rfl) (Or.inl ⟨by rfl, fun w' hSw => ?_⟩) (by assumption) ?_
  rotate_left
  · go_simp
    with_reducible rfl
  simp only [Act.put, List.setIfInBounds_toArray, List.set_cons_zero, List.set_cons_succ]
  refine seq_take (v := ?_) rfl (by kernel_rfl) (by kernel_rfl) (by kernel_rfl) (Or.inl ⟨by rfl, fun w' hSw => ?_⟩) (by assumption) ?_
  rotate_left
  · go_simp
    with_reducible rfl
  simp only [Act.put, List.setIfInBounds_toArray, List.set_cons_zero, List.set_cons_succ]
  refine seq_take (v := ?_) rfl (by kernel_rfl) (by kernel_rfl) (by kernel_rfl) (Or.inl ⟨by rfl, fun w' hSw => ?_⟩) (by assumption) ?_
  rotate_left
  · go_simp
    with_reducible rfl
  simp only [Act.put, List.setIfInBounds_toArray, List.set_cons_zero, List.set_cons_succ]
  refine seq_take (v := ?_) rfl (by kernel_rfl) (by kernel_rfl) (by kernel_rfl) (Or.inl ⟨by rfl, fun w' hSw => ?_⟩) (by assumption) ?_
  rotate_left
  · go_simp
    with_reducible rfl
  simp only [Act.put, List.setIfInBounds_toArray, List.set_cons_zero, List.set_cons_succ]
  refine seq_take (v := .slice (some ⟨N, (i + 1) * 3, none⟩) (n - i) (G - (i + 1))) rfl (by kernel_rfl) (by kernel_rfl) (by kernel_rfl) ?_ (by assumption) ?_
  · exact yieldsIf_sec (by rfl) 22 (.tmp 46) (some (.tmp 49)) none none (by rfl) Try.underlying22 infoEn3 (some ⟨N, 0, none⟩) (n + 1) G (i + 1) (n + 1) G (by rfl) (Bnd.at_ (k := .i64) (by show Value.int .i64 _ = _; (try simp only [fw]); rfl)) Bnd.no Bnd.no (by omega) (by omega) (by omega) (by simp) _ (by rw [secG (by omega), show n + 1 - (i + 1) = n - i by omega])
  simp only [Act.put, List.setIfInBounds_toArray, List.set_cons_zero, List.set_cons_succ]
  refine seq_take (v := ?_) rfl (by kernel_rfl) (by kernel_rfl) (by kernel_rfl) (Or.inl ⟨by rfl, fun w' hSw => ?_⟩) (by assumption) ?_
  rotate_left
  · go_simp
    with_reducible rfl
  simp only [Act.put, List.setIfInBounds_toArray, List.set_cons_zero, List.set_cons_succ]
  refine seq_take (v := ?_) rfl (by kernel_rfl) (by kernel_rfl) (by kernel_rfl) (Or.inl ⟨by rfl, fun w' hSw => ?_⟩) (by assumption) ?_
  rotate_left
  · go_simp
    with_reducible rfl
  simp only [Act.put, List.setIfInBounds_toArray, List.set_cons_zero, List.set_cons_succ]
  refine seq_take (v := .slice (some ⟨g, i * 3, none⟩) (n - i) (c - i)) rfl (by kernel_rfl) (by kernel_rfl) (by kernel_rfl) ?_ (by assumption) ?_
  · exact yieldsIf_sec (by rfl) 22 (.tmp 51) (some (.tmp 52)) none none (by rfl) Try.underlying22 infoEn3 (some ⟨g, 0, none⟩) n c i n c (by rfl) (Bnd.at_ (k := .i64) (by rfl)) Bnd.no Bnd.no (by omega) (by omega) (by omega) (by simp) _ (by rw [secG (by omega)])
  simp only [Act.put, List.setIfInBounds_toArray, List.set_cons_zero, List.set_cons_succ]
  refine seq_do rfl (by kernel_rfl) (by rfl) (fun K hK => ?_)
  refine op_copyN (.tmp 50) (.tmp 53) 22 22 27 3 rfl Try.underlying22 infoEn3 N ((i + 1) * 3) (n - i) (G - (i + 1)) rfl ⟨g, i * 3, none⟩ (n - i) (c - i) rfl c1 27 HG2.out (xs.drop (i * 3)) (by rw [HXL.out.1]; simp only [Nat.min_def]; split <;> omega) (HSRC.out w2.drew HK2.out.drew) (by rw [HXL.out.1, HC1.out]; omega) HXL.out.2 ?_
  intro w3 hg3 hk3
  have HG3 := Lib.hid hg3.out
  have HK3 := Lib.hid (show Keeps [] w w3 from (H1.out.2.1.trans (HK2.out.drew.trans hk3 (fun t ht => .inl ht)) (fun t ht => .inr (by simp at ht; have := HN.out; omega))))
  clear hg3 hk3
  refine hK.out (fun _ => True) _ _ (fun _ h => h) trivial (fun hS => ?_)
  refine seq_done (by kernel_rfl) ?_
  all_goals skip
  go_wp2_with fail
  go_ret
  have hl2 : (c1.take ((i + 1) * 3) ++ xs.drop (i * 3) ++ c1.drop ((i + 1) * 3 + (xs.drop (i * 3)).length)).length = G * 3 := by
    rw [List.length_append, List.length_append, List.length_take, HXL.out.1, List.length_drop, HC1.out]
    omega
  refine ⟨some ⟨N, 0, none⟩, G, rfl, ⟨?_, .inr ⟨N, G, _, rfl, Nat.zero_le _, HG3.out, by omega, hGm, by rw [List.size_toArray, hl2], HFI.out⟩⟩, HK3.out.mono (by simp), fun a ha => .inr (by cases ha; have := HN.out; simp; omega)⟩
  rw [← HFI.out, List.length_take, hl2]; omega
end Go.Proofs.Ytaedmafmflohiaa
