/- slices.Insert at entries, inside a row that has no room: a contract. A region that draws its order and ends in a store (number z, which waits for all others): what is known of the world need not hold behind that store. No program is named here. The rows of entries of package mem: contracts. -/
import Derived.Test.YtaedmafmflohiaaQMergeNewest3
import Derived.Lib.AppendZeros
import Derived.Test.YtaedmafmflohiaaQMergeNewest1
namespace Go.Proofs.Ytaedmafmflohiaa
open Go.RowKit

theorem list_grow (row xs vs : List Value) (i n : Nat) (hi : i < n) (hx : xs.length = n * 3) (hr : (n + 1) * 3 ≤ row.length) (hrt : row.take (i * 3) = xs.take (i * 3)) (hv : vs.length = 3) :
    ((row.take (i * 3) ++ vs ++ row.drop (i * 3 + vs.length)).take ((i + 1) * 3) ++ xs.drop (i * 3) ++ (row.take (i * 3) ++ vs ++ row.drop (i * 3 + vs.length)).drop ((i + 1) * 3 + (xs.drop (i * 3)).length)).take ((n + 1) * 3) =
    xs.take (i * 3) ++ vs ++ xs.drop (i * 3) := by
  have hP : (row.take (i * 3) ++ vs).length = (i + 1) * 3 := by rw [List.length_append, List.length_take, hv]; omega
  have a1 : (row.take (i * 3) ++ vs ++ row.drop (i * 3 + vs.length)).take ((i + 1) * 3) = row.take (i * 3) ++ vs := List.take_left' hP
  have e1 : (xs.drop (i * 3)).length = (n - i) * 3 := by rw [List.length_drop]; omega
  rw [a1, List.take_left' (by rw [List.length_append, hP, e1]; omega), hrt]
theorem ins_grow (g c n i : Nat) (xs : List Value) (g2 : Nat) (vs : List Value) (w : World) (hg : ∀ j v, xs[j]? = some v → w.cell? ⟨g, j, none⟩ = some v) (hgl : g < w.heap.size) (hxl : xs.length = n * 3) (hone : ∀ u ∈ xs, u.oneCell' = true)
    (hg2 : w.heap[g2]? = some (.cells vs.toArray 27 (0, 0))) (hvl : vs.length = 3) (h1 : ∀ u ∈ vs, u.oneCell' = true) (hn : n ≤ 1000000000) (hi : i < n) (hc : n ≤ c) (hc2 : c < n + 1) :
    Calls Try.prog 30 #[.slice (some ⟨g, 0, none⟩) n c, .int .i64 i, .slice (some ⟨g2, 0, none⟩) 1 1] w (InsEn (some ⟨g, 0, none⟩) (xs.take (i * 3) ++ vs ++ xs.drop (i * 3)) (n + 1) w) := by
  obtain ⟨i0, hi0, hz0, hzs, hzb⟩ := info_parts infoEn
  obtain ⟨z, hz⟩ : ∃ z : Value, z = .agg #[.string ByteArray.empty, .string ByteArray.empty, .bool false] := ⟨_, rfl⟩
  rw [← hz] at hz0
  have hzl : z.cells.size = 3 := by rw [hz]; rfl
  have hg2l := lt_of_block hg2
  obtain ⟨G, hG⟩ : ∃ G, G = grownCap w (n + 1) c 27 := ⟨_, rfl⟩
  have hGn : n + 1 ≤ G := by rw [hG]; exact grownCap_ge w _ _ _
  have hGm : G ≤ maxLen := by rw [hG]; exact grownCap_le_maxLen w (n + 1) c 27 (by unfold maxLen; omega)
  obtain ⟨row, hrow⟩ : ∃ row : List Value, row = xs.take (i * 3) ++ (Builtin.zeroCells z.cells (n + 1 - i)).toList ++ (Builtin.zeroCells z.cells (G - (n + 1))).toList := ⟨_, rfl⟩
  have hrl : row.length = G * 3 := by
    rw [hrow]
    simp [Builtin.zeroCells, hzl, hxl]
    omega
  have hrt : row.take (i * 3) = xs.take (i * 3) := by
    rw [hrow, List.append_assoc, List.take_left' (by rw [List.length_take, hxl]; omega)]
  have hold : (Builtin.firstCells i0.size i (.slice (some ⟨g, 0, none⟩) i c)).run Try.prog w.drew = .ok (xs.take (i * 3)).toArray w.drew := by
    rw [hzs]
    exact run_firstCells_some w.drew 3 i ⟨g, 0, none⟩ i c (xs.take (i * 3)) (by rw [List.length_take]; omega) (fun j v hj => by
      rw [Addr.add_lit, Nat.zero_add]
      rw [List.getElem?_take] at hj
      split at hj
      · exact hg j v hj
      · cases hj)
  have hik : i + (n + 1 - i) = n + 1 := by omega
  have hrz : ∀ ty, (Builtin.append_ #[22, 3] ty #[.slice (some ⟨g, 0, none⟩) i c, .int .i64 ((n : Int) + 1 - (i : Int))]).run Try.prog w =
      .ok (.slice (some ⟨w.heap.size, 0, none⟩) (n + 1) G) (w.drew.alloc (.cells row.toArray 27)) := fun ty => by
    have h := Lib.run_append_grow_zeros (P := Try.prog) (ty := ty) w 22 3 27 i0 z .i64 .i64 Try.underlying22 Try.underlying3 hi0 hz0 (some ⟨g, 0, none⟩) i c (xs.take (i * 3)) hold (n + 1 - i) (by omega) (by omega) (by omega) (by omega) (by rw [hzb]; omega) (by rw [hzb, hik]; exact growslice_fits (by omega) (by omega))
    rw [hik, ← hG] at h
    rw [show (n : Int) + 1 - (i : Int) = ((n + 1 - i : Nat) : Int) by omega, h, hrow]
    have e : ((xs.take (i * 3)).toArray ++ Builtin.zeroCells z.cells (n + 1 - i) ++ Builtin.zeroCells z.cells (G - (n + 1))) = (xs.take (i * 3) ++ (Builtin.zeroCells z.cells (n + 1 - i)).toList ++ (Builtin.zeroCells z.cells (G - (n + 1))).toList).toArray := by
      apply Array.toList_inj.1
      simp
    rw [e]
  have HFI := Lib.hid (list_grow row xs vs i n hi hxl (by omega) hrt hvl)
  obtain ⟨N, hN⟩ : ∃ N, N = w.heap.size := ⟨_, rfl⟩
  obtain ⟨W1, hW1⟩ : ∃ W1, W1 = w.drew.alloc (.cells row.toArray 27) := ⟨_, rfl⟩
  have H1 := Lib.hid (show W1.heap[N]? = some (.cells row.toArray 27 (0, 0)) ∧ Keeps [] w W1 ∧ g ≠ N ∧ g2 ≠ N from by
    rw [hW1, hN]
    exact ⟨heap_alloc_new (w := w.drew) _, (Keeps.refl [] w).drew.alloc _, by omega, by omega⟩)
  rw [← hW1, ← hN] at hrz
  have HSRC := Lib.hid (show ∀ (z : World), Keeps [N] W1 z → ∀ j v, (xs.drop (i * 3))[j]? = some v → z.cell? ((⟨g, i * 3, none⟩ : Addr).add j) = some v from fun z hz j v hj => by
    rw [List.getElem?_drop] at hj
    rw [Addr.add_lit]
    exact hz.cell (H1.out.2.1.cell (hg _ _ hj) (by simp)) (by simpa using H1.out.2.2.1))
  have HV := Lib.hid (show W1.heap[g2]? = some (.cells vs.toArray 27 (0, 0)) from (H1.out.2.1.block g2 hg2l (by simp)).trans hg2)
  have HRL := Lib.hid (And.intro hrl (And.intro hGn hGm))
  have HVL := Lib.hid (And.intro hvl h1)
  have HXL := Lib.hid (show (xs.drop (i * 3)).length = (n - i) * 3 ∧ (∀ u ∈ xs.drop (i * 3), u.oneCell' = true) from ⟨by rw [List.length_drop]; omega, fun u hu => hone u (List.mem_of_mem_drop hu)⟩)
  have HN := Lib.hid hN
  have hGi : ¬ (G = i) := by omega
  have hGi1 : ¬ (G = i + 1) := by omega
  have hci : ¬ (c = i) := by omega
  have hcn : (c : Int) < (n : Int) + 1 := by omega
  have hni : ¬ ((i : Int) = (n : Int)) := by omega
  have hi3 : (i : Int) ≤ (n : Int) + 1 := by omega
  have hi4 : (i : Int) + 1 ≤ (n : Int) + 1 := by omega
  have fw : IntKind.i64.wrap ((i : Int) + 1) = (i : Int) + 1 := by rw [IntKind.wrap_i64]; omega
  clear hg hgl hone hg2 h1 hvl hxl hi0 hz0 hzs hzb hz hzl hg2l hG hrow hrl hrt hold hik hN hW1
  go_enter Try.func30, Try.ntmps30
  go_wp2_with (first
    | (refine wpList_sec rfl 22 (.tmp 10) (some (.tmp 11)) none none rfl Try.underlying22 infoEn3 (some ⟨g, 0, none⟩) n c i n c rfl (Bnd.at_ rfl) Bnd.no Bnd.no (by omega) (by omega) (by omega) (by simp) ?_; rw [secG (by omega)])
    | (at_builtin; refine Lib.wpList_append_run _ rfl _ _ _ _ rfl _ _ rfl rfl _ _ (hrz _) ?_)
    | (refine wpList_copyN rfl (.tmp 43) (.tmp 44) 22 22 27 3 rfl Try.underlying22 infoEn3 N (i * 3) (n + 1 - i) (G - i) rfl ⟨g2, 0, none⟩ 1 1 rfl row 27 H1.out.1 vs (by rw [HVL.out.1]; simp only [Nat.min_def]; split <;> omega) (fun j v hj => by rw [Addr.add_lit, Nat.zero_add, cell_of_row _ _ _ _ _ _ HV.out, List.getElem?_toArray]; exact hj) (by rw [HVL.out.1, HRL.out.1]; have := HRL.out.2.1; omega) HVL.out.2 ?_; intro w2 hg2' hk2; have HG2 := Lib.hid hg2'.out; have HK2 := Lib.hid hk2; clear hg2' hk2))
  try simp only [Act.put, List.setIfInBounds_toArray, List.set_cons_zero, List.set_cons_succ]
  obtain ⟨c1, hc1⟩ : ∃ c1, c1 = row.take (i * 3) ++ vs ++ row.drop (i * 3 + vs.length) := ⟨_, rfl⟩
  rw [← hc1] at HFI HG2
  have HC1 := Lib.hid (show c1.length = G * 3 from by
    rw [hc1]
    simp only [List.length_append, List.length_take, List.length_drop, HVL.out.1, HRL.out.1]
    have := HRL.out.2.1
    omega)
  clear hc1
  refine seq_start (by kernel_rfl) (fun _ => True) 9 [0, 1, 2, 3, 4, 5, 6, 7, 8] rfl (trivial) (fun hS => ?_)
  refine seq_take (v := ?_) rfl (by kernel_rfl) (by kernel_rfl) (by kernel_rfl) (Or.inl ⟨by rfl, fun w' hSw => ?_⟩) (by assumption) ?_
  rotate_left
  · go_simp
    with_reducible rfl
  simp only [Act.put, List.setIfInBounds_toArray, List.set_cons_zero, List.set_cons_succ]
  refine seq_take (v := ?_) rfl (by kernel_rfl) (by kernel_rfl) (by kernel_rfl) (Or.inl ⟨by rfl, fun w' hSw => ?_⟩) (by assumption) ?_
  rotate_left
  · go_simp
    with_reducible rfl
  simp only [Act.put, List.setIfInBounds_toArray, List.set_cons_zero, List.set_cons_succ]
  refine seq_take (v := ?_) rfl (by kernel_rfl) (by kernel_rfl) (by kernel_rfl) (Or.inl ⟨by rfl, fun w' hSw => ?_⟩) (by assumption) ?_
  rotate_left
  · go_simp
    with_reducible rfl
  simp only [Act.put, List.setIfInBounds_toArray, List.set_cons_zero, List.set_cons_succ]
  refine seq_take (v := ?_) rfl (by kernel_rfl) (by kernel_rfl) (by kernel_rfl) (Or.inl ⟨by rfl, fun w' hSw => ?_⟩) (by assumption) ?_
  rotate_left
  · go_simp
    with_reducible rfl
  simp only [Act.put, List.setIfInBounds_toArray, List.set_cons_zero, List.set_cons_succ]
  refine seq_take (v := .slice (some ⟨N, (i + 1) * 3, none⟩) (n - i) (G - (i + 1))) rfl (by kernel_rfl) (by kernel_rfl) (by kernel_rfl) ?_ (by assumption) ?_
  · exact yieldsIf_sec (by rfl) 22 (.tmp 46) (some (.tmp 49)) none none (by rfl) Try.underlying22 infoEn3 (some ⟨N, 0, none⟩) (n + 1) G (i + 1) (n + 1) G (by rfl) (Bnd.at_ (k := .i64) (by show Value.int .i64 _ = _; (try simp only [fw]); rfl)) Bnd.no Bnd.no (by omega) (by omega) (by omega) (by simp) _ (by rw [secG (by omega), show n + 1 - (i + 1) = n - i by omega])
  simp only [Act.put, List.setIfInBounds_toArray, List.set_cons_zero, List.set_cons_succ]
  refine seq_take (v := ?_) rfl (by kernel_rfl) (by kernel_rfl) (by kernel_rfl) (Or.inl ⟨by rfl, fun w' hSw => ?_⟩) (by assumption) ?_
  rotate_left
  · go_simp
    with_reducible rfl
  simp only [Act.put, List.setIfInBounds_toArray, List.set_cons_zero, List.set_cons_succ]
  refine seq_take (v := ?_) rfl (by kernel_rfl) (by kernel_rfl) (by kernel_rfl) (Or.inl ⟨by rfl, fun w' hSw => ?_⟩) (by assumption) ?_
  rotate_left
  · go_simp
    with_reducible rfl
  simp only [Act.put, List.setIfInBounds_toArray, List.set_cons_zero, List.set_cons_succ]
  refine seq_take (v := .slice (some ⟨g, i * 3, none⟩) (n - i) (c - i)) rfl (by kernel_rfl) (by kernel_rfl) (by kernel_rfl) ?_ (by assumption) ?_
  · exact yieldsIf_sec (by rfl) 22 (.tmp 51) (some (.tmp 52)) none none (by rfl) Try.underlying22 infoEn3 (some ⟨g, 0, none⟩) n c i n c (by rfl) (Bnd.at_ (k := .i64) (by rfl)) Bnd.no Bnd.no (by omega) (by omega) (by omega) (by simp) _ (by rw [secG (by omega)])
  simp only [Act.put, List.setIfInBounds_toArray, List.set_cons_zero, List.set_cons_succ]
  refine seq_do rfl (by kernel_rfl) (by rfl) (fun K hK => ?_)
  refine op_copyN (.tmp 50) (.tmp 53) 22 22 27 3 rfl Try.underlying22 infoEn3 N ((i + 1) * 3) (n - i) (G - (i + 1)) rfl ⟨g, i * 3, none⟩ (n - i) (c - i) rfl c1 27 HG2.out (xs.drop (i * 3)) (by rw [HXL.out.1]; simp only [Nat.min_def]; split <;> omega) (HSRC.out w2.drew HK2.out.drew) (by rw [HXL.out.1, HC1.out]; omega) HXL.out.2 ?_
  intro w3 hg3 hk3
  have HG3 := Lib.hid hg3.out
  have HK3 := Lib.hid (show Keeps [] w w3 from (H1.out.2.1.trans (HK2.out.drew.trans hk3 (fun t ht => .inl ht)) (fun t ht => .inr (by simp at ht; have := HN.out; omega))))
  clear hg3 hk3
  refine hK.out (fun _ => True) _ _ (fun _ h => h) trivial (fun hS => ?_)
  refine seq_done (by kernel_rfl) ?_
  all_goals skip
  go_wp2_with fail
  go_ret
  have hl2 : (c1.take ((i + 1) * 3) ++ xs.drop (i * 3) ++ c1.drop ((i + 1) * 3 + (xs.drop (i * 3)).length)).length = G * 3 := by
    rw [List.length_append, List.length_append, List.length_take, HXL.out.1, List.length_drop, HC1.out]
    omega
  refine ⟨some ⟨N, 0, none⟩, G, rfl, ⟨?_, .inr ⟨N, G, _, rfl, Nat.zero_le _, HG3.out, by omega, hGm, by rw [List.size_toArray, hl2], HFI.out⟩⟩, HK3.out.mono (by simp), fun a ha => .inr (by cases ha; have := HN.out; simp; omega)⟩
  rw [← HFI.out, List.length_take, hl2]; omega
end Go.Proofs.Ytaedmafmflohiaa
namespace Go.Proofs.Ytaedmafmflohiaa
open Go.RowKit

section
variable {P : Program} {L : List Oper} {Q : Exit → Act → World → Prop} {md : Region.Mode} {S : World → Prop} {z : Nat}

/-- Whatever comes up; behind each one but number z, S holds. -/
def anyZ (P : Program) (md : Region.Mode) (ops : Array Oper) (Q : Exit → Act → World → Prop) (S : World → Prop) (z : Nat) : Nat → Array Bool → Act → World → Prop
  | 0, done, a, w => Region.ready md ops done = [] ∧ Q .normal a w
  | n + 1, done, a, w => (Region.ready md ops done = [] → Q .normal a w) ∧
      ∀ j ∈ Region.ready md ops done, wpOp P ops Q j (fun a' w' => (j ≠ z → S w') ∧ anyZ P md ops Q S z n (done.setIfInBounds j true) a' w') a w
theorem anyZ_any {ops : Array Oper} : ∀ (n : Nat) (done : Array Bool) (a : Act) (w : World), anyZ P md ops Q S z n done a w → wpAny P md ops Q n done a w
  | 0, _, _, _, k => k
  | n + 1, _, _, _, k => ⟨k.1, fun j hj => wpOp_mono (fun _ _ k' => anyZ_any n _ _ _ k'.2) (k.2 j hj)⟩
/-- Number z waits for number i, or for what waits for it, and so on. -/
def reachB (md : Region.Mode) (ops : Array Oper) : Nat → Nat → Nat → Bool
  | 0, _, _ => false
  | n + 1, z, i => match ops[z]? with
    | some o => o.after.any fun e => Region.binds md e && (e.on == i || reachB md ops n e.on i)
    | none => false
/-- What is done has all done that it waits for. -/
def ShutB (md : Region.Mode) (ops : Array Oper) (done : Array Bool) : Prop := ∀ m om, ops[m]? = some om → done.getD m false = true → ∀ e ∈ om.after, Region.binds md e = true → done.getD e.on false = true
def shutB (md : Region.Mode) (ops : Array Oper) (done : Array Bool) : Bool := (List.range ops.size).all fun m => !done.getD m false || match ops[m]? with | some om => om.after.all fun e => !Region.binds md e || done.getD e.on false | none => true
theorem ShutB.of {md : Region.Mode} {ops : Array Oper} {done : Array Bool} (h : shutB md ops done = true) : ShutB md ops done := by
  intro m om hm hd e he hb
  have hlt := (Array.getElem?_eq_some_iff.1 hm).1
  have h1 := List.all_eq_true.1 h m (List.mem_range.2 hlt)
  rw [hm, hd] at h1
  simp only [Bool.not_true, Bool.false_or] at h1
  have h2 := Array.all_eq_true_iff_forall_mem.1 h1 e he
  rw [hb] at h2
  simpa using h2
theorem ShutB.set {md : Region.Mode} {ops : Array Oper} {done : Array Bool} (h : ShutB md ops done) {j : Nat} (hj : j ∈ Region.ready md ops done) : ShutB md ops (done.setIfInBounds j true) := by
  have up : ∀ k, done.getD k false = true → (done.setIfInBounds j true).getD k false = true := by
    intro k hk
    by_cases hkj : j = k
    · subst hkj
      by_cases hlt : j < done.size
      · simp [hlt]
      · simp [Array.getElem?_eq_none (Nat.le_of_not_lt hlt)] at hk
    · rw [getD_set_ne false hkj]; exact hk
  intro m om hm hd e he hb
  obtain ⟨_, oj, hoj, hall⟩ := mem_ready.1 hj
  by_cases hmj : j = m
  · subst hmj
    rw [hoj] at hm
    obtain rfl := Option.some.inj hm
    exact up _ (hall e he hb)
  · rw [getD_set_ne false hmj] at hd
    exact up _ (h m om hm hd e he hb)
theorem reach_done {md : Region.Mode} {ops : Array Oper} {done : Array Bool} (hs : ShutB md ops done) {i : Nat} : ∀ n z, reachB md ops n z i = true → (∀ oz, ops[z]? = some oz → ∀ e ∈ oz.after, Region.binds md e = true → done.getD e.on false = true) → done.getD i false = true
  | 0, z, h, _ => by simp [reachB] at h
  | n + 1, z, h, hp => by
    unfold reachB at h
    split at h
    · rename_i o ho
      simp only [Array.any_eq_true', Bool.and_eq_true, Bool.or_eq_true, beq_iff_eq] at h
      obtain ⟨e, he, hb, h | h⟩ := h
      · rw [← h]; exact hp o ho e he hb
      · exact reach_done hs n e.on h (fun oz hoz e' he' hb' => hs e.on oz hoz (hp o ho e he hb) e' he' hb')
    · cases h
theorem not_ready {md : Region.Mode} {ops : Array Oper} {done : Array Bool} (hs : ShutB md ops done) {n z i : Nat} (h : reachB md ops n z i = true) (hi : i ∈ Region.ready md ops done) : z ∉ Region.ready md ops done := by
  intro hz
  obtain ⟨_, oz, hoz, hall⟩ := mem_ready.1 hz
  have h1 := reach_done hs n z h (fun o ho e he hb => by rw [hoz] at ho; obtain rfl := Option.some.inj ho; exact hall e he hb)
  have h0 := (mem_ready.1 hi).1
  by_cases hlt : i < done.size
  · simp [hlt] at h0 h1; rw [h0] at h1; cases h1
  · simp [Array.getElem?_eq_none (Nat.le_of_not_lt hlt)] at h1

theorem anyZ_first {ops : Array Oper} {i : Nat} {o : Oper} {v : Value} (hi : ops[i]? = some o) (hsel : ∀ (j : Nat) (o' : Oper) cs b, ops[j]? = some o' → o'.op ≠ .select cs b)
    (hQ : ∀ c a w, Q (.panic c) (a.put o.dst v) w → Q (.panic c) a w) {f : Nat} (hz : reachB md ops f z i = true) (hzi : i ≠ z) (n : Nat) :
    ∀ (done : Array Bool) (a : Act) (w : World), ShutB md ops done →
      (∀ j oj, ops[j]? = some oj → j ≠ i → done.getD j true = false → (∀ e ∈ oj.after, Region.binds md e = true → e.on ≠ i) → o.apart ops oj = true) →
      i ∈ Region.ready md ops done → YieldsIf P ops S o v a → S w →
      anyZ P md ops Q S z n (done.setIfInBounds i true) (a.put o.dst v) w → anyZ P md ops Q S z (n + 1) done a w := by
  have free : ∀ (done : Array Bool) (j : Nat), i ∈ Region.ready md ops done → j ∈ Region.ready md ops done → j ≠ i →
      ∃ oj, ops[j]? = some oj ∧ done.getD j true = false ∧ (∀ e ∈ oj.after, Region.binds md e = true → e.on ≠ i) := by
    intro done j hr hj _
    obtain ⟨hun, oj, hoj, hall⟩ := mem_ready.1 hj
    refine ⟨oj, hoj, hun, fun e he hb heq => ?_⟩
    have h1 := hall e he hb
    have h0 := (mem_ready.1 hr).1
    rw [heq] at h1
    by_cases hlt : i < done.size
    · simp [hlt] at h0 h1; rw [h0] at h1; cases h1
    · simp [Array.getElem?_eq_none (Nat.le_of_not_lt hlt)] at h1
  induction n with
  | zero =>
    intro done a w _ _ hr hy hS k
    refine ⟨fun h => by rw [h] at hr; simp at hr, fun j hj => ?_⟩
    by_cases hji : j = i
    · subst hji; exact hy.wpOp hi hS ⟨fun _ => hS, k⟩
    · have := ready_mono hj hji
      rw [k.1] at this
      simp at this
  | succ n ih =>
    intro done a w hsh hf hr hy hS k
    refine ⟨fun h => by rw [h] at hr; simp at hr, fun j hj => ?_⟩
    by_cases hji : j = i
    · subst hji; exact hy.wpOp hi hS ⟨fun _ => hS, k⟩
    · obtain ⟨oj, hoj, hun, hno⟩ := free done j hr hj hji
      have hjz : j ≠ z := fun e => not_ready hsh hz hr (e ▸ hj)
      have k1 := wpOp_putIf hoj (hf j oj hoj hji hun hno) (fun cs b => hsel i o cs b hi) (fun cs b => hsel j oj cs b hoj) hQ hy (k.2 j (ready_mono hj hji))
      refine wpOp_mono (fun a' w' k2 => ⟨k2.2.1, ih _ a' w' (hsh.set hj) ?_ (ready_mono hr (Ne.symm hji)) k2.1 (k2.2.1 hjz) (by rw [Array.setIfInBounds_comm _ _ hji]; exact k2.2.2)⟩) k1
      intro m om hm hmi hmu hmn
      refine hf m om hm hmi ?_ hmn
      by_cases hjm : j = m
      · subst hjm; exact hun
      · rwa [getD_set_ne true hjm] at hmu

theorem seqz_start {id : Nat} {a : Act} {w : World} (hm : P.follows .mixedOrders = true) (S : World → Prop) (z n : Nat) (is : List Nat) (hn : L.toArray.size = n) (hS : S w.drew)
    (h : S w.drew → Seq is L (anyZ P .any L.toArray (NoPanic Q) S z n (Array.replicate n false) a w.drew)) : (Code.region id L.toArray true).wp P Q a w :=
  wp_region_noPanic (wp_region_any hm (anyZ_any _ _ _ _ (by rw [hn]; exact h hS)))
theorem seqz_take {i : Nat} {is : List Nat} {l : List Oper} {oi : Oper} {v : Value} {fuel : Nat} {listed : Array Bool} {a : Act} {w : World} (hi : L.toArray[i]? = some oi)
    (hs : Region.noSelect L.toArray = true) (hf : Region.free md L.toArray listed i = true) (hr : (Region.ready md L.toArray listed).contains i = true) (hsh : shutB md L.toArray listed = true) (hz : reachB md L.toArray 40 z i = true) (hzi : i ≠ z)
    (hy : YieldsIf P L.toArray S oi v a) (hS : S w)
    (h : Seq is l (anyZ P md L.toArray (NoPanic Q) S z fuel (listed.setIfInBounds i true) (a.put oi.dst v) w)) : Seq (i :: is) (oi :: l) (anyZ P md L.toArray (NoPanic Q) S z (fuel + 1) listed a w) :=
  anyZ_first hi (Region.noSelect_spec hs) (fun _ _ _ h => h) hz hzi fuel listed a w (ShutB.of hsh) (Region.free_spec hi hf) (by simpa using hr) hy hS h
theorem anyZ_mono {S' : World → Prop} {ops : Array Oper} (h : ∀ x, S' x → S x) : ∀ (fuel : Nat) (listed : Array Bool) (a : Act) (w : World), anyZ P md ops Q S' z fuel listed a w → anyZ P md ops Q S z fuel listed a w
  | 0, _, _, _, k => k
  | fuel + 1, _, _, _, k => ⟨k.1, fun i hi => wpOp_mono (fun a' w' k' => ⟨fun hz => h _ (k'.1 hz), anyZ_mono h fuel _ a' w' k'.2⟩) (k.2 i hi)⟩
/-- A call that comes up alone. -/
theorem seqz_do {i : Nat} {is : List Nat} {l : List Oper} {oi : Oper} {fuel : Nat} {listed : Array Bool} {a : Act} {w : World} (hi : L.toArray[i]? = some oi) (hr : Region.ready md L.toArray listed = [i])
    (hw : Region.wanted oi (yielded L.toArray a.tmps) = true)
    (h : ∀ K : Act → World → Prop, Hid (∀ (S' : World → Prop) (a' : Act) (w' : World), (∀ x, S' x → S x) → S' w' → (S' w' → Seq is l (anyZ P md L.toArray (NoPanic Q) S' z fuel (listed.setIfInBounds i true) a' w')) → K a' w') → oi.wp P a w K (NoPanic Q)) :
    Seq (i :: is) (oi :: l) (anyZ P md L.toArray (NoPanic Q) S z (fuel + 1) listed a w) := by
  refine ⟨fun h0 => by rw [hr] at h0; simp at h0, fun j hj => ?_⟩
  rw [hr] at hj
  obtain rfl : j = i := by simpa using hj
  unfold wpOp
  simp only [hi, hw, if_true]
  exact .inl (h _ (fun S' a' w' h1 h2 h3 => ⟨fun _ => h1 _ h2, anyZ_mono h1 _ _ _ _ (h3 h2)⟩))
/-- The store, last of all. -/
theorem seqz_last {oi : Oper} {fuel : Nat} {listed : Array Bool} {a : Act} {w : World} (hi : L.toArray[z]? = some oi) (hr : Region.ready md L.toArray listed = [z])
    (hw : Region.wanted oi (yielded L.toArray a.tmps) = true) (hd : Region.ready md L.toArray (listed.setIfInBounds z true) = [])
    (h : oi.wp P a w (fun a' w' => Q .normal a' w') (NoPanic Q)) :
    Seq [z] [oi] (anyZ P md L.toArray (NoPanic Q) S z (fuel + 1) listed a w) := by
  refine ⟨fun h0 => by rw [hr] at h0; simp at h0, fun j hj => ?_⟩
  rw [hr] at hj
  obtain rfl : j = z := by simpa using hj
  unfold wpOp
  simp only [hi, hw, if_true]
  refine .inl (Oper.wp_mono (fun a' w' k => ⟨fun hne => absurd rfl hne, ?_⟩) h)
  cases fuel with
  | zero => exact ⟨hd, NoPanic.normal k⟩
  | succ m => exact ⟨fun _ => NoPanic.normal k, by rw [hd]; simp⟩
end
end Go.Proofs.Ytaedmafmflohiaa
namespace Go.Proofs.Ytaedmafmflohiaa
open Go.RowKit

theorem ins_list (l : List En) (i : Nat) (e : En) : (encEn l).take (i * 3) ++ e.cells ++ (encEn l).drop (i * 3) = encEn (l.take i ++ e :: l.drop i) := by
  rw [Nat.mul_comm i 3, encEn_take, encEn_drop, encEn_append, encEn_cons, List.append_assoc]
theorem cells_one (e : En) : ∀ u ∈ e.cells, u.oneCell' = true := by
  intro u hu
  simp [En.cells] at hu
  rcases hu with rfl | rfl | rfl <;> rfl
theorem insert_en (A : Option Addr) (c : Nat) (l : List En) (i : Nat) (e : En) (g2 : Nat) (w : World) (ho : w.ownsRow 0 27 3 (.slice A l.length c) l.length (encEn l)) (hg2 : w.heap[g2]? = some (.cells e.cells.toArray 27 (0, 0)))
    (hne : ∀ a, A = some a → a.block ≠ g2) (hi : i ≤ l.length) (hl : l.length ≤ 1000000000) :
    Calls Try.prog 30 #[.slice A l.length c, .int .i64 i, .slice (some ⟨g2, 0, none⟩) 1 1] w (InsEn A (encEn (l.take i ++ e :: l.drop i)) (l.length + 1) w) := by
  have hlen := encEn_len l
  rcases Nat.lt_or_ge i l.length with h | h
  · obtain ⟨hxs, h2⟩ := ho
    rcases h2 with ⟨_, h0⟩ | ⟨g, cap, cur, hv, hb, hh, hnc, hcm, hcs, htk⟩
    · omega
    · obtain ⟨rfl, rfl⟩ : A = some ⟨g, 0, none⟩ ∧ c = cap := by injection hv with e1 e2 e3; exact ⟨e1, e3⟩
      obtain ⟨cl, hcl⟩ : ∃ cl : List Value, cl = cur.toList := ⟨_, rfl⟩
      have hh' : w.heap[g]? = some (.cells cl.toArray 27 (0, 0)) := by rw [hcl]; simpa using hh
      rw [← hcl] at htk
      have hcl2 : cl.length = c * 3 := by rw [hcl]; simpa using hcs
      rw [← ins_list, ← htk]
      rcases Nat.lt_or_ge c (l.length + 1) with hroom | hroom
      · refine ins_grow g c l.length i _ g2 e.cells w (fun j v hj => ?_) (lt_of_block hh') (by rw [htk]; omega) (by rw [htk]; exact encEn_one l) hg2 rfl (cells_one e) hl h hnc hroom
        rw [List.getElem?_take] at hj
        split at hj
        · rw [cell_of_row _ _ _ _ _ _ hh', List.getElem?_toArray]; exact hj
        · cases hj
      · exact ins_room g c l.length i cl g2 e.cells w hh' hcl2 hcm (by rw [htk]; exact encEn_one l) hg2 (fun e' => hne _ rfl e'.symm) rfl (cells_one e) hl h hroom
  · have hil : i = l.length := by omega
    subst hil
    have hnc : l.length ≤ c := by
      rcases ho.2 with ⟨h1, h0⟩ | ⟨g, cap, cur, hv, hb, hh, hnc, _⟩
      · omega
      · injection hv with e1 e2 e3; omega
    have := ins_end A c l.length (encEn l) g2 e.cells w ho ⟨by simp, fun _ => ⟨_, rfl, fun j u hu => by rw [Addr.add_lit, Nat.zero_add, cell_of_row _ _ _ _ _ _ hg2, List.getElem?_toArray]; exact hu⟩⟩ (cells_one e) hl hnc
    rw [List.take_length, List.drop_length, encEn_append, encEn_cons]
    simpa [encEn] using this
/-- A Mem: its block, its row. -/
def MemS (w : World) (g : Nat) (A : Option Addr) (c : Nat) (l : List En) : Prop :=
  w.heap[g]? = some (.cells #[.slice A l.length c, .int .i64 (sizeE l : Nat)] 50 (0, 0)) ∧ w.ownsRow 0 27 3 (.slice A l.length c) l.length (encEn l) ∧ (∀ a, A = some a → a.block ≠ g)
theorem MemS.keeps {S : List Nat} {w w' : World} {g : Nat} {A : Option Addr} {c : Nat} {l : List En} (h : MemS w g A c l) (hk : Keeps S w w') (hg : g ∉ S) (hA : ∀ a, A = some a → a.block ∉ S) : MemS w' g A c l :=
  ⟨(hk.block g (lt_of_block h.1) hg).trans h.1, ownsRow_keeps h.2.1 hk hA, h.2.2⟩
theorem MemS.keeps0 {w w' : World} {g : Nat} {A : Option Addr} {c : Nat} {l : List En} (h : MemS w g A c l) (hk : Keeps [] w w') : MemS w' g A c l := h.keeps hk (by simp) (fun _ _ => by simp)
theorem MemS.cells {w : World} {g : Nat} {A : Option Addr} {c : Nat} {l : List En} (h : MemS w g A c l) : w.cell? ⟨g, 0, none⟩ = some (.slice A l.length c) ∧ w.cell? ⟨g, 1, none⟩ = some (.int .i64 (sizeE l : Nat)) := by
  constructor <;> (rw [cell_of_row _ _ _ _ _ _ h.1]; rfl)
theorem MemS.rd {w : World} {g : Nat} {A : Option Addr} {c : Nat} {l : List En} (h : MemS w g A c l) : Rd w A l.length 3 (encEn l) := Rd.of_own h.2.1
/-- Texts are not longer than any that can be. -/
def EnOk (l : List En) : Prop := ∀ e ∈ l, e.k.length ≤ 140737488351232 ∧ e.v.length ≤ 140737488351232
theorem sizeE_le {l : List En} (h : EnOk l) : sizeE l ≤ l.length * 281474976702464 := by
  induction l with
  | nil => simp [sizeE]
  | cons e l ih =>
    have h1 := h e (by simp)
    have h2 := ih (fun x hx => h x (by simp [hx]))
    rw [sizeE_cons, List.length_cons, Nat.add_mul]
    unfold wE
    omega
theorem mnew_any (w : World) : Calls Try.prog 8 #[] w fun e w' => ∃ g, e = .returned (.pointer (some ⟨g, 0, none⟩)) ∧ MemS w' g none 0 [] ∧ Keeps [] w w' ∧ w.heap.size ≤ g := by
  go_enter Try.func8, Try.ntmps8
  go_wp2_with fail
  go_ret
  exact ⟨w.heap.size, rfl, ⟨heap_alloc_new _ _, World.ownsRow_nil _ _ _ _, by simp⟩, (Keeps.refl [] w).alloc _, Nat.le_refl _⟩
end Go.Proofs.Ytaedmafmflohiaa
