/- The operation copy onto a block that is known whole, elements of any size. No program is named here. slices.Clone and slices.Insert at entries: contracts. slices.Insert at entries, inside a row that has room: a contract. slices.Insert at entries, inside a row that has no room: a contract. A region that draws its order and ends in a store (number z, which waits for all others): what is known of the world need not hold behind that store. No program is named here. The rows of entries of package mem: contracts. An entry laid in: a contract. What package mem tells of its rows: contracts. Rows of entries held against one another; a row of one's own: contracts. -/
import Derived.Test.YtaedmafmflohiaaDoorQMergeAll2
import Derived.Laws.CopyRow
import Derived.Lib.Overlaps
import Derived.Lib.AppendZerosOnto
import Derived.Lib.SliceRun
import Derived.Test.YtaedmafmflohiaaDoorQMergeAll1
import Derived.Lib.AppendZeros
import Derived.Deep.DeepCutAuto
import Derived.Deep.AppendLies
namespace Go.Proofs.YtaedmafmflohiaaDoor
open Go.RowKit

theorem run_copy_rowN {P : Program} (w : World) (dT sT ty elem : TypeId) (size : Nat) (g o dLen dCap : Nat) (a : Addr) (sLen sCap : Nat) (cur : List Value) (t : TypeId) (cs : List Value)
    (hu : P.underlying dT = some (.slice elem)) (hs : (P.info? elem).map (·.size) = some size)
    (hg : w.heap[g]? = some (.cells cur.toArray t (0, 0))) (hn : cs.length = Nat.min sLen dLen * size)
    (hsrc : ∀ j v, cs[j]? = some v → w.cell? (a.add j) = some v) (hfit : o + cs.length ≤ cur.length) (h1 : ∀ v ∈ cs, v.oneCell' = true) :
    (Builtin.copy_ #[dT, sT] ty #[.slice (some ⟨g, o, none⟩) dLen dCap, .slice (some a) sLen sCap]).run P w =
      .ok (goInt (Nat.min sLen dLen)) (w.setRow g (cur.take o ++ cs ++ cur.drop (o + cs.length)).toArray) := by
  have hl := run_loadCells_list (P := P) w a cs hsrc
  have hst := run_storeCells_at P g o t cs 0 cur.toArray w hg (by simpa using hfit) h1
  cases hq : P.info? elem with
  | none => simp [hq] at hs
  | some i =>
    have hi : i.size = size := by simpa [hq] using hs
    rw [hn] at hl
    simp [Builtin.copy_, run_underlying hu, Builtin.lenOf, Builtin.firstCells, sizeOf, typeInfo, hq, hi, hl, hst]
section
variable {P : Program} {w : World} {ops : Array Oper} {rest : List Oper} {o : Oper} {a : Act} {Q : Exit → Act → World → Prop} {K : Act → World → Prop}
theorem op_copyN (d s : Operand) (dT sT elem : TypeId) (size : Nat) (ho : o.op = .call { callee := .builtin .copy, args := #[d, s], argTypes := #[dT, sT] }) (hu : P.underlying dT = some (.slice elem)) (hsz : (P.info? elem).map (·.size) = some size)
    (g off dLen dCap : Nat) (hd : a.eval d = .slice (some ⟨g, off, none⟩) dLen dCap) (ad : Addr) (sLen sCap : Nat) (hs : a.eval s = .slice (some ad) sLen sCap)
    (cur : List Value) (t : TypeId) (hg : w.heap[g]? = some (.cells cur.toArray t (0, 0))) (cs : List Value) (hn : cs.length = Nat.min sLen dLen * size)
    (hsrc : ∀ j v, cs[j]? = some v → w.cell? (ad.add j) = some v) (hfit : off + cs.length ≤ cur.length) (h1 : ∀ v ∈ cs, v.oneCell' = true)
    (h : ∀ w', Hid (w'.heap[g]? = some (.cells (cur.take off ++ cs ++ cur.drop (off + cs.length)).toArray t (0, 0))) → Keeps [g] w w' → K (a.put o.dst (goInt (Nat.min sLen dLen))) w') : o.wp P a w K Q := by
  have hrun := run_copy_rowN (P := P) w dT sT o.type elem size g off dLen dCap ad sLen sCap cur t cs hu hsz hg hn hsrc hfit h1
  obtain ⟨W, hW⟩ : ∃ W, W = w.setRow g (cur.take off ++ cs ++ cur.drop (off + cs.length)).toArray := ⟨_, rfl⟩
  have h2 : W.heap[g]? = some (.cells (cur.take off ++ cs ++ cur.drop (off + cs.length)).toArray t (0, 0)) := by rw [hW, setRow_heap w g _ _ t _ hg]
  have h3 : Keeps [g] w W := by rw [hW]; exact ⟨rfl, rfl, rfl, by simp [World.setRow], fun k _ hk => setRow_other w g k _ (by simpa using hk)⟩
  rw [← hW] at hrun
  unfold Oper.wp execOp
  simp only [ho, resolve, invoke, builtin, Sem.run_bind, Sem.run_pure, Result.andThen_ok, List.map_toArray, List.map_cons, List.map_nil, hd, hs, hrun]
  exact h W h2 h3
theorem wpList_copyN (hgd : o.guard = none) (d s : Operand) (dT sT elem : TypeId) (size : Nat) (ho : o.op = .call { callee := .builtin .copy, args := #[d, s], argTypes := #[dT, sT] }) (hu : P.underlying dT = some (.slice elem)) (hsz : (P.info? elem).map (·.size) = some size)
    (g off dLen dCap : Nat) (hd : a.eval d = .slice (some ⟨g, off, none⟩) dLen dCap) (ad : Addr) (sLen sCap : Nat) (hs : a.eval s = .slice (some ad) sLen sCap)
    (cur : List Value) (t : TypeId) (hg : w.heap[g]? = some (.cells cur.toArray t (0, 0))) (cs : List Value) (hn : cs.length = Nat.min sLen dLen * size)
    (hsrc : ∀ j v, cs[j]? = some v → w.cell? (ad.add j) = some v) (hfit : off + cs.length ≤ cur.length) (h1 : ∀ v ∈ cs, v.oneCell' = true)
    (h : ∀ w', Hid (w'.heap[g]? = some (.cells (cur.take off ++ cs ++ cur.drop (off + cs.length)).toArray t (0, 0))) → Keeps [g] w w' → wpList P ops Q rest (a.put o.dst (goInt (Nat.min sLen dLen))) w') : wpList P ops Q (o :: rest) a w :=
  wpList_plain hgd fun _ hK => op_copyN d s dT sT elem size ho hu hsz g off dLen dCap hd ad sLen sCap hs cur t hg cs hn hsrc hfit h1 fun w' h2 h3 => hK _ _ (h w' h2 h3)
end
end Go.Proofs.YtaedmafmflohiaaDoor
namespace Go.Proofs.YtaedmafmflohiaaDoor
open Go.RowKit

theorem ownEn_empty (w : World) : (w.alloc (.cells #[] 39)).ownsRow 0 39 3 (.slice (some ⟨w.heap.size, 0, none⟩) 0 0) 0 [] :=
  World.ownsRow_lit w #[] 0 (Nat.zero_le _) (by unfold maxLen; omega) rfl
/-- What comes of a call that makes a row. -/
def NewEn (l : List En) (w : World) (e : Ending) (w' : World) : Prop :=
  ∃ A c, e = .returned (.slice A l.length c) ∧ w'.ownsRow 0 39 3 (.slice A l.length c) l.length (encEn l) ∧ Keeps [] w w' ∧ (∀ a, A = some a → w.heap.size ≤ a.block)
theorem clone_en (A : Option Addr) (c : Nat) (l : List En) (w : World) (hr : Rd w A l.length 3 (encEn l)) (hl : l.length ≤ 1000000000) :
    Calls Tryd.prog 16 #[.slice A l.length c] w (NewEn l w) := by
  have HR := Lib.hid hr
  have HL := Lib.hid hl
  have hlen := encEn_len l
  clear hr hl
  rcases A with _ | ad
  · have h0 : l = [] := by
      rcases Nat.eq_zero_or_pos l.length with h | h
      · exact List.eq_nil_of_length_eq_zero h
      · obtain ⟨ad, e, _⟩ := HR.out.at_ (k := 0) (by omega)
        cases e
    subst h0
    have hn := Lib.run_eql_slice_nil (P := Tryd.prog) w 26 39 none 0 c 0 0 Tryd.underlying26
    go_enter Tryd.func16, Tryd.ntmps16
    go_wp2_with fail
    go_ret
    exact ⟨none, 0, rfl, World.ownsRow_nil _ _ _ _, Keeps.refl [] w, by simp⟩
  · obtain ⟨n, hn'⟩ : ∃ n, n = l.length := ⟨_, rfl⟩
    have HN := Lib.hid hn'
    have HRR := Lib.hid (show Rd (w.alloc (.cells #[] 39)) (some ad) n 3 (encEn l) from by rw [hn']; exact HR.out.alloc _)
    have HB := Lib.hid (show 0 + n ≤ maxLen ∧ (0 + n) * 40 ≤ 140737488355328 from by have := HL.out; unfold maxLen; omega)
    rw [← hn']
    have hn := Lib.run_eql_slice_nil (P := Tryd.prog) w 26 39 (some ad) n c 0 0 Tryd.underlying26
    clear hn' hlen HR
    go_enter Tryd.func16, Tryd.ntmps16
    go_wp2_with (at_builtin; refine wpList_appendV rfl (.tmp 5) (.tmp 6) 26 39 rfl Tryd.underlying26 _ 3 40 infoEn rfl (by decide) (some ⟨w.heap.size, 0, none⟩) 0 0 [] rfl (ownEn_empty w) (some ad) n c (encEn l) rfl HRR.out (encEn_one l) HB.out.1 HB.out.2 ?_; intro A' c' w' ho hk hb; rw [Nat.zero_add, List.nil_append] at ho; have HO := Lib.hid ho; have HK := Lib.hid hk; have HBB := Lib.hid hb; clear ho hk hb)
    go_ret
    have hnl := HN.out
    subst hnl
    refine ⟨A', c', by simp, HO.out, ((Keeps.refl [] w).alloc _).trans HK.out (by simp [blk]), fun a ha => ?_⟩
    rcases HBB.out a ha with h | h
    · simp [blk] at h; omega
    · simp at h; omega
/-- What comes of an insertion. -/
def InsEn (A : Option Addr) (xs : List Value) (n : Nat) (w : World) (e : Ending) (w' : World) : Prop :=
  ∃ A' c', e = .returned (.slice A' n c') ∧ w'.ownsRow 0 39 3 (.slice A' n c') n xs ∧ Keeps (blk A) w w' ∧ (∀ a, A' = some a → a.block ∈ blk A ∨ w.heap.size ≤ a.block)
end Go.Proofs.YtaedmafmflohiaaDoor
namespace Go.Proofs.YtaedmafmflohiaaDoor
open Go.RowKit

theorem secG {g l m : Nat} (h : m ≠ l) : secA (some (⟨g, 0, none⟩ : Addr)) l m 3 = some ⟨g, l * 3, none⟩ := by
  unfold secA
  rw [if_neg h, Option.map_some, Addr.add_lit, Nat.zero_add]
theorem list_room (cur vs : List Value) (i n : Nat) (hi : i < n) (hc : (n + 1) * 3 ≤ cur.length) (hv : vs.length = 3) :
    (((cur.take ((i + 1) * 3) ++ (cur.drop (i * 3)).take ((n - i) * 3) ++ cur.drop ((i + 1) * 3 + ((cur.drop (i * 3)).take ((n - i) * 3)).length)).take (i * 3) ++ vs ++
      (cur.take ((i + 1) * 3) ++ (cur.drop (i * 3)).take ((n - i) * 3) ++ cur.drop ((i + 1) * 3 + ((cur.drop (i * 3)).take ((n - i) * 3)).length)).drop (i * 3 + vs.length))).take ((n + 1) * 3) =
    (cur.take (n * 3)).take (i * 3) ++ vs ++ (cur.take (n * 3)).drop (i * 3) := by
  obtain ⟨M, hM⟩ : ∃ M, M = (cur.drop (i * 3)).take ((n - i) * 3) := ⟨_, rfl⟩
  have e1 : M.length = (n - i) * 3 := by rw [hM, List.length_take, List.length_drop]; omega
  rw [← hM]
  obtain ⟨R, hR⟩ : ∃ R, R = cur.drop ((i + 1) * 3 + M.length) := ⟨_, rfl⟩
  rw [← hR]
  have hP : (cur.take ((i + 1) * 3)).length = i * 3 + 3 := by rw [List.length_take]; omega
  have a1 : (cur.take ((i + 1) * 3) ++ M ++ R).take (i * 3) = cur.take (i * 3) := by
    rw [List.append_assoc, List.take_append_of_le_length (by omega), List.take_take, Nat.min_eq_left (by omega)]
  have a2 : (cur.take ((i + 1) * 3) ++ M ++ R).drop (i * 3 + vs.length) = M ++ R := by
    rw [List.append_assoc, hv, List.drop_left' hP]
  rw [a1, a2, List.take_take, Nat.min_eq_left (by omega), List.drop_take, show n * 3 - i * 3 = (n - i) * 3 by omega, ← hM, ← List.append_assoc,
    List.take_append_of_le_length (by simp only [List.length_append, List.length_take, e1, hv]; omega), List.take_of_length_le (by simp only [List.length_append, List.length_take, e1, hv]; omega)]
end Go.Proofs.YtaedmafmflohiaaDoor
namespace Go.Proofs.YtaedmafmflohiaaDoor
open Go.RowKit

theorem list_grow (row xs vs : List Value) (i n : Nat) (hi : i < n) (hx : xs.length = n * 3) (hr : (n + 1) * 3 ≤ row.length) (hrt : row.take (i * 3) = xs.take (i * 3)) (hv : vs.length = 3) :
    ((row.take (i * 3) ++ vs ++ row.drop (i * 3 + vs.length)).take ((i + 1) * 3) ++ xs.drop (i * 3) ++ (row.take (i * 3) ++ vs ++ row.drop (i * 3 + vs.length)).drop ((i + 1) * 3 + (xs.drop (i * 3)).length)).take ((n + 1) * 3) =
    xs.take (i * 3) ++ vs ++ xs.drop (i * 3) := by
  have hP : (row.take (i * 3) ++ vs).length = (i + 1) * 3 := by rw [List.length_append, List.length_take, hv]; omega
  have a1 : (row.take (i * 3) ++ vs ++ row.drop (i * 3 + vs.length)).take ((i + 1) * 3) = row.take (i * 3) ++ vs := List.take_left' hP
  have e1 : (xs.drop (i * 3)).length = (n - i) * 3 := by rw [List.length_drop]; omega
  rw [a1, List.take_left' (by rw [List.length_append, hP, e1]; omega), hrt]
end Go.Proofs.YtaedmafmflohiaaDoor
namespace Go.Proofs.YtaedmafmflohiaaDoor
open Go.RowKit

section
variable {P : Program} {L : List Oper} {Q : Exit → Act → World → Prop} {md : Region.Mode} {S : World → Prop} {z : Nat}

/-- Whatever comes up; behind each one but number z, S holds. -/
def anyZ (P : Program) (md : Region.Mode) (ops : Array Oper) (Q : Exit → Act → World → Prop) (S : World → Prop) (z : Nat) : Nat → Array Bool → Act → World → Prop
  | 0, done, a, w => Region.ready md ops done = [] ∧ Q .normal a w
  | n + 1, done, a, w => (Region.ready md ops done = [] → Q .normal a w) ∧
      ∀ j ∈ Region.ready md ops done, wpOp P ops Q j (fun a' w' => (j ≠ z → S w') ∧ anyZ P md ops Q S z n (done.setIfInBounds j true) a' w') a w
theorem anyZ_any {ops : Array Oper} : ∀ (n : Nat) (done : Array Bool) (a : Act) (w : World), anyZ P md ops Q S z n done a w → wpAny P md ops Q n done a w
  | 0, _, _, _, k => k
  | n + 1, _, _, _, k => ⟨k.1, fun j hj => wpOp_mono (fun _ _ k' => anyZ_any n _ _ _ k'.2) (k.2 j hj)⟩
/-- Number z waits for number i, or for what waits for it, and so on. -/
def reachB (md : Region.Mode) (ops : Array Oper) : Nat → Nat → Nat → Bool
  | 0, _, _ => false
  | n + 1, z, i => match ops[z]? with
    | some o => o.after.any fun e => Region.binds md e && (e.on == i || reachB md ops n e.on i)
    | none => false
/-- What is done has all done that it waits for. -/
def ShutB (md : Region.Mode) (ops : Array Oper) (done : Array Bool) : Prop := ∀ m om, ops[m]? = some om → done.getD m false = true → ∀ e ∈ om.after, Region.binds md e = true → done.getD e.on false = true
def shutB (md : Region.Mode) (ops : Array Oper) (done : Array Bool) : Bool := (List.range ops.size).all fun m => !done.getD m false || match ops[m]? with | some om => om.after.all fun e => !Region.binds md e || done.getD e.on false | none => true
theorem ShutB.of {md : Region.Mode} {ops : Array Oper} {done : Array Bool} (h : shutB md ops done = true) : ShutB md ops done := by
  intro m om hm hd e he hb
  have hlt := (Array.getElem?_eq_some_iff.1 hm).1
  have h1 := List.all_eq_true.1 h m (List.mem_range.2 hlt)
  rw [hm, hd] at h1
  simp only [Bool.not_true, Bool.false_or] at h1
  have h2 := Array.all_eq_true_iff_forall_mem.1 h1 e he
  rw [hb] at h2
  simpa using h2
theorem ShutB.set {md : Region.Mode} {ops : Array Oper} {done : Array Bool} (h : ShutB md ops done) {j : Nat} (hj : j ∈ Region.ready md ops done) : ShutB md ops (done.setIfInBounds j true) := by
  have up : ∀ k, done.getD k false = true → (done.setIfInBounds j true).getD k false = true := by
    intro k hk
    by_cases hkj : j = k
    · subst hkj
      by_cases hlt : j < done.size
      · simp [hlt]
      · simp [Array.getElem?_eq_none (Nat.le_of_not_lt hlt)] at hk
    · rw [getD_set_ne false hkj]; exact hk
  intro m om hm hd e he hb
  obtain ⟨_, oj, hoj, hall⟩ := mem_ready.1 hj
  by_cases hmj : j = m
  · subst hmj
    rw [hoj] at hm
    obtain rfl := Option.some.inj hm
    exact up _ (hall e he hb)
  · rw [getD_set_ne false hmj] at hd
    exact up _ (h m om hm hd e he hb)
theorem reach_done {md : Region.Mode} {ops : Array Oper} {done : Array Bool} (hs : ShutB md ops done) {i : Nat} : ∀ n z, reachB md ops n z i = true → (∀ oz, ops[z]? = some oz → ∀ e ∈ oz.after, Region.binds md e = true → done.getD e.on false = true) → done.getD i false = true
  | 0, z, h, _ => by simp [reachB] at h
  | n + 1, z, h, hp => by
    unfold reachB at h
    split at h
    · rename_i o ho
      simp only [Array.any_eq_true', Bool.and_eq_true, Bool.or_eq_true, beq_iff_eq] at h
      obtain ⟨e, he, hb, h | h⟩ := h
      · rw [← h]; exact hp o ho e he hb
      · exact reach_done hs n e.on h (fun oz hoz e' he' hb' => hs e.on oz hoz (hp o ho e he hb) e' he' hb')
    · cases h
theorem not_ready {md : Region.Mode} {ops : Array Oper} {done : Array Bool} (hs : ShutB md ops done) {n z i : Nat} (h : reachB md ops n z i = true) (hi : i ∈ Region.ready md ops done) : z ∉ Region.ready md ops done := by
  intro hz
  obtain ⟨_, oz, hoz, hall⟩ := mem_ready.1 hz
  have h1 := reach_done hs n z h (fun o ho e he hb => by rw [hoz] at ho; obtain rfl := Option.some.inj ho; exact hall e he hb)
  have h0 := (mem_ready.1 hi).1
  by_cases hlt : i < done.size
  · simp [hlt] at h0 h1; rw [h0] at h1; cases h1
  · simp [Array.getElem?_eq_none (Nat.le_of_not_lt hlt)] at h1

theorem anyZ_first {ops : Array Oper} {i : Nat} {o : Oper} {v : Value} (hi : ops[i]? = some o) (hsel : ∀ (j : Nat) (o' : Oper) cs b, ops[j]? = some o' → o'.op ≠ .select cs b)
    (hQ : ∀ c a w, Q (.panic c) (a.put o.dst v) w → Q (.panic c) a w) {f : Nat} (hz : reachB md ops f z i = true) (hzi : i ≠ z) (n : Nat) :
    ∀ (done : Array Bool) (a : Act) (w : World), ShutB md ops done →
      (∀ j oj, ops[j]? = some oj → j ≠ i → done.getD j true = false → (∀ e ∈ oj.after, Region.binds md e = true → e.on ≠ i) → o.apart ops oj = true) →
      i ∈ Region.ready md ops done → YieldsIf P ops S o v a → S w →
      anyZ P md ops Q S z n (done.setIfInBounds i true) (a.put o.dst v) w → anyZ P md ops Q S z (n + 1) done a w := by
  have free : ∀ (done : Array Bool) (j : Nat), i ∈ Region.ready md ops done → j ∈ Region.ready md ops done → j ≠ i →
      ∃ oj, ops[j]? = some oj ∧ done.getD j true = false ∧ (∀ e ∈ oj.after, Region.binds md e = true → e.on ≠ i) := by
    intro done j hr hj _
    obtain ⟨hun, oj, hoj, hall⟩ := mem_ready.1 hj
    refine ⟨oj, hoj, hun, fun e he hb heq => ?_⟩
    have h1 := hall e he hb
    have h0 := (mem_ready.1 hr).1
    rw [heq] at h1
    by_cases hlt : i < done.size
    · simp [hlt] at h0 h1; rw [h0] at h1; cases h1
    · simp [Array.getElem?_eq_none (Nat.le_of_not_lt hlt)] at h1
  induction n with
  | zero =>
    intro done a w _ _ hr hy hS k
    refine ⟨fun h => by rw [h] at hr; simp at hr, fun j hj => ?_⟩
    by_cases hji : j = i
    · subst hji; exact hy.wpOp hi hS ⟨fun _ => hS, k⟩
    · have := ready_mono hj hji
      rw [k.1] at this
      simp at this
  | succ n ih =>
    intro done a w hsh hf hr hy hS k
    refine ⟨fun h => by rw [h] at hr; simp at hr, fun j hj => ?_⟩
    by_cases hji : j = i
    · subst hji; exact hy.wpOp hi hS ⟨fun _ => hS, k⟩
    · obtain ⟨oj, hoj, hun, hno⟩ := free done j hr hj hji
      have hjz : j ≠ z := fun e => not_ready hsh hz hr (e ▸ hj)
      have k1 := wpOp_putIf hoj (hf j oj hoj hji hun hno) (fun cs b => hsel i o cs b hi) (fun cs b => hsel j oj cs b hoj) hQ hy (k.2 j (ready_mono hj hji))
      refine wpOp_mono (fun a' w' k2 => ⟨k2.2.1, ih _ a' w' (hsh.set hj) ?_ (ready_mono hr (Ne.symm hji)) k2.1 (k2.2.1 hjz) (by rw [Array.setIfInBounds_comm _ _ hji]; exact k2.2.2)⟩) k1
      intro m om hm hmi hmu hmn
      refine hf m om hm hmi ?_ hmn
      by_cases hjm : j = m
      · subst hjm; exact hun
      · rwa [getD_set_ne true hjm] at hmu

theorem seqz_start {id : Nat} {a : Act} {w : World} (hm : P.follows .mixedOrders = true) (S : World → Prop) (z n : Nat) (is : List Nat) (hn : L.toArray.size = n) (hS : S w.drew)
    (h : S w.drew → Seq is L (anyZ P .any L.toArray (NoPanic Q) S z n (Array.replicate n false) a w.drew)) : (Code.region id L.toArray true).wp P Q a w :=
  wp_region_noPanic (wp_region_any hm (anyZ_any _ _ _ _ (by rw [hn]; exact h hS)))
theorem seqz_take {i : Nat} {is : List Nat} {l : List Oper} {oi : Oper} {v : Value} {fuel : Nat} {listed : Array Bool} {a : Act} {w : World} (hi : L.toArray[i]? = some oi)
    (hs : Region.noSelect L.toArray = true) (hf : Region.free md L.toArray listed i = true) (hr : (Region.ready md L.toArray listed).contains i = true) (hsh : shutB md L.toArray listed = true) (hz : reachB md L.toArray 40 z i = true) (hzi : i ≠ z)
    (hy : YieldsIf P L.toArray S oi v a) (hS : S w)
    (h : Seq is l (anyZ P md L.toArray (NoPanic Q) S z fuel (listed.setIfInBounds i true) (a.put oi.dst v) w)) : Seq (i :: is) (oi :: l) (anyZ P md L.toArray (NoPanic Q) S z (fuel + 1) listed a w) :=
  anyZ_first hi (Region.noSelect_spec hs) (fun _ _ _ h => h) hz hzi fuel listed a w (ShutB.of hsh) (Region.free_spec hi hf) (by simpa using hr) hy hS h
theorem anyZ_mono {S' : World → Prop} {ops : Array Oper} (h : ∀ x, S' x → S x) : ∀ (fuel : Nat) (listed : Array Bool) (a : Act) (w : World), anyZ P md ops Q S' z fuel listed a w → anyZ P md ops Q S z fuel listed a w
  | 0, _, _, _, k => k
  | fuel + 1, _, _, _, k => ⟨k.1, fun i hi => wpOp_mono (fun a' w' k' => ⟨fun hz => h _ (k'.1 hz), anyZ_mono h fuel _ a' w' k'.2⟩) (k.2 i hi)⟩
/-- A call that comes up alone. -/
theorem seqz_do {i : Nat} {is : List Nat} {l : List Oper} {oi : Oper} {fuel : Nat} {listed : Array Bool} {a : Act} {w : World} (hi : L.toArray[i]? = some oi) (hr : Region.ready md L.toArray listed = [i])
    (hw : Region.wanted oi (yielded L.toArray a.tmps) = true)
    (h : ∀ K : Act → World → Prop, Hid (∀ (S' : World → Prop) (a' : Act) (w' : World), (∀ x, S' x → S x) → S' w' → (S' w' → Seq is l (anyZ P md L.toArray (NoPanic Q) S' z fuel (listed.setIfInBounds i true) a' w')) → K a' w') → oi.wp P a w K (NoPanic Q)) :
    Seq (i :: is) (oi :: l) (anyZ P md L.toArray (NoPanic Q) S z (fuel + 1) listed a w) := by
  refine ⟨fun h0 => by rw [hr] at h0; simp at h0, fun j hj => ?_⟩
  rw [hr] at hj
  obtain rfl : j = i := by simpa using hj
  unfold wpOp
  simp only [hi, hw, if_true]
  exact .inl (h _ (fun S' a' w' h1 h2 h3 => ⟨fun _ => h1 _ h2, anyZ_mono h1 _ _ _ _ (h3 h2)⟩))
/-- The store, last of all. -/
theorem seqz_last {oi : Oper} {fuel : Nat} {listed : Array Bool} {a : Act} {w : World} (hi : L.toArray[z]? = some oi) (hr : Region.ready md L.toArray listed = [z])
    (hw : Region.wanted oi (yielded L.toArray a.tmps) = true) (hd : Region.ready md L.toArray (listed.setIfInBounds z true) = [])
    (h : oi.wp P a w (fun a' w' => Q .normal a' w') (NoPanic Q)) :
    Seq [z] [oi] (anyZ P md L.toArray (NoPanic Q) S z (fuel + 1) listed a w) := by
  refine ⟨fun h0 => by rw [hr] at h0; simp at h0, fun j hj => ?_⟩
  rw [hr] at hj
  obtain rfl : j = z := by simpa using hj
  unfold wpOp
  simp only [hi, hw, if_true]
  refine .inl (Oper.wp_mono (fun a' w' k => ⟨fun hne => absurd rfl hne, ?_⟩) h)
  cases fuel with
  | zero => exact ⟨hd, NoPanic.normal k⟩
  | succ m => exact ⟨fun _ => NoPanic.normal k, by rw [hd]; simp⟩
end
end Go.Proofs.YtaedmafmflohiaaDoor
namespace Go.Proofs.YtaedmafmflohiaaDoor
open Go.RowKit

theorem ins_list (l : List En) (i : Nat) (e : En) : (encEn l).take (i * 3) ++ e.cells ++ (encEn l).drop (i * 3) = encEn (l.take i ++ e :: l.drop i) := by
  rw [Nat.mul_comm i 3, encEn_take, encEn_drop, encEn_append, encEn_cons, List.append_assoc]
theorem cells_one (e : En) : ∀ u ∈ e.cells, u.oneCell' = true := by
  intro u hu
  simp [En.cells] at hu
  rcases hu with rfl | rfl | rfl <;> rfl
/-- Texts are not longer than any that can be. -/
def EnOk (l : List En) : Prop := ∀ e ∈ l, e.k.length ≤ 140737488351232 ∧ e.v.length ≤ 140737488351232
theorem sizeE_le {l : List En} (h : EnOk l) : sizeE l ≤ l.length * 281474976702464 := by
  induction l with
  | nil => simp [sizeE]
  | cons e l ih =>
    have h1 := h e (by simp)
    have h2 := ih (fun x hx => h x (by simp [hx]))
    rw [sizeE_cons, List.length_cons, Nat.add_mul]
    unfold wE
    omega
end Go.Proofs.YtaedmafmflohiaaDoor
namespace Go.Proofs.YtaedmafmflohiaaDoor
open Go.RowKit

theorem encEn_set3 (l : List En) (i : Nat) (h : i < l.length) (e : En) : (((encEn l).set (i * 3) (.string (strB e.k))).set (i * 3 + 1) (.string (strB e.v))).set (i * 3 + 2) (.bool e.g) = encEn (l.set i e) := by
  have hl := encEn_len l
  refine List.ext_getElem? fun j => ?_
  obtain ⟨q, r, hr, rfl⟩ : ∃ q r, r < 3 ∧ j = 3 * q + r := ⟨j / 3, j % 3, Nat.mod_lt _ (by decide), by omega⟩
  by_cases hq : q < l.length
  · rw [encEn_get (l.set i e) q (by simpa using hq) r hr]
    by_cases hqi : q = i
    · subst hqi
      rw [List.getElem_set_self]
      have hc : r = 0 ∨ r = 1 ∨ r = 2 := by omega
      rcases hc with rfl | rfl | rfl
      · rw [List.getElem?_set_ne (by omega), List.getElem?_set_ne (by omega), show 3 * q + 0 = q * 3 by omega, List.getElem?_set_self (by omega)]; rfl
      · rw [List.getElem?_set_ne (by omega), show 3 * q + 1 = q * 3 + 1 by omega, List.getElem?_set_self (by simp; omega)]; rfl
      · rw [show 3 * q + 2 = q * 3 + 2 by omega, List.getElem?_set_self (by simp; omega)]; rfl
    · rw [List.getElem?_set_ne (by omega), List.getElem?_set_ne (by omega), List.getElem?_set_ne (by omega), encEn_get l q hq r hr, List.getElem_set_ne (fun e' => hqi e'.symm)]
  · rw [List.getElem?_eq_none (by simp; omega), List.getElem?_eq_none (by rw [encEn_len, List.length_set]; omega)]
end Go.Proofs.YtaedmafmflohiaaDoor
namespace Go.Proofs.YtaedmafmflohiaaDoor
open Go.RowKit

theorem results_cell_tmp2 {P : Program} {fn : Func} {p q : Tmp} {ty : TypeId} (h : fn.results = #[.cell p ty, .tmp q]) (tmps : Array Value) (w : World) (g : Nat) (t : TypeId) (cs : Array Value) (fr : Nat × Nat) (d : TypeDesc) (v : Value)
    (hp : tmps.getD p undef = .pointer (some ⟨g, 0, none⟩)) (hq : tmps.getD q undef = v) (hg : w.heap[g]? = some (.cells cs t fr))
    (hu : P.underlying ty = some d) (hd : (match d with | .struct _ | .array _ _ => true | _ => false) = true) (hi : (P.info? ty).map (·.size) = some cs.size) :
    (results fn tmps).run P w = .ok (.tuple #[.agg cs, v]) w := by
  have hp' : tmps[p]?.getD undef = .pointer (some ⟨g, 0, none⟩) := by simpa using hp
  have hq' : tmps[q]?.getD undef = v := by simpa using hq
  simp [results, h, hp', hq', asAddr, run_loadVar_row w g t ty cs fr d hg hu hd hi]
def zeroE : En := ⟨[], [], false⟩
/-- What a key has, or nothing. -/
def getV (l : List En) (key : List UInt8) : Value := .tuple #[((getE l key).getD zeroE).val, .bool (getE l key).isSome]
/-- The entries with keys from one on, up to another one. -/
def rangeE (l : List En) (a b : List UInt8) : List En := (l.drop (lo l a)).take (max (lo l a) (if b = [] then l.length else lo l b) - lo l a)
theorem range_all (l : List En) : rangeE l [] [] = l := by
  have h : lo l [] = 0 := by
    cases l with
    | nil => rfl
    | cons e l => rw [lo_cons, bl_nil]; rfl
  unfold rangeE
  rw [h]
  simp
end Go.Proofs.YtaedmafmflohiaaDoor
namespace Go.Proofs.YtaedmafmflohiaaDoor
open Go.RowKit

set_option maxHeartbeats 4000000 in
theorem entries_same (l : List En) (A1 A2 : Option Addr) (c1 c2 : Nat) (w : World) (h1 : Rd w A1 l.length 3 (encEn l)) (h2 : Rd w A2 l.length 3 (encEn l)) (hl : l.length ≤ 1000000) :
    Calls Tryd.prog 11 #[.slice A1 l.length c1, .slice A2 l.length c2] w fun r w' => r = .returned (.bool true) ∧ Keeps [] w w' := by
  have H1 := Lib.hid h1
  have H2 := Lib.hid h2
  obtain ⟨n, hn⟩ : ∃ n, n = l.length := ⟨_, rfl⟩
  have HN := Lib.hid hn
  have INV := Lib.hid (Keeps.refl [] w)
  rw [← hn] at hl ⊢
  clear h1 h2 hn
  go_enter Tryd.func11, Tryd.ntmps11
  go_wp2_with fail
  go_loopw [5] (fun si wr => ∃ i : Nat, i ≤ n ∧ si = .int .i64 i ∧ Hid (Keeps [] w wr)) (fun si _ => n - (intOf si).toNat)
  case atStart => exact ⟨0, Nat.zero_le _, rfl, INV.out⟩
  case round =>
    clear INV
    obtain ⟨i, hi, rfl, hinv⟩ := hrel
    by_cases hlt : i < n
    · have hik : (i : Int) < (n : Int) := by omega
      have HIL := Lib.hid (show i < l.length by have := HN.out; omega)
      obtain ⟨g1, o1, rfl, k0, k1, k2⟩ := en_cells (H1.out.keeps0 hinv.out) (i := i) HIL.out
      obtain ⟨g2, o2, rfl, m0, m1, m2⟩ := en_cells (H2.out.keeps0 hinv.out) (i := i) HIL.out
      obtain ⟨e, he⟩ : ∃ e, e = l[i]'(HIL.out) := ⟨_, rfl⟩
      rw [← he] at k0 k1 k2 m0 m1 m2
      have HKK := Lib.hid (And.intro (And.intro k0 (And.intro k1 k2)) (And.intro m0 (And.intro m1 m2)))
      clear k0 k1 k2 m0 m1 m2 he hlt
      go_upto_region 6 with fail
      have qa : ∀ z : World, Keeps [] wr z → z.cell? ⟨g1, o1 + i * 3, none⟩ = some (.string (strB e.k)) := fun z hz => hz.cell HKK.out.1.1 (by simp)
      have qb : ∀ z : World, Keeps [] wr z → z.cell? ⟨g1, o1 + i * 3 + 1, none⟩ = some (.string (strB e.v)) := fun z hz => hz.cell HKK.out.1.2.1 (by simp)
      have qc : ∀ z : World, Keeps [] wr z → z.cell? ⟨g1, o1 + i * 3 + 2, none⟩ = some (.bool e.g) := fun z hz => hz.cell HKK.out.1.2.2 (by simp)
      have qd : ∀ z : World, Keeps [] wr z → z.cell? ⟨g2, o2 + i * 3, none⟩ = some (.string (strB e.k)) := fun z hz => hz.cell HKK.out.2.1 (by simp)
      have qe : ∀ z : World, Keeps [] wr z → z.cell? ⟨g2, o2 + i * 3 + 1, none⟩ = some (.string (strB e.v)) := fun z hz => hz.cell HKK.out.2.2.1 (by simp)
      have qf : ∀ z : World, Keeps [] wr z → z.cell? ⟨g2, o2 + i * 3 + 2, none⟩ = some (.bool e.g) := fun z hz => hz.cell HKK.out.2.2.2 (by simp)
      refine seq_start (by kernel_rfl) (fun z => Keeps [] wr z) 9 [0, 1, 2, 3, 4, 5, 6, 7, 8] rfl ((Keeps.refl [] wr).drew) (fun hS => ?_)
      refine seq_take (v := ?_) rfl (by kernel_rfl) (by kernel_rfl) (by kernel_rfl) (Or.inl ⟨by rfl, fun w' hSw => ?_⟩) (by assumption) ?_
      rotate_left
      · go_simp
        with_reducible rfl
      simp only [Act.put, List.setIfInBounds_toArray, List.set_cons_zero, List.set_cons_succ]
      refine seq_take (v := ?_) rfl (by kernel_rfl) (by kernel_rfl) (by kernel_rfl) (Or.inl ⟨by rfl, fun w' hSw => ?_⟩) (by assumption) ?_
      rotate_left
      · go_simp
        with_reducible rfl
      simp only [Act.put, List.setIfInBounds_toArray, List.set_cons_zero, List.set_cons_succ]
      refine seq_take (v := ?_) rfl (by kernel_rfl) (by kernel_rfl) (by kernel_rfl) (Or.inl ⟨by rfl, fun w' hSw => ?_⟩) (by assumption) ?_
      rotate_left
      · go_simp
        with_reducible rfl
      simp only [Act.put, List.setIfInBounds_toArray, List.set_cons_zero, List.set_cons_succ]
      refine seq_take (v := ?_) rfl (by kernel_rfl) (by kernel_rfl) (by kernel_rfl) (Or.inl ⟨by rfl, fun w' hSw => ?_⟩) (by assumption) ?_
      rotate_left
      · go_simp
        with_reducible rfl
      simp only [Act.put, List.setIfInBounds_toArray, List.set_cons_zero, List.set_cons_succ]
      refine seq_take (v := ?_) rfl (by kernel_rfl) (by kernel_rfl) (by kernel_rfl) (Or.inl ⟨by rfl, fun w' hSw => ?_⟩) (by assumption) ?_
      rotate_left
      · go_simp
        with_reducible rfl
      simp only [Act.put, List.setIfInBounds_toArray, List.set_cons_zero, List.set_cons_succ]
      refine seq_take (v := ?_) rfl (by kernel_rfl) (by kernel_rfl) (by kernel_rfl) (Or.inl ⟨by rfl, fun w' hSw => ?_⟩) (by assumption) ?_
      rotate_left
      · go_simp
        with_reducible rfl
      simp only [Act.put, List.setIfInBounds_toArray, List.set_cons_zero, List.set_cons_succ]
      refine seq_take (v := ?_) rfl (by kernel_rfl) (by kernel_rfl) (by kernel_rfl) (Or.inl ⟨by rfl, fun w' hSw => ?_⟩) (by assumption) ?_
      rotate_left
      · go_simp
        with_reducible rfl
      simp only [Act.put, List.setIfInBounds_toArray, List.set_cons_zero, List.set_cons_succ]
      refine seq_take (v := ?_) rfl (by kernel_rfl) (by kernel_rfl) (by kernel_rfl) (Or.inl ⟨by rfl, fun w' hSw => ?_⟩) (by assumption) ?_
      rotate_left
      · go_simp
        with_reducible rfl
      simp only [Act.put, List.setIfInBounds_toArray, List.set_cons_zero, List.set_cons_succ]
      refine seq_take (v := ?_) rfl (by kernel_rfl) (by kernel_rfl) (by kernel_rfl) (Or.inl ⟨by rfl, fun w' hSw => ?_⟩) (by assumption) ?_
      rotate_left
      · go_simp
        with_reducible rfl
      simp only [Act.put, List.setIfInBounds_toArray, List.set_cons_zero, List.set_cons_succ]
      refine seq_done (by kernel_rfl) ?_
      all_goals skip
      have HI := Lib.hid hinv.out.drew
      clear qa qb qc qd qe qf hS hinv HKK
      generalize wr.drew = V at HI ⊢
      go_wp2_with fail
      go_roundw
      case rel => exact ⟨i + 1, by omega, by go_num, HI.out⟩
      case measure => simp [intOf]; omega
    · have hik : ¬ (i : Int) < (n : Int) := by omega
      clear hlt
      go_wp2_with fail
      go_ret
      exact ⟨rfl, hinv.out⟩
theorem own_en (A : Option Addr) (c : Nat) (l : List En) (w : World) (h : Rd w A l.length 3 (encEn l)) (hl : l.length ≤ 1000000000) :
    Calls Tryd.prog 14 #[.slice A l.length c] w (NewEn l w) := by
  have HR := Lib.hid h
  obtain ⟨n, hn⟩ : ∃ n, n = l.length := ⟨_, rfl⟩
  have HN := Lib.hid hn
  have HB := Lib.hid (show 0 + n ≤ maxLen ∧ (0 + n) * 40 ≤ 140737488355328 from by unfold maxLen; omega)
  rw [← hn] at hl HR ⊢
  clear h hn
  go_enter Tryd.func14, Tryd.ntmps14
  go_wp2_with (at_builtin; refine wpList_appendV rfl (.tmp 4) (.tmp 5) 26 39 rfl Tryd.underlying26 _ 3 40 infoEn rfl (by decide) none 0 0 [] rfl (World.ownsRow_nil _ 0 _ _) A n c (encEn l) rfl HR.out (encEn_one l) HB.out.1 HB.out.2 ?_; intro A' c' w' ho hk hb; rw [Nat.zero_add, List.nil_append] at ho; have HO := Lib.hid ho; have HK := Lib.hid hk; have HBB := Lib.hid hb; clear ho hk hb)
  go_ret
  have hnl := HN.out
  subst hnl
  refine ⟨A', c', by simp, HO.out, HK.out.mono (by simp [blk]), fun a ha => ?_⟩
  rcases HBB.out a ha with h | h
  · simp [blk] at h
  · exact h
theorem rd_rowN {w : World} {g n : Nat} {T : TypeId} {xs : List Value} {fr : Nat × Nat} (h : w.heap[g]? = some (.cells xs.toArray T fr)) (hn : xs.length = n * 3) : Rd w (some ⟨g, 0, none⟩) n 3 xs :=
  ⟨by simp [hn], fun _ => ⟨_, rfl, fun j u hu => by rw [Addr.add_lit, Nat.zero_add, cell_of_row _ _ _ _ _ _ h, List.getElem?_toArray]; exact hu⟩⟩
def sb : En := ⟨[98], [120], false⟩
def sa : En := ⟨[97], [121], false⟩
def sg : En := ⟨[98], [], true⟩
theorem put_b : putE [] sb = [sb] := rfl
theorem put_ab : putE [sb] sa = [sa, sb] := rfl
theorem put_gb : putE [sa, sb] sg = [sa, sg] := rfl
end Go.Proofs.YtaedmafmflohiaaDoor
