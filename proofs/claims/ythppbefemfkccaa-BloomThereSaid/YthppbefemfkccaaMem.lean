/- Whole rows stored, bytes copied: laws whose world behind is open but for what is known of it. No program is named here. -/
import Derived.Test.YthppbefemfkccaaSec
import Derived.Laws.CopyOwn
import Derived.Laws.CopyRow
import Derived.Laws.IdiomCopy
import Derived.Deep.MidRow
namespace Go.Proofs.Ythppbefemfkccaa
open Go.RowKit

theorem heap_setCells_other : ∀ (vs : List Value) (b o : Nat) (w : World) (k : Nat), k ≠ b → (w.setCells b o vs).heap[k]? = w.heap[k]?
  | [], _, _, _, _, _ => rfl
  | v :: r, b, o, w, k, h => by
    rw [World.setCells, heap_setCells_other r b (o + 1) _ k h, heap_setCell_other _ _ _ _ h]
theorem setCells_same : ∀ (vs : List Value) (b o : Nat) (w : World), (w.setCells b o vs).os = w.os ∧ (w.setCells b o vs).tape = w.tape ∧ (w.setCells b o vs).output = w.output ∧ (w.setCells b o vs).heap.size = w.heap.size
  | [], _, _, _ => ⟨rfl, rfl, rfl, rfl⟩
  | v :: r, b, o, w => by
    rw [World.setCells]
    have := setCells_same r b (o + 1) (w.setCell ⟨b, o, none⟩ v)
    exact ⟨this.1, this.2.1, this.2.2.1, this.2.2.2.trans (by simp)⟩
theorem Keeps.setCells {S : List Nat} {a w : World} (h : Keeps S a w) (b o : Nat) (vs : List Value) (hb : b ∈ S ∨ a.heap.size ≤ b) : Keeps S a (w.setCells b o vs) := by
  have hs := setCells_same vs b o w
  exact h.trans (T := [b]) ⟨hs.1, hs.2.1, hs.2.2.1, by omega, fun k _ hk => heap_setCells_other vs b o w k (by simpa using hk)⟩ (fun t ht => by simp at ht; subst ht; exact hb)
/-- A block whose cells from o on were stored. -/
theorem heap_setCells_same : ∀ (vs : List Value) (b o : Nat) (w : World) (cs : List Value) (t : TypeId), w.heap[b]? = some (.cells cs.toArray t (0, 0)) → o + vs.length ≤ cs.length →
    (w.setCells b o vs).heap[b]? = some (.cells (cs.take o ++ vs ++ cs.drop (o + vs.length)).toArray t (0, 0))
  | [], b, o, w, cs, t, h, _ => by simpa [World.setCells] using h
  | v :: r, b, o, w, cs, t, h, hl => by
    rw [World.setCells]
    have h1 : (w.setCell ⟨b, o, none⟩ v).heap[b]? = some (.cells (cs.set o v).toArray t (0, 0)) := by
      rw [heap_setCell_same w b o _ _ _ h]; simp
    rw [heap_setCells_same r b (o + 1) _ _ t h1 (by simp at hl ⊢; omega)]
    have ho : o < cs.length := by simp at hl; omega
    have e1 : (cs.set o v).take (o + 1) = cs.take o ++ [v] := by
      rw [List.take_succ_eq_append_getElem (by simpa using ho), List.take_set_of_le (Nat.le_refl o)]
      simp
    have e2 : (cs.set o v).drop (o + 1 + r.length) = cs.drop (o + (r.length + 1)) := by
      rw [List.drop_set_of_lt (by omega), show o + 1 + r.length = o + (r.length + 1) by omega]
    rw [e1, e2]
    simp

theorem wpList_store_rowK {P : Program} {w : World} {ops : Array Oper} {rest : List Oper} {op : Oper} {a : Act} {Q : Exit → Act → World → Prop} (hgd : op.guard = none) (ty : TypeId) (x y : Operand) (ho : op.op = .store ty x y)
    (b : Nat) (cs cur : List Value) (t : TypeId) (hx : a.eval x = .pointer (some ⟨b, 0, none⟩)) (hy : a.eval y = .agg cs.toArray) (hg : w.heap[b]? = some (.cells cur.toArray t (0, 0))) (hl : cur.length = cs.length)
    (hi : (P.info? ty).map (·.size) = some cs.length) (h1 : ∀ v ∈ cs, v.oneCell' = true)
    (h : ∀ w', Hid (w'.heap[b]? = some (.cells cs.toArray t (0, 0))) → Keeps [b] w w' → wpList P ops Q rest (a.put op.dst undef) w') : wpList P ops Q (op :: rest) a w := by
  refine wpList_store_mid hgd ty x y ho b 0 cs.toArray hx hy (fun j hj => ?_) (by simpa using hi) (all_oneCell_toArray h1) ?_
  · have hj' : j < cur.length := by simp at hj; omega
    rw [Nat.zero_add]
    exact ⟨by rw [cell_of_row _ _ _ _ _ _ hg]; simp [hj'], frozen_of_row w b j _ _ hg⟩
  · refine h _ ?_ ((Keeps.refl [b] w).setCells b 0 _ (.inl (by simp)))
    show _ = _
    rw [heap_setCells_same _ b 0 w cur t hg (by simp; omega)]
    simp [hl]

/-- 'copy(x[..], bytes)', into a block that is known whole. -/
theorem op_copyB {P : Program} {w : World} {o : Oper} {a : Act} {K : Act → World → Prop} {Q : Exit → Act → World → Prop} (d s : Operand) (dT sT elem : TypeId)
    (ho : o.op = .call { callee := .builtin .copy, args := #[d, s], argTypes := #[dT, sT] }) (hu : P.underlying dT = some (.slice elem)) (hsz : (P.info? elem).map (·.size) = some 1)
    (g off dLen dCap : Nat) (hd : a.eval d = .slice (some ⟨g, off, none⟩) dLen dCap) (A2 : Option Addr) (c2 : Nat) (l2 : List UInt8) (hs : a.eval s = .slice A2 l2.length c2) (hr : RdB w A2 l2)
    (cur : List UInt8) (t : TypeId) (hg : w.heap[g]? = some (.cells (encB cur).toArray t (0, 0))) (hfit : off + dLen ≤ cur.length)
    (h : ∀ w', Hid (w'.heap[g]? = some (.cells (encB (cur.take off ++ l2.take dLen ++ cur.drop (off + min l2.length dLen))).toArray t (0, 0))) → Keeps [g] w w' → K (a.put o.dst (.int .i64 (min l2.length dLen : Nat))) w') : o.wp P a w K Q := by
  by_cases h0 : min l2.length dLen = 0
  · have hrun := run_copy_none (P := P) w dT sT o.type elem (some ⟨g, off, none⟩) A2 dLen dCap l2.length c2 hu hsz h0
    unfold Oper.wp execOp
    simp only [ho, resolve, invoke, builtin, Sem.run_bind, Sem.run_pure, Result.andThen_ok, List.map_toArray, List.map_cons, List.map_nil, hd, hs, hrun]
    rw [h0] at h
    refine h w ?_ (Keeps.refl _ _)
    show _ = _
    rw [hg]
    have : l2.take dLen = [] := by
      rw [List.take_eq_nil_iff]
      rcases Nat.min_eq_zero_iff.1 h0 with h1 | h1
      · exact .inr (List.eq_nil_of_length_eq_zero h1)
      · exact .inl h1
    rw [this]
    simp
  · obtain ⟨ad, e, hc⟩ := hr.2 (by simp; omega)
    subst e
    have hlen : (encB (l2.take dLen)).length = Nat.min l2.length dLen := by simp [Nat.min_comm]
    have hrun := run_copy_row (P := P) w dT sT o.type elem g off dLen dCap ad l2.length c2 (encB cur).toArray t (encB (l2.take dLen)) hu hsz hg hlen
      (fun j v hv => hc j v (by rw [encB_take, List.getElem?_take] at hv; split at hv; exact hv; cases hv)) (by simp; omega) (encB_one _)
    have e : (encB cur).toArray.toList = encB cur := rfl
    rw [e, hlen] at hrun
    obtain ⟨W, hW⟩ : ∃ W, W = w.setRow g ((encB cur).take off ++ encB (l2.take dLen) ++ (encB cur).drop (off + Nat.min l2.length dLen)).toArray := ⟨_, rfl⟩
    have h1 : W.heap[g]? = some (.cells (encB (cur.take off ++ l2.take dLen ++ cur.drop (off + min l2.length dLen))).toArray t (0, 0)) := by
      rw [hW, setRow_heap w g _ _ t _ hg, ← encB_take, ← encB_drop, ← encB_append, ← encB_append]
    have h2 : Keeps [g] w W := by rw [hW]; exact ⟨rfl, rfl, rfl, by simp [World.setRow], fun k _ hk => setRow_other w g k _ (by simpa using hk)⟩
    rw [← hW] at hrun
    unfold Oper.wp execOp
    simp only [ho, resolve, invoke, builtin, Sem.run_bind, Sem.run_pure, Result.andThen_ok, List.map_toArray, List.map_cons, List.map_nil, hd, hs, hrun]
    exact h W h1 h2
end Go.Proofs.Ythppbefemfkccaa
