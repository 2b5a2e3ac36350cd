/- Whole rows stored, bytes copied: laws whose world behind is open but for what is known of it. No program is named here. What a reader takes off besides numbers: contracts. Bytes, texts, prints, counts that a reader takes off: contracts. What is left, the first error: contracts. The filter of bytes: a contract. -/
import Derived.Test.YthppbefemfkccaaDoorQBloomRuns2
import Derived.Laws.CopyOwn
import Derived.Laws.CopyRow
import Derived.Laws.IdiomCopy
import Derived.Deep.MidRow
import Derived.Test.YthppbefemfkccaaDoorQBloomRuns6
import Derived.Test.YthppbefemfkccaaDoorQBloomRuns5
namespace Go.Proofs.YthppbefemfkccaaDoor
open Go.RowKit

theorem heap_setCells_other : ∀ (vs : List Value) (b o : Nat) (w : World) (k : Nat), k ≠ b → (w.setCells b o vs).heap[k]? = w.heap[k]?
  | [], _, _, _, _, _ => rfl
  | v :: r, b, o, w, k, h => by
    rw [World.setCells, heap_setCells_other r b (o + 1) _ k h, heap_setCell_other _ _ _ _ h]
theorem setCells_same : ∀ (vs : List Value) (b o : Nat) (w : World), (w.setCells b o vs).os = w.os ∧ (w.setCells b o vs).tape = w.tape ∧ (w.setCells b o vs).output = w.output ∧ (w.setCells b o vs).heap.size = w.heap.size
  | [], _, _, _ => ⟨rfl, rfl, rfl, rfl⟩
  | v :: r, b, o, w => by
    rw [World.setCells]
    have := setCells_same r b (o + 1) (w.setCell ⟨b, o, none⟩ v)
    exact ⟨this.1, this.2.1, this.2.2.1, this.2.2.2.trans (by simp)⟩
theorem Keeps.setCells {S : List Nat} {a w : World} (h : Keeps S a w) (b o : Nat) (vs : List Value) (hb : b ∈ S ∨ a.heap.size ≤ b) : Keeps S a (w.setCells b o vs) := by
  have hs := setCells_same vs b o w
  exact h.trans (T := [b]) ⟨hs.1, hs.2.1, hs.2.2.1, by omega, fun k _ hk => heap_setCells_other vs b o w k (by simpa using hk)⟩ (fun t ht => by simp at ht; subst ht; exact hb)
/-- A block whose cells from o on were stored. -/
theorem heap_setCells_same : ∀ (vs : List Value) (b o : Nat) (w : World) (cs : List Value) (t : TypeId), w.heap[b]? = some (.cells cs.toArray t (0, 0)) → o + vs.length ≤ cs.length →
    (w.setCells b o vs).heap[b]? = some (.cells (cs.take o ++ vs ++ cs.drop (o + vs.length)).toArray t (0, 0))
  | [], b, o, w, cs, t, h, _ => by simpa [World.setCells] using h
  | v :: r, b, o, w, cs, t, h, hl => by
    rw [World.setCells]
    have h1 : (w.setCell ⟨b, o, none⟩ v).heap[b]? = some (.cells (cs.set o v).toArray t (0, 0)) := by
      rw [heap_setCell_same w b o _ _ _ h]; simp
    rw [heap_setCells_same r b (o + 1) _ _ t h1 (by simp at hl ⊢; omega)]
    have ho : o < cs.length := by simp at hl; omega
    have e1 : (cs.set o v).take (o + 1) = cs.take o ++ [v] := by
      rw [List.take_succ_eq_append_getElem (by simpa using ho), List.take_set_of_le (Nat.le_refl o)]
      simp
    have e2 : (cs.set o v).drop (o + 1 + r.length) = cs.drop (o + (r.length + 1)) := by
      rw [List.drop_set_of_lt (by omega), show o + 1 + r.length = o + (r.length + 1) by omega]
    rw [e1, e2]
    simp

theorem wpList_store_rowK {P : Program} {w : World} {ops : Array Oper} {rest : List Oper} {op : Oper} {a : Act} {Q : Exit → Act → World → Prop} (hgd : op.guard = none) (ty : TypeId) (x y : Operand) (ho : op.op = .store ty x y)
    (b : Nat) (cs cur : List Value) (t : TypeId) (hx : a.eval x = .pointer (some ⟨b, 0, none⟩)) (hy : a.eval y = .agg cs.toArray) (hg : w.heap[b]? = some (.cells cur.toArray t (0, 0))) (hl : cur.length = cs.length)
    (hi : (P.info? ty).map (·.size) = some cs.length) (h1 : ∀ v ∈ cs, v.oneCell' = true)
    (h : ∀ w', Hid (w'.heap[b]? = some (.cells cs.toArray t (0, 0))) → Keeps [b] w w' → wpList P ops Q rest (a.put op.dst undef) w') : wpList P ops Q (op :: rest) a w := by
  refine wpList_store_mid hgd ty x y ho b 0 cs.toArray hx hy (fun j hj => ?_) (by simpa using hi) (all_oneCell_toArray h1) ?_
  · have hj' : j < cur.length := by simp at hj; omega
    rw [Nat.zero_add]
    exact ⟨by rw [cell_of_row _ _ _ _ _ _ hg]; simp [hj'], frozen_of_row w b j _ _ hg⟩
  · refine h _ ?_ ((Keeps.refl [b] w).setCells b 0 _ (.inl (by simp)))
    show _ = _
    rw [heap_setCells_same _ b 0 w cur t hg (by simp; omega)]
    simp [hl]

/-- 'copy(x[..], bytes)', into a block that is known whole. -/
theorem op_copyB {P : Program} {w : World} {o : Oper} {a : Act} {K : Act → World → Prop} {Q : Exit → Act → World → Prop} (d s : Operand) (dT sT elem : TypeId)
    (ho : o.op = .call { callee := .builtin .copy, args := #[d, s], argTypes := #[dT, sT] }) (hu : P.underlying dT = some (.slice elem)) (hsz : (P.info? elem).map (·.size) = some 1)
    (g off dLen dCap : Nat) (hd : a.eval d = .slice (some ⟨g, off, none⟩) dLen dCap) (A2 : Option Addr) (c2 : Nat) (l2 : List UInt8) (hs : a.eval s = .slice A2 l2.length c2) (hr : RdB w A2 l2)
    (cur : List UInt8) (t : TypeId) (hg : w.heap[g]? = some (.cells (encB cur).toArray t (0, 0))) (hfit : off + dLen ≤ cur.length)
    (h : ∀ w', Hid (w'.heap[g]? = some (.cells (encB (cur.take off ++ l2.take dLen ++ cur.drop (off + min l2.length dLen))).toArray t (0, 0))) → Keeps [g] w w' → K (a.put o.dst (.int .i64 (min l2.length dLen : Nat))) w') : o.wp P a w K Q := by
  by_cases h0 : min l2.length dLen = 0
  · have hrun := run_copy_none (P := P) w dT sT o.type elem (some ⟨g, off, none⟩) A2 dLen dCap l2.length c2 hu hsz h0
    unfold Oper.wp execOp
    simp only [ho, resolve, invoke, builtin, Sem.run_bind, Sem.run_pure, Result.andThen_ok, List.map_toArray, List.map_cons, List.map_nil, hd, hs, hrun]
    rw [h0] at h
    refine h w ?_ (Keeps.refl _ _)
    show _ = _
    rw [hg]
    have : l2.take dLen = [] := by
      rw [List.take_eq_nil_iff]
      rcases Nat.min_eq_zero_iff.1 h0 with h1 | h1
      · exact .inr (List.eq_nil_of_length_eq_zero h1)
      · exact .inl h1
    rw [this]
    simp
  · obtain ⟨ad, e, hc⟩ := hr.2 (by simp; omega)
    subst e
    have hlen : (encB (l2.take dLen)).length = Nat.min l2.length dLen := by simp [Nat.min_comm]
    have hrun := run_copy_row (P := P) w dT sT o.type elem g off dLen dCap ad l2.length c2 (encB cur).toArray t (encB (l2.take dLen)) hu hsz hg hlen
      (fun j v hv => hc j v (by rw [encB_take, List.getElem?_take] at hv; split at hv; exact hv; cases hv)) (by simp; omega) (encB_one _)
    have e : (encB cur).toArray.toList = encB cur := rfl
    rw [e, hlen] at hrun
    obtain ⟨W, hW⟩ : ∃ W, W = w.setRow g ((encB cur).take off ++ encB (l2.take dLen) ++ (encB cur).drop (off + Nat.min l2.length dLen)).toArray := ⟨_, rfl⟩
    have h1 : W.heap[g]? = some (.cells (encB (cur.take off ++ l2.take dLen ++ cur.drop (off + min l2.length dLen))).toArray t (0, 0)) := by
      rw [hW, setRow_heap w g _ _ t _ hg, ← encB_take, ← encB_drop, ← encB_append, ← encB_append]
    have h2 : Keeps [g] w W := by rw [hW]; exact ⟨rfl, rfl, rfl, by simp [World.setRow], fun k _ hk => setRow_other w g k _ (by simpa using hk)⟩
    rw [← hW] at hrun
    unfold Oper.wp execOp
    simp only [ho, resolve, invoke, builtin, Sem.run_bind, Sem.run_pure, Result.andThen_ok, List.map_toArray, List.map_cons, List.map_nil, hd, hs, hrun]
    exact h W h1 h2
end Go.Proofs.YthppbefemfkccaaDoor
namespace Go.Proofs.YthppbefemfkccaaDoor
open Go.RowKit

/-- So many bytes off: what is left, the error, the bytes. -/
def offR (n : Nat) (l : List UInt8) (e : Int) : List UInt8 × Int × List UInt8 := if e ≠ 0 then (l, e, []) else if l.length < n then (l, 12, []) else (l.drop n, 0, l.take n)
/-- A reader's call that hands bytes of its own out. -/
def OffP (g : Nat) (A : Option Addr) (r : List UInt8 × Int × List UInt8) (w : World) (en : Ending) (w' : World) : Prop :=
  ∃ A' c' l' A2 c2 t, Hid (l' = r.1) ∧ Hid (t = r.2.2) ∧ en = .returned (.slice A2 t.length c2) ∧ Rdr w' g A' c' l' r.2.1 ∧ RdB w' A2 t ∧ t.length ≤ c2 ∧ (∀ a, A2 = some a → a.block ∈ blk A) ∧ Keeps [g] w w' ∧ (∀ a, A' = some a → a.block ∈ blk A)
theorem OffP.nil {w w' : World} {g : Nat} {A : Option Addr} {c : Nat} {l : List UInt8} {e : Int} (h : Rdr w' g A c l e) (hk : Keeps [g] w w') : OffP g A (l, e, []) w (.returned (.slice none 0 0)) w' :=
  ⟨A, c, l, none, 0, [], rfl, rfl, rfl, h, RdB.nil _ _, Nat.le_refl _, by simp, hk, fun a ha => mem_blk.2 ⟨a, ha, rfl⟩⟩

theorem infoB1 : (Tryd.prog.info? 5).map (·.size) = some 1 := by kernel_rfl

set_option maxHeartbeats 1000000 in
theorem off_any (g : Nat) (A : Option Addr) (c : Nat) (l : List UInt8) (e : Int) (w : World) (h : Rdr w g A c l e) (n : Nat) (hn47 : n ≤ 140737488355328) :
    Calls Tryd.prog 49 #[.pointer (some ⟨g, 0, none⟩), .int .i64 n] w (OffP g A (offR n l e) w) := by
  have H := Lib.hid h
  have c0 := h.c0
  have c1 := h.c1
  have f0 := h.f0
  have f1 := h.f1
  have hcl := h.2.2.1
  have h64 := h.2.2.2.1
  clear h
  by_cases he : e = 0
  · subst he
    rw [errV_zero] at c1
    have hd : decide ((0 : Int) ≠ 0) = false := by simp
    by_cases hl : l.length < n
    · have e1 : offR n l 0 = (l, 12, []) := by unfold offR; rw [if_neg (by simp), if_pos hl]
      rw [e1]
      have hl' : (l.length : Int) < (n : Int) := by omega
      clear e1 hl
      go_enter Tryd.func49, Tryd.ntmps49
      go_wp2_with fail
      refine (stuck_any g A c _ 0 _ H.out).mono ?_
      rintro en w' ⟨rfl, rfl⟩
      rw [hd]
      go_wp2_with fail
      go_ret
      exact OffP.nil (((errV_other (n := 12) (by decide)) ▸ H.out.bad 12)) (Keeps.setCell (p := ⟨g, 1, none⟩) (Keeps.refl [g] w) (.inl (by simp)) _)
    · have e1 : offR n l 0 = (l.drop n, 0, l.take n) := by unfold offR; rw [if_neg (by simp), if_neg hl]
      rw [e1]
      have hl' : ¬ (l.length : Int) < (n : Int) := by omega
      have hn1 : (n : Int) ≤ (c : Int) := by omega
      have hn2 : (n : Int) ≤ (l.length : Int) := by omega
      have HL := Lib.hid hl
      clear e1 hl
      go_enter Tryd.func49, Tryd.ntmps49
      go_wp2_with fail
      refine (stuck_any g A c _ 0 _ H.out).mono ?_
      rintro en w' ⟨rfl, rfl⟩
      rw [hd]
      go_wp2_with (first
        | (refine wpList_sec rfl 44 (.tmp 22) none (some (.tmp 23)) (some (.tmp 24)) rfl Tryd.underlying44 infoB1 A l.length c 0 n n rfl Bnd.no (Bnd.at_ rfl) (Bnd.at_ rfl) (by omega) (by omega) (by omega) (by simp) ?_; rw [secA_zero, Nat.sub_zero])
        | (refine wpList_sec rfl 44 (.tmp 30) (some (.tmp 31)) none none rfl Tryd.underlying44 infoB1 A l.length c n l.length c rfl (Bnd.at_ rfl) Bnd.no Bnd.no (by omega) (by omega) (by omega) (by simp) ?_))
      go_ret
      have hlen : (l.take n).length = n := by simp; omega
      refine ⟨secA A n c 1, c - n, l.drop n, A, n, l.take n, rfl, rfl, by rw [hlen]; rfl, ?_, ?_, by omega, fun a ha => mem_blk.2 ⟨a, ha, rfl⟩, Keeps.setCell (p := ⟨g, 0, none⟩) (Keeps.refl [g] w) (.inl (by simp)) _, fun a ha => ?_⟩
      · exact Rdr.took_n H.out _ _ _ _ (by simp) (H.out.2.1.tail n c (by omega) hcl) (by omega) (by omega) (fun a ha hp => by obtain ⟨b, hb, e⟩ := secA_block ha; rw [e]; exact H.out.2.2.2.2 b hb (by omega))
      · exact RdB.keeps (H.out.2.1.head n (by omega)) (Keeps.setCell (S := [g]) (p := ⟨g, 0, none⟩) (Keeps.refl [g] w) (.inl (by simp)) _) (fun a ha hp => by have := H.out.2.2.2.2 a ha (by rw [hlen] at hp; omega); simpa using this)
      · obtain ⟨b, hb, e⟩ := secA_block ha
        exact mem_blk.2 ⟨b, hb, e.symm⟩
  · have e1 : offR n l e = (l, e, []) := by unfold offR; rw [if_pos he]
    rw [e1]
    have hd : decide (e ≠ 0) = true := by simp [he]
    clear e1
    go_enter Tryd.func49, Tryd.ntmps49
    go_wp2_with fail
    refine (stuck_any g A c _ e _ H.out).mono ?_
    rintro en w' ⟨rfl, rfl⟩
    rw [hd]
    go_wp2_with fail
    go_ret
    exact OffP.nil H.out (Keeps.refl [g] w)

theorem OffP.cases {g : Nat} {A : Option Addr} {r : List UInt8 × Int × List UInt8} {w w' : World} {en : Ending} (h : OffP g A r w en w') :
    ∃ A' c' l' A2 c2 t, en = .returned (.slice A2 t.length c2) ∧ Hid (l' = r.1) ∧ Hid (t = r.2.2) ∧ Rdr w' g A' c' l' r.2.1 ∧ RdB w' A2 t ∧ t.length ≤ c2 ∧ (∀ a, A2 = some a → a.block ∈ blk A) ∧ Keeps [g] w w' ∧ (∀ a, A' = some a → a.block ∈ blk A) := by
  obtain ⟨A', c', l', A2, c2, t, h1, h2, h3, h4⟩ := h
  exact ⟨A', c', l', A2, c2, t, h3, h1, h2, h4⟩

/-- A truth. -/
def boolR (l : List UInt8) (e : Int) : List UInt8 × Int × Bool :=
  if e ≠ 0 then (l, e, false) else match l with
  | [] => ([], 12, false)
  | b :: t => if 1 < b.toNat then (b :: t, 3, false) else (t, 0, decide (b.toNat = 1))

end Go.Proofs.YthppbefemfkccaaDoor
namespace Go.Proofs.YthppbefemfkccaaDoor
open Go.RowKit

/-- Bytes, at most so many. -/
def bytesR (most : Int) (l : List UInt8) (e : Int) : List UInt8 × Int × List UInt8 :=
  if e ≠ 0 then (l, e, []) else if most < 0 then (l, 1, [])
  else if (bnd most.toNat 2 12 l).2.1 ≠ 0 then (l, (bnd most.toNat 2 12 l).2.1, [])
  else ((bnd most.toNat 2 12 l).1.drop (bnd most.toNat 2 12 l).2.2, 0, (bnd most.toNat 2 12 l).1.take (bnd most.toNat 2 12 l).2.2)
theorem bnd_bad {most : Nat} {above left : Int} {l : List UInt8} (h : (bnd most above left l).2.1 ≠ 0) : (bnd most above left l).1 = l ∧ (bnd most above left l).2.2 = 0 := by
  unfold bnd at h ⊢
  split
  · exact ⟨rfl, rfl⟩
  · rename_i h1
    rw [if_neg h1] at h
    split
    · exact ⟨rfl, rfl⟩
    · rename_i h2
      rw [if_neg h2] at h
      split
      · exact ⟨rfl, rfl⟩
      · rename_i h3
        rw [if_neg h3] at h
        exact absurd rfl h
theorem bnd_good {most : Nat} {above left : Int} {l : List UInt8} (ha : above ≠ 0) (hl : left ≠ 0) (h : (bnd most above left l).2.1 = 0) : (bnd most above left l).2.2 ≤ (bnd most above left l).1.length ∧ (bnd most above left l).1 = l.drop (numB l).2.1 ∧ (bnd most above left l).2.2 = (numB l).1 := by
  unfold bnd at h ⊢
  split at h
  · rename_i h1; exact absurd h h1
  · rename_i h1
    rw [if_neg h1]
    split at h
    · exact absurd h ha
    · rename_i h2
      rw [if_neg h2]
      split at h
      · exact absurd h hl
      · rename_i h3
        rw [if_neg h3]
        refine ⟨?_, rfl, rfl⟩
        show (numB l).1 ≤ (l.drop (numB l).2.1).length
        rw [List.length_drop]
        have : ¬ (l.length - (numB l).2.1 < (numB l).1) := fun h4 => h3 ⟨h4, hl⟩
        omega
theorem bnd_zero (l : List UInt8) : bnd 0 2 12 l = (if (numB l).2.2 ≠ 0 then (l, (numB l).2.2, 0) else if 0 < (numB l).1 then (l, 2, 0) else (l.drop (numB l).2.1, 0, (numB l).1)) := by
  unfold bnd
  by_cases h1 : (numB l).2.2 ≠ 0
  · rw [if_pos h1, if_pos h1]
  · rw [if_neg h1, if_neg h1]
    by_cases h2 : 0 < (numB l).1
    · rw [if_pos h2, if_pos h2]
    · rw [if_neg h2, if_neg h2, if_neg (by omega)]

/-- A reader's call that hands new bytes out. -/
def BytP (g : Nat) (A : Option Addr) (r : List UInt8 × Int × List UInt8) (w : World) (en : Ending) (w' : World) : Prop :=
  ∃ A' c' l' A2 c2 t, en = .returned (.slice A2 t.length c2) ∧ Hid (l' = r.1) ∧ Hid (t = r.2.2) ∧ Rdr w' g A' c' l' r.2.1 ∧ OwnB 5 w' A2 c2 t ∧ (∀ a, A2 = some a → w.heap.size ≤ a.block) ∧ Keeps [g] w w' ∧ (∀ a, A' = some a → a.block ∈ blk A)

/-- The last steps of Bytes. -/
theorem BytP.of {g : Nat} {A : Option Addr} {r : List UInt8 × Int × List UInt8} {w w1 w2 w3 : World} {A1 A' A3 : Option Addr} {c' c3 : Nat} {l' t t3 : List UInt8} (hk1 : Keeps [g] w w1) (hb1 : ∀ a, A1 = some a → a.block ∈ blk A)
    (hl : l' = r.1) (ht : t = r.2.2) (hr : Rdr w2 g A' c' l' r.2.1) (hk2 : Keeps [g] w1 w2) (hb2 : ∀ a, A' = some a → a.block ∈ blk A1) (hn : NewStep 5 t w2 w3 A3 c3 t3) : BytP g A r w (.returned (.slice A3 t3.length c3)) w3 := by
  obtain ⟨h1, h2, h3, h4⟩ := hn
  refine ⟨A', c', l', A3, c3, t3, rfl, hl, h1.out.trans ht, hr.keeps0 h4, h2, fun a ha => ?_, (hk1.trans hk2 (fun t ht => .inl ht)).trans h4 (by simp), fun a ha => ?_⟩
  · have := h3 a ha; have := hk1.size; have := hk2.size; omega
  · obtain ⟨b, e1, e2⟩ := mem_blk.1 (hb2 a ha)
    rw [← e2]; exact hb1 b e1

theorem max0 (n : Int) (h1 : -9223372036854775808 ≤ n) (h2 : n ≤ 9223372036854775807) : IntKind.u64.wrap (if n < 0 then 0 else n) = (n.toNat : Int) := by
  rw [IntKind.wrap_u64]
  split <;> omega

set_option maxHeartbeats 4000000 in
theorem rdbytes_any (g : Nat) (A : Option Addr) (c : Nat) (l : List UInt8) (e : Int) (w : World) (h : Rdr w g A c l e) (most : Int) (h1 : -9223372036854775808 ≤ most) (h2 : most ≤ 9223372036854775807) :
    Calls Tryd.prog 29 #[.pointer (some ⟨g, 0, none⟩), .int .i64 most] w (BytP g A (bytesR most l e) w) := by
  have H := Lib.hid h
  have c0 := h.c0
  have c1 := h.c1
  have f1 := h.f1
  clear h
  have tail : ∀ (k : Nat) (w1 : World) (A1 : Option Addr) (c1 : Nat) (l1 : List UInt8) (e1 : Int), Rdr w1 g A1 c1 l1 e1 → Keeps [g] w w1 → (∀ a, A1 = some a → a.block ∈ blk A) → k ≤ 140737488351232 → bytesR most l e = offR k l1 e1 →
      Calls Tryd.prog 49 #[.pointer (some ⟨g, 0, none⟩), .int .i64 k] w1 fun en w2 => ∃ A2 c2 t', en = .returned (.slice A2 (List.length (α := UInt8) t') c2) ∧
        Calls Tryd.prog 48 #[.slice A2 t'.length c2] w2 (BytP g A (bytesR most l e) w) := by
    intro k w1 A1 c1 l1 e1 hr hk hb hk47 hR
    refine (off_any g A1 c1 l1 e1 w1 hr k (by omega)).mono ?_
    intro en w2 hp
    obtain ⟨A', c', l', A2, c2, t, rfl, hl', ht, hr2, hrd, hc2, _, hk2, hb2⟩ := hp.cases
    refine ⟨A2, c2, t, rfl, (clone_any A2 t c2 w2 ?_ hrd).mono ?_⟩
    · rw [ht.out]
      unfold offR
      have := hr.2.2.2.1
      split
      · simp
      · split
        · simp
        · simp; omega
    · intro en w3 hp
      obtain ⟨A3, c3, l3, h3⟩ := hp
      obtain ⟨h3a, rfl, h3b⟩ := h3
      refine BytP.of hk hb (hl'.out.trans (by rw [hR])) (ht.out.trans (by rw [hR])) (by rw [hR]; exact hr2) hk2 hb2 ⟨h3a, h3b⟩
  have TAIL := Lib.hid tail
  clear tail
  by_cases he : e = 0
  · subst he
    rw [errV_zero] at c1
    have hd : decide ((0 : Int) ≠ 0) = false := by simp
    by_cases hm : most < 0
    · have e1 : bytesR most l 0 = (l, 1, []) := by unfold bytesR; rw [if_neg (by simp), if_pos hm]
      have E1 := Lib.hid e1
      have hmx : max most 0 = 0 := by omega
      clear e1
      go_enter Tryd.func29, Tryd.ntmps29
      go_wp2_with fail
      refine (stuck_any g A c _ 0 _ H.out).mono ?_
      rintro en w' ⟨rfl, rfl⟩
      rw [hd]
      go_wp2_with fail
      have HB := Lib.hid (((errV_other (n := 1) (by decide)) ▸ H.out.bad 1 : Rdr (w.setCell ⟨g, 1, none⟩ (.iface 55 (.int .i64 1))) g A c l 1))
      have HKB := Lib.hid (Keeps.setCell (S := [g]) (p := ⟨g, 1, none⟩) (Keeps.refl [g] w) (.inl (by simp)) (.iface 55 (.int .i64 1)))
      refine Calls.mono (bounded_bad g A c l 1 _ HB.out (by decide) 0 (.iface 55 (.int .i64 2)) (.iface 55 (.int .i64 12))) ?_
      rintro en w2 ⟨A', c', l', hl', rfl, hr, hk, hb⟩
      have HP := Lib.hid (And.intro hr (And.intro (HKB.out.trans hk (fun t ht => .inl ht)) hb))
      have hl2 : l' = l := hl'.out
      have HL2 := Lib.hid hl2
      clear hr hk hb hl2 c0 c1 f1
      go_wp2_with fail
      refine (TAIL.out 0 w2 A' c' l' 1 HP.out.1 HP.out.2.1 HP.out.2.2 (by decide) (by rw [E1.out, HL2.out]; rfl)).mono ?_
      rintro en w3 ⟨A2, c2, t, rfl, hcall⟩
      have HC := Lib.hid hcall
      clear hcall
      go_wp2_with fail
      refine HC.out.mono ?_
      intro en w4 hp
      obtain ⟨A5, c5, t5, rfl, hp⟩ : ∃ A5 c5 t5, en = .returned (.slice A5 (List.length t5) c5) ∧ BytP g A (bytesR most l 0) w en w4 := by obtain ⟨x1, x2, x3, x4, x5, x6, x7, x8⟩ := hp; exact ⟨x4, x5, x6, x7, x1, x2, x3, x4, x5, x6, x7, x8⟩
      have HPP := Lib.hid hp
      clear hp
      go_wp2_with fail
      go_ret
      exact HPP.out
    · have hm0 : 0 ≤ most := by omega
      obtain ⟨m, hmm⟩ : ∃ m : Nat, (m : Int) = most := ⟨most.toNat, by omega⟩
      have HM := Lib.hid (show most.toNat = m by omega)
      subst hmm
      go_enter Tryd.func29, Tryd.ntmps29
      go_wp2_with fail
      refine (stuck_any g A c _ 0 _ H.out).mono ?_
      rintro en w' ⟨rfl, rfl⟩
      rw [hd]
      go_wp2_with fail
      obtain ⟨⟨l1, e1, k⟩, hB⟩ : ∃ r, r = bnd m 2 12 l := ⟨_, rfl⟩
      have hk47 : k ≤ 140737488351232 ∧ bytesR (m : Int) l 0 = offR k l1 e1 := by
        have h64 := H.out.2.2.2.1
        unfold bytesR
        rw [if_neg (by simp), if_neg (by omega), HM.out, ← hB]
        by_cases hz : e1 = 0
        · subst hz
          have hg := bnd_good (most := m) (above := 2) (left := 12) (l := l) (by decide) (by decide) (by rw [← hB])
          rw [← hB] at hg
          obtain ⟨g1, g2, g3⟩ := hg
          simp only at g1 g2
          have g4 : l1.length ≤ l.length := by rw [g2, List.length_drop]; omega
          refine ⟨by omega, ?_⟩
          unfold offR
          simp only [ne_eq, not_true_eq_false, if_false]
          rw [if_neg (by omega)]
        · have hg := bnd_bad (most := m) (above := 2) (left := 12) (l := l) (by rw [← hB]; exact hz)
          rw [← hB] at hg
          obtain ⟨g1, g2⟩ := hg
          simp only at g1 g2
          subst g1; subst g2
          refine ⟨by decide, ?_⟩
          unfold offR
          rw [if_pos (show (l1, e1, 0).2.1 ≠ 0 from hz), if_pos hz]
      have HK := Lib.hid hk47
      have hkk : (k : Int) ≤ 140737488351232 := by omega
      have hb := bounded_any g A c l w H.out m 2 12 (by decide)
      rw [errV_other (by decide), errV_other (by decide), ← hB] at hb
      have HBB := Lib.hid hb
      clear hB hk47 hb
      refine HBB.out.mono ?_
      rintro en w2 ⟨A', c', l', hl', rfl, hr, hk, hb⟩
      have HP := Lib.hid (And.intro hr (And.intro hk hb))
      have HL2 := Lib.hid (show l' = l1 from hl'.out)
      have hwr : IntKind.i64.wrap (k : Int) = (k : Int) := by rw [IntKind.wrap_i64]; omega
      clear hr hk hb c0 c1 f1
      go_wp2_with fail
      refine (TAIL.out k w2 A' c' l' e1 HP.out.1 HP.out.2.1 HP.out.2.2 HK.out.1 (by rw [HL2.out]; exact HK.out.2)).mono ?_
      rintro en w3 ⟨A2, c2, t, rfl, hcall⟩
      have HC := Lib.hid hcall
      clear hcall
      go_wp2_with fail
      refine HC.out.mono ?_
      intro en w4 hp
      obtain ⟨A5, c5, t5, rfl, hp⟩ : ∃ A5 c5 t5, en = .returned (.slice A5 (List.length t5) c5) ∧ BytP g A (bytesR (m : Int) l 0) w en w4 := by obtain ⟨x1, x2, x3, x4, x5, x6, x7, x8⟩ := hp; exact ⟨x4, x5, x6, x7, x1, x2, x3, x4, x5, x6, x7, x8⟩
      have HPP := Lib.hid hp
      clear hp
      go_wp2_with fail
      go_ret
      exact HPP.out
  · have e1 : bytesR most l e = (l, e, []) := by unfold bytesR; rw [if_pos he]
    have E1 := Lib.hid e1
    have hd : decide (e ≠ 0) = true := by simp [he]
    obtain ⟨m, hmm⟩ : ∃ m : Nat, (m : Int) = max most 0 := ⟨(max most 0).toNat, by omega⟩
    have EO := Lib.hid (show offR 0 l e = (l, e, []) by unfold offR; rw [if_pos he])
    clear e1
    go_enter Tryd.func29, Tryd.ntmps29
    go_wp2_with fail
    refine (stuck_any g A c _ e _ H.out).mono ?_
    rintro en w' ⟨rfl, rfl⟩
    rw [hd]
    go_wp2_with fail
    rw [← hmm]
    refine Calls.mono (bounded_bad g A c l e _ H.out he m (.iface 55 (.int .i64 2)) (.iface 55 (.int .i64 12))) ?_
    rintro en w2 ⟨A', c', l', hl', rfl, hr, hk, hb⟩
    have HP := Lib.hid (And.intro hr (And.intro hk hb))
    have HL2 := Lib.hid (show l' = l from hl'.out)
    clear hr hk hb c0 c1 f1 hmm
    go_wp2_with fail
    refine (TAIL.out 0 w2 A' c' l' e HP.out.1 HP.out.2.1 HP.out.2.2 (by decide) (by rw [E1.out, HL2.out, EO.out])).mono ?_
    rintro en w3 ⟨A2, c2, t, rfl, hcall⟩
    have HC := Lib.hid hcall
    clear hcall
    go_wp2_with fail
    refine HC.out.mono ?_
    intro en w4 hp
    obtain ⟨A5, c5, t5, rfl, hp⟩ : ∃ A5 c5 t5, en = .returned (.slice A5 (List.length t5) c5) ∧ BytP g A (bytesR most l e) w en w4 := by obtain ⟨x1, x2, x3, x4, x5, x6, x7, x8⟩ := hp; exact ⟨x4, x5, x6, x7, x1, x2, x3, x4, x5, x6, x7, x8⟩
    have HPP := Lib.hid hp
    clear hp
    go_wp2_with fail
    go_ret
    exact HPP.out

end Go.Proofs.YthppbefemfkccaaDoor
namespace Go.Proofs.YthppbefemfkccaaDoor
open Go.RowKit
theorem OwnB.cap {E : TypeId} {w : World} {A : Option Addr} {c : Nat} {l : List UInt8} (h : OwnB E w A c l) : l.length ≤ c := by
  rcases h.2 with ⟨h1, h2⟩ | ⟨g, cap, cur, h1, _, _, h2, _⟩
  · rw [h2]; exact Nat.zero_le _
  · injection h1 with _ _ h3; rw [h3]; exact h2
theorem errof_any (g : Nat) (A : Option Addr) (c : Nat) (l : List UInt8) (e : Int) (w : World) (h : Rdr w g A c l e) :
    Calls Tryd.prog 50 #[.pointer (some ⟨g, 0, none⟩)] w fun en w' => en = .returned (errV e) ∧ w = w' := by
  have c1 := h.c1
  clear h
  go_enter Tryd.func50, Tryd.ntmps50
  go_wp2_with fail
  go_ret
  exact ⟨rfl, rfl⟩
/-- The first error, or that bytes are left. -/
def doneR (l : List UInt8) (e : Int) : Int := if e ≠ 0 then e else if l.length = 0 then 0 else 3
theorem rddone_any (g : Nat) (A : Option Addr) (c : Nat) (l : List UInt8) (e : Int) (w : World) (h : Rdr w g A c l e) :
    Calls Tryd.prog 30 #[.pointer (some ⟨g, 0, none⟩)] w fun en w' => en = .returned (errV (doneR l e)) ∧ w = w' := by
  have H := Lib.hid h
  have c0 := h.c0
  clear h
  by_cases he : e = 0
  · subst he
    by_cases hl : l.length = 0
    · have e1 : doneR l 0 = 0 := by unfold doneR; rw [if_neg (by simp), if_pos hl]
      rw [e1, errV_zero]
      rw [hl] at c0
      go_enter Tryd.func30, Tryd.ntmps30
      go_wp2_with fail
      refine (errof_any g A c l 0 _ H.out).mono ?_
      rintro en w' ⟨rfl, rfl⟩
      rw [errV_zero]
      go_wp2_with fail
      go_ret
      exact ⟨rfl, rfl⟩
    · have e1 : doneR l 0 = 3 := by unfold doneR; rw [if_neg (by simp), if_neg hl]
      rw [e1, errV_other (by decide)]
      have hl' : ¬ (l.length : Int) = 0 := by omega
      go_enter Tryd.func30, Tryd.ntmps30
      go_wp2_with fail
      refine (errof_any g A c l 0 _ H.out).mono ?_
      rintro en w' ⟨rfl, rfl⟩
      rw [errV_zero]
      go_wp2_with fail
      go_ret
      exact ⟨rfl, rfl⟩
  · have e1 : doneR l e = e := by unfold doneR; rw [if_pos he]
    rw [e1, errV_other he]
    go_enter Tryd.func30, Tryd.ntmps30
    go_wp2_with fail
    refine (errof_any g A c l e _ H.out).mono ?_
    rintro en w' ⟨rfl, rfl⟩
    rw [errV_other he]
    go_wp2_with fail
    go_ret
    exact ⟨rfl, rfl⟩
end Go.Proofs.YthppbefemfkccaaDoor
namespace Go.Proofs.YthppbefemfkccaaDoor
open Go.RowKit
attribute [local irreducible] bitsK orAll

def decN (b : List UInt8) : List UInt8 × Int × Nat := uintR 1048576 b 0
def decA (b : List UInt8) : List UInt8 × Int × Nat := uintR 16 (decN b).1 (decN b).2.1
def decX (b : List UInt8) : List UInt8 × Int × List UInt8 := bytesR (b.length : Int) (decA b).1 (decA b).2.1
def decE (b : List UInt8) : Int := doneR (decX b).1 (decX b).2.1
def nK (b : List UInt8) : Nat := (decN b).2.2
def kK (b : List UInt8) : Nat := (decA b).2.2
def xK (b : List UInt8) : List UInt8 := (decX b).2.2
def spareK (n : Nat) (x : List UInt8) : Nat := (x.getD (x.length - 1) 0).toNat / 2 ^ (n % 8)
def decOk (b : List UInt8) : Prop := decE b = 0 ∧ FitB (nK b) (kK b) ∧ (xK b).length = (nK b + 7) / 8 ∧ (nK b % 8 = 0 ∨ spareK (nK b) (xK b) = 0)
theorem uintR_le (most : Nat) (l : List UInt8) (e : Int) : (uintR most l e).2.2 ≤ most := by
  unfold uintR
  split
  · exact Nat.zero_le _
  · by_cases h : (bnd most 4 0 l).2.1 = 0
    · exact (bnd_ok (by decide) h).1
    · rw [(bnd_bad h).2]; exact Nat.zero_le _
theorem bytesR_len (most : Int) (l : List UInt8) (e : Int) (h : most ≤ 140737488351232) : (bytesR most l e).2.2.length ≤ 140737488351232 := by
  unfold bytesR
  repeat' split
  · simp
  · simp
  · simp
  · rename_i h1 h2 h3
    have h4 : (bnd most.toNat 2 12 l).2.1 = 0 := by simpa using h3
    have := (bnd_ok (by decide) h4).1
    simp only [List.length_take]
    omega
/-- A filter, or the error. -/
def DecP (b : List UInt8) (w : World) (e : Ending) (w' : World) : Prop :=
  (decOk b ∧ ∃ g A c, e = .returned (.tuple #[.pointer (some ⟨g, 0, none⟩), .nilIface]) ∧ Fm w' g (nK b) (kK b) A c (xK b) ∧ w.heap.size ≤ g ∧ (∀ a, A = some a → w.heap.size ≤ a.block) ∧ Keeps [] w w') ∨
  (¬ decOk b ∧ e = .returned (.tuple #[.pointer none, errV 3]) ∧ Keeps [] w w')
set_option maxRecDepth 100000 in
set_option maxHeartbeats 4000000 in
theorem dec_any (A : Option Addr) (b : List UInt8) (c : Nat) (w : World) (hl : b.length ≤ 140737488351232) (hc : b.length ≤ c) (hr : RdB w A b) (hA : ∀ a, A = some a → 0 < b.length → a.block < w.heap.size) :
    Calls Tryd.prog 15 #[.slice A b.length c] w (DecP b w) := by
  have H0 := Lib.hid (And.intro (And.intro hl hc) (And.intro hr hA))
  have E3 := Lib.hid (errV_other (show (3 : Int) ≠ 0 by decide))
  clear hl hc hr hA
  go_enter Tryd.func15, Tryd.ntmps15
  go_wp2_with fail
  refine (read_any A b c w H0.out.1.1 H0.out.1.2 H0.out.2.1 H0.out.2.2).mono ?_
  rintro e w1 ⟨rfl, hr1, hk1⟩
  obtain ⟨g, hg⟩ : ∃ g, g = w.heap.size := ⟨_, rfl⟩
  rw [← hg] at hr1 ⊢
  have H1 := Lib.hid (And.intro hr1 hk1)
  have HG := Lib.hid (show ∀ t ∈ [g], w.heap.size ≤ t by simp [hg])
  clear hr1 hk1 hg
  go_wp2_with fail
  refine (rduint_any g A c b 0 w1 H1.out.1 1048576).mono ?_
  rintro e w2 ⟨A2, c2, l2, hl2, rfl, hr2, hk2, hb2⟩
  obtain ⟨n, hn⟩ : ∃ n, n = nK b := ⟨_, rfl⟩
  have hnle : n ≤ 1048576 := by rw [hn]; exact uintR_le _ _ _
  have H2 := Lib.hid (show Rdr w2 g A2 c2 l2 (decN b).2.1 ∧ l2 = (decN b).1 ∧ Keeps [] w w2 from ⟨hr2, hl2.out, H1.out.2.trans hk2 (fun t ht => .inr (HG.out t ht))⟩)
  rw [show (uintR 1048576 b 0).2.2 = n by rw [hn]; rfl]
  have HN := Lib.hid hn
  have f1 : IntKind.i64.wrap (n : Int) = (n : Int) := by rw [IntKind.wrap_i64]; omega
  clear hl2 hr2 hk2 hb2 hn H1
  go_wp2_with fail
  refine (rduint_any g A2 c2 l2 (decN b).2.1 w2 H2.out.1 16).mono ?_
  rintro e w3 ⟨A3, c3, l3, hl3, rfl, hr3, hk3, hb3⟩
  obtain ⟨k, hk⟩ : ∃ k, k = kK b := ⟨_, rfl⟩
  have hkle : k ≤ 16 := by rw [hk]; exact uintR_le _ _ _
  have ek : uintR 16 l2 (decN b).2.1 = decA b := by rw [H2.out.2.1]; rfl
  rw [ek] at hl3 hr3 ⊢
  rw [show (decA b).2.2 = k by rw [hk]; rfl]
  have H3 := Lib.hid (show Rdr w3 g A3 c3 l3 (decA b).2.1 ∧ l3 = (decA b).1 ∧ Keeps [] w w3 from ⟨hr3, hl3.out, H2.out.2.2.trans hk3 (fun t ht => .inr (HG.out t ht))⟩)
  have HK := Lib.hid hk
  have f2 : IntKind.i64.wrap (k : Int) = (k : Int) := by rw [IntKind.wrap_i64]; omega
  clear hl3 hr3 hk3 hb3 hk H2 ek
  go_wp2_with fail
  refine (rdbytes_any g A3 c3 l3 (decA b).2.1 w3 H3.out.1 (b.length : Int) (by omega) (by have := H0.out.1.1; omega)).mono ?_
  rintro e w4 ⟨A4, c4, l4, A5, c5, x, rfl, hl4, hx, hr4, ho4, hn4, hk4, hb4⟩
  rw [H3.out.2.1] at hl4 hx hr4
  have H4 := Lib.hid (show Rdr w4 g A4 c4 l4 (decX b).2.1 ∧ l4 = (decX b).1 ∧ x = xK b ∧ OwnB 5 w4 A5 c5 x ∧ (∀ a, A5 = some a → w.heap.size ≤ a.block) ∧ Keeps [] w w4 from
    ⟨hr4, hl4.out, hx.out, ho4, fun a ha => Nat.le_trans H3.out.2.2.size (hn4 a ha), H3.out.2.2.trans hk4 (fun t ht => .inr (HG.out t ht))⟩)
  have HXL := Lib.hid (show x.length ≤ 140737488351232 from by rw [hx.out]; exact bytesR_len _ _ _ (by have := H0.out.1.1; omega))
  clear hl4 hx hr4 ho4 hn4 hk4 hb4 H3
  go_wp2_with fail
  refine (rddone_any g A4 c4 l4 (decX b).2.1 w4 H4.out.1).mono ?_
  rintro e w5 ⟨rfl, rfl⟩
  rw [show doneR l4 (decX b).2.1 = decE b by rw [H4.out.2.1]; rfl]
  by_cases he : decE b = 0
  · rw [he, errV_zero]
    have HE := Lib.hid he
    clear he
    by_cases hfit : FitB n k
    · obtain ⟨m, hm⟩ : ∃ m, m = (n + 7) / 8 := ⟨_, rfl⟩
      have HF := Lib.hid hfit
      unfold FitB at hfit
      have HM := Lib.hid (show m = (n + 7) / 8 ∧ 1 ≤ m from ⟨hm, by omega⟩)
      go_wp2_with fail
      refine (bnew_any n k w4 (by omega) (by omega)).mono ?_
      rintro e w5 ⟨gf, Af, rfl, hf, hgf, hAf, hk5⟩
      rw [← hm] at hf
      have q2 : w5.cell? ⟨gf, 2, none⟩ = some (.slice Af m m) := by have h := hf.cells.2.2; rwa [List.length_replicate] at h
      have fz := frozen_of_row w5 gf 2 _ _ hf.1
      have H5 := Lib.hid (show Fm w5 gf n k Af m (List.replicate m 0) ∧ w4.heap.size ≤ gf ∧ OwnB 5 w5 A5 c5 x ∧ Keeps [] w w5 ∧ w.heap.size ≤ gf from ⟨hf, hgf, H4.out.2.2.2.1.keeps0 hk5, H4.out.2.2.2.2.2.trans hk5 (by simp), by have := H4.out.2.2.2.2.2.size; omega⟩)
      have FIN := Lib.hid (show decOk b → DecP b w (.returned (.tuple #[.pointer (some ⟨gf, 0, none⟩), .nilIface])) (w5.setCell ⟨gf, 2, none⟩ (.slice A5 x.length c5)) from fun hok => by
        refine .inl ⟨hok, gf, A5, c5, rfl, ?_, H5.out.2.2.2.2, H4.out.2.2.2.2.1, H5.out.2.2.2.1.setCell (.inr H5.out.2.2.2.2) _⟩
        rw [← HN.out, ← HK.out, ← H4.out.2.2.1]
        refine ⟨?_, H5.out.2.2.1.keeps (S := [gf]) ((Keeps.refl [gf] w5).setCell (p := ⟨gf, 2, none⟩) (.inl (by simp)) _) (fun a ha => ?_), fun a ha => ?_⟩
        · rw [heap_setCell_same w5 gf 2 _ _ _ H5.out.1.1]; rfl
        · have := H4.out.2.2.2.1.lt a ha; have := H5.out.2.1; simp; omega
        · have := H4.out.2.2.2.1.lt a ha; have := H5.out.2.1; omega)
      clear hf hgf hAf hk5 hm
      by_cases hlen : x.length = m
      · have hl : ((x.length : Nat) : Int) = (m : Int) := by omega
        have hm1 : 1 ≤ m := HM.out.2
        have hm3 := HM.out.1
        obtain ⟨r, hr⟩ : ∃ r, r = n % 8 := ⟨_, rfl⟩
        have f3 : (n : Int).tmod 8 = (r : Int) := by rw [Int.tmod_eq_emod_of_nonneg (by omega), hr]; simp
        by_cases hr0 : r = 0
        · have hri : (r : Int) = 0 := by omega
          have HOK := Lib.hid (show decOk b from ⟨HE.out, by rw [← HN.out, ← HK.out]; exact HF.out, by rw [← HN.out, ← H4.out.2.2.1, hlen]; exact HM.out.1, .inl (by rw [← HN.out, ← hr]; exact hr0)⟩)
          rw [hri] at f3
          clear hr hr0 hri hlen hm3
          go_wp2_with fail
          go_ret2
          exact FIN.out HOK.out
        · have hri : ¬ (r : Int) = 0 := by omega
          have hr8 : (r : Int) < 8 := by omega
          obtain ⟨j, hj⟩ : ∃ j, j = m - 1 := ⟨_, rfl⟩
          have hjx : j < x.length := by omega
          have dj : (m : Int) - 1 = (j : Int) := by omega
          have hjm : (j : Int) < (m : Int) := by omega
          have hm2 : (m : Int) ≤ 131073 := by omega
          obtain ⟨gx, hgx, hcx, _⟩ := H5.out.2.2.1.at0 (show 0 < x.length by omega)
          have hc := hcx j hjx
          obtain ⟨v, hv⟩ : ∃ v, v = x[j] := ⟨_, rfl⟩
          rw [← hv] at hc
          subst hgx
          have HSP := Lib.hid (show spareK n x = v.toNat / 2 ^ r by
            unfold spareK
            rw [show x.length - 1 = j by omega, List.getD_eq_getElem?_getD, List.getElem?_eq_getElem hjx, Option.getD_some, ← hv, ← hr])
          have hvl := v.toNat_lt
          obtain ⟨q, hq⟩ : ∃ q, q = v.toNat / 2 ^ r := ⟨_, rfl⟩
          have dq : (v.toNat : Int) / 2 ^ r = (q : Int) := by rw [hq]; simp
          have hql : (q : Int) < 256 := by have := Nat.div_le_self v.toNat (2 ^ r); omega
          by_cases hs : q = 0
          · have hqi : (q : Int) = 0 := by omega
            have HOK := Lib.hid (show decOk b from ⟨HE.out, by rw [← HN.out, ← HK.out]; exact HF.out, by rw [← HN.out, ← H4.out.2.2.1, hlen]; exact HM.out.1, .inr (by rw [← HN.out, ← H4.out.2.2.1, HSP.out, ← hq]; exact hs)⟩)
            clear hr hr0 hlen hj hcx hv hq hs hm3
            go_wp2_with fail
            go_ret2
            exact FIN.out HOK.out
          · have hqi : ¬ (q : Int) = 0 := by omega
            have hqb : ((q : Int) != 0) = true := by simpa using hqi
            have hrb : ((r : Int) != 0) = true := by simpa using hri
            have HNO := Lib.hid (show ¬ decOk b from fun h => by
              have h1 := h.2.2.2
              rw [← HN.out, ← H4.out.2.2.1, HSP.out, ← hq, ← hr] at h1
              rcases h1 with h1 | h1
              · exact hr0 h1
              · exact hs h1)
            clear hr hr0 hlen hj hcx hv hq hs hm3
            go_wp2_with fail
            go_ret2
            exact .inr ⟨HNO.out, by rw [E3.out]; rfl, H5.out.2.2.2.1⟩
      · have hl : ¬ ((x.length : Nat) : Int) = (m : Int) := by omega
        have HNO := Lib.hid (show ¬ decOk b from fun h => hlen (by rw [H4.out.2.2.1, h.2.2.1, ← HN.out]; exact HM.out.1.symm))
        clear hlen
        go_wp2_with fail
        go_ret2
        exact .inr ⟨HNO.out, by rw [E3.out]; rfl, H5.out.2.2.2.1⟩
    · have hfit' : ¬ FitB (n : Int) (k : Int) := hfit
      have HNO := Lib.hid (show ¬ decOk b from fun h => hfit (by have := h.2.1; rwa [← HN.out, ← HK.out] at this))
      have HFIT := Lib.hid hfit'
      clear hfit hfit'
      go_wp2_with fail
      refine (bnew_no n k w4 HFIT.out).mono ?_
      rintro e w5 ⟨rfl, hk5⟩
      rw [errV_other (by decide)]
      have HK5 := Lib.hid hk5
      clear hk5
      go_wp2_with fail
      go_ret2
      exact .inr ⟨HNO.out, by rw [E3.out]; rfl, H4.out.2.2.2.2.2.trans HK5.out (by simp)⟩
  · rw [errV_other he]
    go_wp2_with fail
    go_ret2
    exact .inr ⟨fun h => he h.1, by rw [E3.out]; rfl, H4.out.2.2.2.2.2⟩
end Go.Proofs.YthppbefemfkccaaDoor
