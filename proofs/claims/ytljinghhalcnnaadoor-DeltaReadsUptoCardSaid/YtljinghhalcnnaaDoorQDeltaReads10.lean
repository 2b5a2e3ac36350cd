/- Whole rows stored, bytes copied: laws whose world behind is open but for what is known of it. No program is named here. What a reader takes off besides numbers: contracts. Bytes, texts, prints, counts that a reader takes off: contracts. Parts of bytes: plain. -/
import Derived.Test.YtljinghhalcnnaaDoorQDeltaReads4
import Derived.Laws.CopyOwn
import Derived.Laws.CopyRow
import Derived.Laws.IdiomCopy
import Derived.Deep.MidRow
import Derived.Test.YtljinghhalcnnaaDoorQDeltaReads9
import Derived.Test.YtljinghhalcnnaaDoorQDeltaReads2
import Derived.Test.YtljinghhalcnnaaDoorQDeltaReads7
namespace Go.Proofs.YtljinghhalcnnaaDoor
open Go.RowKit

theorem heap_setCells_other : ∀ (vs : List Value) (b o : Nat) (w : World) (k : Nat), k ≠ b → (w.setCells b o vs).heap[k]? = w.heap[k]?
  | [], _, _, _, _, _ => rfl
  | v :: r, b, o, w, k, h => by
    rw [World.setCells, heap_setCells_other r b (o + 1) _ k h, heap_setCell_other _ _ _ _ h]
theorem setCells_same : ∀ (vs : List Value) (b o : Nat) (w : World), (w.setCells b o vs).os = w.os ∧ (w.setCells b o vs).tape = w.tape ∧ (w.setCells b o vs).output = w.output ∧ (w.setCells b o vs).heap.size = w.heap.size
  | [], _, _, _ => ⟨rfl, rfl, rfl, rfl⟩
  | v :: r, b, o, w => by
    rw [World.setCells]
    have := setCells_same r b (o + 1) (w.setCell ⟨b, o, none⟩ v)
    exact ⟨this.1, this.2.1, this.2.2.1, this.2.2.2.trans (by simp)⟩
theorem Keeps.setCells {S : List Nat} {a w : World} (h : Keeps S a w) (b o : Nat) (vs : List Value) (hb : b ∈ S ∨ a.heap.size ≤ b) : Keeps S a (w.setCells b o vs) := by
  have hs := setCells_same vs b o w
  exact h.trans (T := [b]) ⟨hs.1, hs.2.1, hs.2.2.1, by omega, fun k _ hk => heap_setCells_other vs b o w k (by simpa using hk)⟩ (fun t ht => by simp at ht; subst ht; exact hb)
/-- A block whose cells from o on were stored. -/
theorem heap_setCells_same : ∀ (vs : List Value) (b o : Nat) (w : World) (cs : List Value) (t : TypeId), w.heap[b]? = some (.cells cs.toArray t (0, 0)) → o + vs.length ≤ cs.length →
    (w.setCells b o vs).heap[b]? = some (.cells (cs.take o ++ vs ++ cs.drop (o + vs.length)).toArray t (0, 0))
  | [], b, o, w, cs, t, h, _ => by simpa [World.setCells] using h
  | v :: r, b, o, w, cs, t, h, hl => by
    rw [World.setCells]
    have h1 : (w.setCell ⟨b, o, none⟩ v).heap[b]? = some (.cells (cs.set o v).toArray t (0, 0)) := by
      rw [heap_setCell_same w b o _ _ _ h]; simp
    rw [heap_setCells_same r b (o + 1) _ _ t h1 (by simp at hl ⊢; omega)]
    have ho : o < cs.length := by simp at hl; omega
    have e1 : (cs.set o v).take (o + 1) = cs.take o ++ [v] := by
      rw [List.take_succ_eq_append_getElem (by simpa using ho), List.take_set_of_le (Nat.le_refl o)]
      simp
    have e2 : (cs.set o v).drop (o + 1 + r.length) = cs.drop (o + (r.length + 1)) := by
      rw [List.drop_set_of_lt (by omega), show o + 1 + r.length = o + (r.length + 1) by omega]
    rw [e1, e2]
    simp

theorem wpList_store_rowK {P : Program} {w : World} {ops : Array Oper} {rest : List Oper} {op : Oper} {a : Act} {Q : Exit → Act → World → Prop} (hgd : op.guard = none) (ty : TypeId) (x y : Operand) (ho : op.op = .store ty x y)
    (b : Nat) (cs cur : List Value) (t : TypeId) (hx : a.eval x = .pointer (some ⟨b, 0, none⟩)) (hy : a.eval y = .agg cs.toArray) (hg : w.heap[b]? = some (.cells cur.toArray t (0, 0))) (hl : cur.length = cs.length)
    (hi : (P.info? ty).map (·.size) = some cs.length) (h1 : ∀ v ∈ cs, v.oneCell' = true)
    (h : ∀ w', Hid (w'.heap[b]? = some (.cells cs.toArray t (0, 0))) → Keeps [b] w w' → wpList P ops Q rest (a.put op.dst undef) w') : wpList P ops Q (op :: rest) a w := by
  refine wpList_store_mid hgd ty x y ho b 0 cs.toArray hx hy (fun j hj => ?_) (by simpa using hi) (all_oneCell_toArray h1) ?_
  · have hj' : j < cur.length := by simp at hj; omega
    rw [Nat.zero_add]
    exact ⟨by rw [cell_of_row _ _ _ _ _ _ hg]; simp [hj'], frozen_of_row w b j _ _ hg⟩
  · refine h _ ?_ ((Keeps.refl [b] w).setCells b 0 _ (.inl (by simp)))
    show _ = _
    rw [heap_setCells_same _ b 0 w cur t hg (by simp; omega)]
    simp [hl]

/-- 'copy(x[..], bytes)', into a block that is known whole. -/
theorem op_copyB {P : Program} {w : World} {o : Oper} {a : Act} {K : Act → World → Prop} {Q : Exit → Act → World → Prop} (d s : Operand) (dT sT elem : TypeId)
    (ho : o.op = .call { callee := .builtin .copy, args := #[d, s], argTypes := #[dT, sT] }) (hu : P.underlying dT = some (.slice elem)) (hsz : (P.info? elem).map (·.size) = some 1)
    (g off dLen dCap : Nat) (hd : a.eval d = .slice (some ⟨g, off, none⟩) dLen dCap) (A2 : Option Addr) (c2 : Nat) (l2 : List UInt8) (hs : a.eval s = .slice A2 l2.length c2) (hr : RdB w A2 l2)
    (cur : List UInt8) (t : TypeId) (hg : w.heap[g]? = some (.cells (encB cur).toArray t (0, 0))) (hfit : off + dLen ≤ cur.length)
    (h : ∀ w', Hid (w'.heap[g]? = some (.cells (encB (cur.take off ++ l2.take dLen ++ cur.drop (off + min l2.length dLen))).toArray t (0, 0))) → Keeps [g] w w' → K (a.put o.dst (.int .i64 (min l2.length dLen : Nat))) w') : o.wp P a w K Q := by
  by_cases h0 : min l2.length dLen = 0
  · have hrun := run_copy_none (P := P) w dT sT o.type elem (some ⟨g, off, none⟩) A2 dLen dCap l2.length c2 hu hsz h0
    unfold Oper.wp execOp
    simp only [ho, resolve, invoke, builtin, Sem.run_bind, Sem.run_pure, Result.andThen_ok, List.map_toArray, List.map_cons, List.map_nil, hd, hs, hrun]
    rw [h0] at h
    refine h w ?_ (Keeps.refl _ _)
    show _ = _
    rw [hg]
    have : l2.take dLen = [] := by
      rw [List.take_eq_nil_iff]
      rcases Nat.min_eq_zero_iff.1 h0 with h1 | h1
      · exact .inr (List.eq_nil_of_length_eq_zero h1)
      · exact .inl h1
    rw [this]
    simp
  · obtain ⟨ad, e, hc⟩ := hr.2 (by simp; omega)
    subst e
    have hlen : (encB (l2.take dLen)).length = Nat.min l2.length dLen := by simp [Nat.min_comm]
    have hrun := run_copy_row (P := P) w dT sT o.type elem g off dLen dCap ad l2.length c2 (encB cur).toArray t (encB (l2.take dLen)) hu hsz hg hlen
      (fun j v hv => hc j v (by rw [encB_take, List.getElem?_take] at hv; split at hv; exact hv; cases hv)) (by simp; omega) (encB_one _)
    have e : (encB cur).toArray.toList = encB cur := rfl
    rw [e, hlen] at hrun
    obtain ⟨W, hW⟩ : ∃ W, W = w.setRow g ((encB cur).take off ++ encB (l2.take dLen) ++ (encB cur).drop (off + Nat.min l2.length dLen)).toArray := ⟨_, rfl⟩
    have h1 : W.heap[g]? = some (.cells (encB (cur.take off ++ l2.take dLen ++ cur.drop (off + min l2.length dLen))).toArray t (0, 0)) := by
      rw [hW, setRow_heap w g _ _ t _ hg, ← encB_take, ← encB_drop, ← encB_append, ← encB_append]
    have h2 : Keeps [g] w W := by rw [hW]; exact ⟨rfl, rfl, rfl, by simp [World.setRow], fun k _ hk => setRow_other w g k _ (by simpa using hk)⟩
    rw [← hW] at hrun
    unfold Oper.wp execOp
    simp only [ho, resolve, invoke, builtin, Sem.run_bind, Sem.run_pure, Result.andThen_ok, List.map_toArray, List.map_cons, List.map_nil, hd, hs, hrun]
    exact h W h1 h2
end Go.Proofs.YtljinghhalcnnaaDoor
namespace Go.Proofs.YtljinghhalcnnaaDoor
open Go.RowKit

/-- So many bytes off: what is left, the error, the bytes. -/
def offR (n : Nat) (l : List UInt8) (e : Int) : List UInt8 × Int × List UInt8 := if e ≠ 0 then (l, e, []) else if l.length < n then (l, 12, []) else (l.drop n, 0, l.take n)
/-- A reader's call that hands bytes of its own out. -/
def OffP (g : Nat) (A : Option Addr) (r : List UInt8 × Int × List UInt8) (w : World) (en : Ending) (w' : World) : Prop :=
  ∃ A' c' l' A2 c2 t, Hid (l' = r.1) ∧ Hid (t = r.2.2) ∧ en = .returned (.slice A2 t.length c2) ∧ Rdr w' g A' c' l' r.2.1 ∧ RdB w' A2 t ∧ t.length ≤ c2 ∧ (∀ a, A2 = some a → a.block ∈ blk A) ∧ Keeps [g] w w' ∧ (∀ a, A' = some a → a.block ∈ blk A)
theorem OffP.nil {w w' : World} {g : Nat} {A : Option Addr} {c : Nat} {l : List UInt8} {e : Int} (h : Rdr w' g A c l e) (hk : Keeps [g] w w') : OffP g A (l, e, []) w (.returned (.slice none 0 0)) w' :=
  ⟨A, c, l, none, 0, [], rfl, rfl, rfl, h, RdB.nil _ _, Nat.le_refl _, by simp, hk, fun a ha => mem_blk.2 ⟨a, ha, rfl⟩⟩

theorem infoB1 : (Tryd.prog.info? 5).map (·.size) = some 1 := by kernel_rfl

set_option maxHeartbeats 1000000 in
theorem off_any (g : Nat) (A : Option Addr) (c : Nat) (l : List UInt8) (e : Int) (w : World) (h : Rdr w g A c l e) (n : Nat) (hn47 : n ≤ 140737488355328) :
    Calls Tryd.prog 43 #[.pointer (some ⟨g, 0, none⟩), .int .i64 n] w (OffP g A (offR n l e) w) := by
  have H := Lib.hid h
  have c0 := h.c0
  have c1 := h.c1
  have f0 := h.f0
  have f1 := h.f1
  have hcl := h.2.2.1
  have h64 := h.2.2.2.1
  clear h
  by_cases he : e = 0
  · subst he
    rw [errV_zero] at c1
    have hd : decide ((0 : Int) ≠ 0) = false := by simp
    by_cases hl : l.length < n
    · have e1 : offR n l 0 = (l, 12, []) := by unfold offR; rw [if_neg (by simp), if_pos hl]
      rw [e1]
      have hl' : (l.length : Int) < (n : Int) := by omega
      clear e1 hl
      go_enter Tryd.func43, Tryd.ntmps43
      go_wp2_with fail
      refine (stuck_any g A c _ 0 _ H.out).mono ?_
      rintro en w' ⟨rfl, rfl⟩
      rw [hd]
      go_wp2_with fail
      go_ret
      exact OffP.nil (((errV_other (n := 12) (by decide)) ▸ H.out.bad 12)) (Keeps.setCell (p := ⟨g, 1, none⟩) (Keeps.refl [g] w) (.inl (by simp)) _)
    · have e1 : offR n l 0 = (l.drop n, 0, l.take n) := by unfold offR; rw [if_neg (by simp), if_neg hl]
      rw [e1]
      have hl' : ¬ (l.length : Int) < (n : Int) := by omega
      have hn1 : (n : Int) ≤ (c : Int) := by omega
      have hn2 : (n : Int) ≤ (l.length : Int) := by omega
      have HL := Lib.hid hl
      clear e1 hl
      go_enter Tryd.func43, Tryd.ntmps43
      go_wp2_with fail
      refine (stuck_any g A c _ 0 _ H.out).mono ?_
      rintro en w' ⟨rfl, rfl⟩
      rw [hd]
      go_wp2_with (first
        | (refine wpList_sec rfl 25 (.tmp 22) none (some (.tmp 23)) (some (.tmp 24)) rfl Tryd.underlying25 infoB1 A l.length c 0 n n rfl Bnd.no (Bnd.at_ rfl) (Bnd.at_ rfl) (by omega) (by omega) (by omega) (by simp) ?_; rw [secA_zero, Nat.sub_zero])
        | (refine wpList_sec rfl 25 (.tmp 30) (some (.tmp 31)) none none rfl Tryd.underlying25 infoB1 A l.length c n l.length c rfl (Bnd.at_ rfl) Bnd.no Bnd.no (by omega) (by omega) (by omega) (by simp) ?_))
      go_ret
      have hlen : (l.take n).length = n := by simp; omega
      refine ⟨secA A n c 1, c - n, l.drop n, A, n, l.take n, rfl, rfl, by rw [hlen]; rfl, ?_, ?_, by omega, fun a ha => mem_blk.2 ⟨a, ha, rfl⟩, Keeps.setCell (p := ⟨g, 0, none⟩) (Keeps.refl [g] w) (.inl (by simp)) _, fun a ha => ?_⟩
      · exact Rdr.took_n H.out _ _ _ _ (by simp) (H.out.2.1.tail n c (by omega) hcl) (by omega) (by omega) (fun a ha hp => by obtain ⟨b, hb, e⟩ := secA_block ha; rw [e]; exact H.out.2.2.2.2 b hb (by omega))
      · exact RdB.keeps (H.out.2.1.head n (by omega)) (Keeps.setCell (S := [g]) (p := ⟨g, 0, none⟩) (Keeps.refl [g] w) (.inl (by simp)) _) (fun a ha hp => by have := H.out.2.2.2.2 a ha (by rw [hlen] at hp; omega); simpa using this)
      · obtain ⟨b, hb, e⟩ := secA_block ha
        exact mem_blk.2 ⟨b, hb, e.symm⟩
  · have e1 : offR n l e = (l, e, []) := by unfold offR; rw [if_pos he]
    rw [e1]
    have hd : decide (e ≠ 0) = true := by simp [he]
    clear e1
    go_enter Tryd.func43, Tryd.ntmps43
    go_wp2_with fail
    refine (stuck_any g A c _ e _ H.out).mono ?_
    rintro en w' ⟨rfl, rfl⟩
    rw [hd]
    go_wp2_with fail
    go_ret
    exact OffP.nil H.out (Keeps.refl [g] w)

theorem OffP.cases {g : Nat} {A : Option Addr} {r : List UInt8 × Int × List UInt8} {w w' : World} {en : Ending} (h : OffP g A r w en w') :
    ∃ A' c' l' A2 c2 t, en = .returned (.slice A2 t.length c2) ∧ Hid (l' = r.1) ∧ Hid (t = r.2.2) ∧ Rdr w' g A' c' l' r.2.1 ∧ RdB w' A2 t ∧ t.length ≤ c2 ∧ (∀ a, A2 = some a → a.block ∈ blk A) ∧ Keeps [g] w w' ∧ (∀ a, A' = some a → a.block ∈ blk A) := by
  obtain ⟨A', c', l', A2, c2, t, h1, h2, h3, h4⟩ := h
  exact ⟨A', c', l', A2, c2, t, h3, h1, h2, h4⟩

/-- A truth. -/
def boolR (l : List UInt8) (e : Int) : List UInt8 × Int × Bool :=
  if e ≠ 0 then (l, e, false) else match l with
  | [] => ([], 12, false)
  | b :: t => if 1 < b.toNat then (b :: t, 3, false) else (t, 0, decide (b.toNat = 1))

set_option maxHeartbeats 1000000 in
theorem rdbool_any (g : Nat) (A : Option Addr) (c : Nat) (l : List UInt8) (e : Int) (w : World) (h : Rdr w g A c l e) :
    Calls Tryd.prog 21 #[.pointer (some ⟨g, 0, none⟩)] w (RdPost g A (boolR l e).1 (boolR l e).2.1 (.bool (boolR l e).2.2) w) := by
  have H := Lib.hid h
  by_cases he : e = 0
  · subst he
    have hd : decide ((0 : Int) ≠ 0) = false := by simp
    rcases l with _ | ⟨b, t⟩
    · have c0 := h.c0
      have c1 := h.c1
      have f1 := h.f1
      rw [errV_zero] at c1
      clear h
      go_enter Tryd.func21, Tryd.ntmps21
      go_wp2_with fail
      refine (stuck_any g A c _ 0 _ H.out).mono ?_
      rintro en w' ⟨rfl, rfl⟩
      rw [hd]
      go_wp2_with fail
      refine (off_any g A c _ 0 _ H.out 1 (by decide)).mono ?_
      intro en w2 hp
      obtain ⟨A', c', l', A2, c2, t2, rfl, hl', ht, hr, _, _, _, hk, hb⟩ := hp.cases
      have HP := Lib.hid (And.intro hr (And.intro hk hb))
      obtain rfl : t2 = [] := ht.out
      clear hr hk hb c0 c1 f1 hp
      go_wp2_with fail
      go_ret
      exact ⟨A', c', l', hl', rfl, HP.out.1, HP.out.2⟩
    · obtain ⟨gA, oA, rfl, hcell⟩ := h.2.1.form (by simp)
      have q0 : w.cell? ⟨gA, oA, none⟩ = some (.int .u8 (b.toNat : Int)) := hcell 0 (by simp)
      have c0 := h.c0
      have c1 := h.c1
      have f1 := h.f1
      have hne : gA ≠ g := h.2.2.2.2 ⟨gA, oA, none⟩ rfl (by simp)
      rw [errV_zero] at c1
      rw [List.length_cons] at c0
      have i0 : (0 : Int) < (t.length : Int) + 1 := by omega
      clear h hcell
      by_cases hb1 : 1 < b.toNat
      · have e1 : boolR (b :: t) 0 = (b :: t, 3, false) := by unfold boolR; rw [if_neg (by simp)]; simp only [if_pos hb1]
        rw [e1]
        have hb1' : (1 : Int) < (b.toNat : Int) := by omega
        clear hb1 e1
        go_enter Tryd.func21, Tryd.ntmps21
        go_wp2_with fail
        refine (stuck_any g _ c _ 0 _ H.out).mono ?_
        rintro en w' ⟨rfl, rfl⟩
        rw [hd]
        go_wp2_with fail
        have HB := Lib.hid (((errV_other (n := 3) (by decide)) ▸ H.out.bad 3 : Rdr (w.setCell ⟨g, 1, none⟩ (.iface 58 (.int .i64 3))) g _ c _ 3))
        refine (off_any g _ c _ 3 _ HB.out 1 (by decide)).mono ?_
        intro en w2 hp
        obtain ⟨A', c', l', A2, c2, t2, rfl, hl', ht, hr, _, _, _, hk, hb⟩ := hp.cases
        have HP := Lib.hid (And.intro hr (And.intro ((Keeps.setCell (S := [g]) (p := ⟨g, 1, none⟩) (Keeps.refl [g] w) (.inl (by simp)) _).trans hk (fun t ht => .inl ht)) hb))
        obtain rfl : t2 = [] := ht.out
        clear hr hk hb c0 c1 f1 hp q0
        go_wp2_with fail
        go_ret
        exact ⟨A', c', l', hl', rfl, HP.out.1, HP.out.2⟩
      · have e1 : boolR (b :: t) 0 = (t, 0, decide (b.toNat = 1)) := by unfold boolR; rw [if_neg (by simp)]; simp only [if_neg hb1]
        rw [e1]
        have hb1' : ¬ (1 : Int) < (b.toNat : Int) := by omega
        have hlt : gA < w.heap.size := by have := block_lt_of_cell q0; exact this
        clear hb1 e1
        go_enter Tryd.func21, Tryd.ntmps21
        go_wp2_with fail
        refine (stuck_any g _ c _ 0 _ H.out).mono ?_
        rintro en w' ⟨rfl, rfl⟩
        rw [hd]
        go_wp2_with fail
        refine (off_any g _ c _ 0 _ H.out 1 (by decide)).mono ?_
        intro en w2 hp
        obtain ⟨A', c', l', A2, c2, t2, rfl, hl', ht, hr, hr2, _, _, hk, hb⟩ := hp.cases
        have HP := Lib.hid (And.intro hr (And.intro hk hb))
        obtain rfl : t2 = [b] := ht.out
        obtain ⟨g2, o2, rfl, hc2⟩ := hr2.form (by simp)
        have q2 : w2.cell? ⟨g2, o2, none⟩ = some (.int .u8 (b.toNat : Int)) := hc2 0 (by simp)
        clear hr hr2 hk hb hp q0 c0 c1 f1 hc2
        by_cases hb2 : b.toNat = 1
        · have hbi : (b.toNat : Int) = 1 := by omega
          rw [hbi] at q2
          have HDD := Lib.hid (show decide (b.toNat = 1) = true by simpa using hb2)
          clear hbi hb2 hb1'
          go_wp2_with fail
          go_ret
          exact ⟨A', c', l', hl', by rw [HDD.out]; rfl, HP.out.1, HP.out.2⟩
        · have hbi : ((b.toNat : Int) == 1) = false := by rw [beq_eq_false_iff_ne]; omega
          have HDD := Lib.hid (show decide (b.toNat = 1) = false by simpa using hb2)
          clear hb2 hb1'
          go_wp2_with fail
          go_ret
          exact ⟨A', c', l', hl', by rw [HDD.out]; rfl, HP.out.1, HP.out.2⟩
  · have e1 : boolR l e = (l, e, false) := by unfold boolR; rw [if_pos he]
    rw [e1]
    have hd : decide (e ≠ 0) = true := by simp [he]
    have eo : offR 1 l e = (l, e, []) := by unfold offR; rw [if_pos he]
    have EO := Lib.hid eo
    clear e1 h eo
    go_enter Tryd.func21, Tryd.ntmps21
    go_wp2_with fail
    refine (stuck_any g A c _ e _ H.out).mono ?_
    rintro en w' ⟨rfl, rfl⟩
    rw [hd]
    go_wp2_with fail
    refine (off_any g A c _ e _ H.out 1 (by decide)).mono ?_
    rw [EO.out]
    intro en w2 hp
    obtain ⟨A', c', l', A2, c2, t2, rfl, hl', ht, hr, _, _, _, hk, hb⟩ := hp.cases
    have HP := Lib.hid (And.intro hr (And.intro hk hb))
    obtain rfl : t2 = [] := ht.out
    clear hr hk hb hp
    go_wp2_with fail
    go_ret
    exact ⟨A', c', l', hl', rfl, HP.out.1, HP.out.2⟩
end Go.Proofs.YtljinghhalcnnaaDoor
namespace Go.Proofs.YtljinghhalcnnaaDoor
open Go.RowKit

/-- Bytes, at most so many. -/
def bytesR (most : Int) (l : List UInt8) (e : Int) : List UInt8 × Int × List UInt8 :=
  if e ≠ 0 then (l, e, []) else if most < 0 then (l, 1, [])
  else if (bnd most.toNat 2 12 l).2.1 ≠ 0 then (l, (bnd most.toNat 2 12 l).2.1, [])
  else ((bnd most.toNat 2 12 l).1.drop (bnd most.toNat 2 12 l).2.2, 0, (bnd most.toNat 2 12 l).1.take (bnd most.toNat 2 12 l).2.2)
theorem bnd_bad {most : Nat} {above left : Int} {l : List UInt8} (h : (bnd most above left l).2.1 ≠ 0) : (bnd most above left l).1 = l ∧ (bnd most above left l).2.2 = 0 := by
  unfold bnd at h ⊢
  split
  · exact ⟨rfl, rfl⟩
  · rename_i h1
    rw [if_neg h1] at h
    split
    · exact ⟨rfl, rfl⟩
    · rename_i h2
      rw [if_neg h2] at h
      split
      · exact ⟨rfl, rfl⟩
      · rename_i h3
        rw [if_neg h3] at h
        exact absurd rfl h
theorem bnd_good {most : Nat} {above left : Int} {l : List UInt8} (ha : above ≠ 0) (hl : left ≠ 0) (h : (bnd most above left l).2.1 = 0) : (bnd most above left l).2.2 ≤ (bnd most above left l).1.length ∧ (bnd most above left l).1 = l.drop (numB l).2.1 ∧ (bnd most above left l).2.2 = (numB l).1 := by
  unfold bnd at h ⊢
  split at h
  · rename_i h1; exact absurd h h1
  · rename_i h1
    rw [if_neg h1]
    split at h
    · exact absurd h ha
    · rename_i h2
      rw [if_neg h2]
      split at h
      · exact absurd h hl
      · rename_i h3
        rw [if_neg h3]
        refine ⟨?_, rfl, rfl⟩
        show (numB l).1 ≤ (l.drop (numB l).2.1).length
        rw [List.length_drop]
        have : ¬ (l.length - (numB l).2.1 < (numB l).1) := fun h4 => h3 ⟨h4, hl⟩
        omega
theorem bnd_zero (l : List UInt8) : bnd 0 2 12 l = (if (numB l).2.2 ≠ 0 then (l, (numB l).2.2, 0) else if 0 < (numB l).1 then (l, 2, 0) else (l.drop (numB l).2.1, 0, (numB l).1)) := by
  unfold bnd
  by_cases h1 : (numB l).2.2 ≠ 0
  · rw [if_pos h1, if_pos h1]
  · rw [if_neg h1, if_neg h1]
    by_cases h2 : 0 < (numB l).1
    · rw [if_pos h2, if_pos h2]
    · rw [if_neg h2, if_neg h2, if_neg (by omega)]

/-- A reader's call that hands new bytes out. -/
def BytP (g : Nat) (A : Option Addr) (r : List UInt8 × Int × List UInt8) (w : World) (en : Ending) (w' : World) : Prop :=
  ∃ A' c' l' A2 c2 t, en = .returned (.slice A2 t.length c2) ∧ Hid (l' = r.1) ∧ Hid (t = r.2.2) ∧ Rdr w' g A' c' l' r.2.1 ∧ OwnB 5 w' A2 c2 t ∧ (∀ a, A2 = some a → w.heap.size ≤ a.block) ∧ Keeps [g] w w' ∧ (∀ a, A' = some a → a.block ∈ blk A)

/-- The last steps of Bytes. -/
theorem BytP.of {g : Nat} {A : Option Addr} {r : List UInt8 × Int × List UInt8} {w w1 w2 w3 : World} {A1 A' A3 : Option Addr} {c' c3 : Nat} {l' t t3 : List UInt8} (hk1 : Keeps [g] w w1) (hb1 : ∀ a, A1 = some a → a.block ∈ blk A)
    (hl : l' = r.1) (ht : t = r.2.2) (hr : Rdr w2 g A' c' l' r.2.1) (hk2 : Keeps [g] w1 w2) (hb2 : ∀ a, A' = some a → a.block ∈ blk A1) (hn : NewStep 5 t w2 w3 A3 c3 t3) : BytP g A r w (.returned (.slice A3 t3.length c3)) w3 := by
  obtain ⟨h1, h2, h3, h4⟩ := hn
  refine ⟨A', c', l', A3, c3, t3, rfl, hl, h1.out.trans ht, hr.keeps0 h4, h2, fun a ha => ?_, (hk1.trans hk2 (fun t ht => .inl ht)).trans h4 (by simp), fun a ha => ?_⟩
  · have := h3 a ha; have := hk1.size; have := hk2.size; omega
  · obtain ⟨b, e1, e2⟩ := mem_blk.1 (hb2 a ha)
    rw [← e2]; exact hb1 b e1

theorem max0 (n : Int) (h1 : -9223372036854775808 ≤ n) (h2 : n ≤ 9223372036854775807) : IntKind.u64.wrap (if n < 0 then 0 else n) = (n.toNat : Int) := by
  rw [IntKind.wrap_u64]
  split <;> omega

set_option maxHeartbeats 4000000 in
theorem rdbytes_any (g : Nat) (A : Option Addr) (c : Nat) (l : List UInt8) (e : Int) (w : World) (h : Rdr w g A c l e) (most : Int) (h1 : -9223372036854775808 ≤ most) (h2 : most ≤ 9223372036854775807) :
    Calls Tryd.prog 23 #[.pointer (some ⟨g, 0, none⟩), .int .i64 most] w (BytP g A (bytesR most l e) w) := by
  have H := Lib.hid h
  have c0 := h.c0
  have c1 := h.c1
  have f1 := h.f1
  clear h
  have tail : ∀ (k : Nat) (w1 : World) (A1 : Option Addr) (c1 : Nat) (l1 : List UInt8) (e1 : Int), Rdr w1 g A1 c1 l1 e1 → Keeps [g] w w1 → (∀ a, A1 = some a → a.block ∈ blk A) → k ≤ 140737488351232 → bytesR most l e = offR k l1 e1 →
      Calls Tryd.prog 43 #[.pointer (some ⟨g, 0, none⟩), .int .i64 k] w1 fun en w2 => ∃ A2 c2 t', en = .returned (.slice A2 (List.length (α := UInt8) t') c2) ∧
        Calls Tryd.prog 44 #[.slice A2 t'.length c2] w2 (BytP g A (bytesR most l e) w) := by
    intro k w1 A1 c1 l1 e1 hr hk hb hk47 hR
    refine (off_any g A1 c1 l1 e1 w1 hr k (by omega)).mono ?_
    intro en w2 hp
    obtain ⟨A', c', l', A2, c2, t, rfl, hl', ht, hr2, hrd, hc2, _, hk2, hb2⟩ := hp.cases
    refine ⟨A2, c2, t, rfl, (clone_any A2 t c2 w2 ?_ hrd).mono ?_⟩
    · rw [ht.out]
      unfold offR
      have := hr.2.2.2.1
      split
      · simp
      · split
        · simp
        · simp; omega
    · intro en w3 hp
      obtain ⟨A3, c3, l3, h3⟩ := hp
      obtain ⟨h3a, rfl, h3b⟩ := h3
      refine BytP.of hk hb (hl'.out.trans (by rw [hR])) (ht.out.trans (by rw [hR])) (by rw [hR]; exact hr2) hk2 hb2 ⟨h3a, h3b⟩
  have TAIL := Lib.hid tail
  clear tail
  by_cases he : e = 0
  · subst he
    rw [errV_zero] at c1
    have hd : decide ((0 : Int) ≠ 0) = false := by simp
    by_cases hm : most < 0
    · have e1 : bytesR most l 0 = (l, 1, []) := by unfold bytesR; rw [if_neg (by simp), if_pos hm]
      have E1 := Lib.hid e1
      have hmx : max most 0 = 0 := by omega
      clear e1
      go_enter Tryd.func23, Tryd.ntmps23
      go_wp2_with fail
      refine (stuck_any g A c _ 0 _ H.out).mono ?_
      rintro en w' ⟨rfl, rfl⟩
      rw [hd]
      go_wp2_with fail
      have HB := Lib.hid (((errV_other (n := 1) (by decide)) ▸ H.out.bad 1 : Rdr (w.setCell ⟨g, 1, none⟩ (.iface 58 (.int .i64 1))) g A c l 1))
      have HKB := Lib.hid (Keeps.setCell (S := [g]) (p := ⟨g, 1, none⟩) (Keeps.refl [g] w) (.inl (by simp)) (.iface 58 (.int .i64 1)))
      refine Calls.mono (bounded_bad g A c l 1 _ HB.out (by decide) 0 (.iface 58 (.int .i64 2)) (.iface 58 (.int .i64 12))) ?_
      rintro en w2 ⟨A', c', l', hl', rfl, hr, hk, hb⟩
      have HP := Lib.hid (And.intro hr (And.intro (HKB.out.trans hk (fun t ht => .inl ht)) hb))
      have hl2 : l' = l := hl'.out
      have HL2 := Lib.hid hl2
      clear hr hk hb hl2 c0 c1 f1
      go_wp2_with fail
      refine (TAIL.out 0 w2 A' c' l' 1 HP.out.1 HP.out.2.1 HP.out.2.2 (by decide) (by rw [E1.out, HL2.out]; rfl)).mono ?_
      rintro en w3 ⟨A2, c2, t, rfl, hcall⟩
      have HC := Lib.hid hcall
      clear hcall
      go_wp2_with fail
      refine HC.out.mono ?_
      intro en w4 hp
      obtain ⟨A5, c5, t5, rfl, hp⟩ : ∃ A5 c5 t5, en = .returned (.slice A5 (List.length t5) c5) ∧ BytP g A (bytesR most l 0) w en w4 := by obtain ⟨x1, x2, x3, x4, x5, x6, x7, x8⟩ := hp; exact ⟨x4, x5, x6, x7, x1, x2, x3, x4, x5, x6, x7, x8⟩
      have HPP := Lib.hid hp
      clear hp
      go_wp2_with fail
      go_ret
      exact HPP.out
    · have hm0 : 0 ≤ most := by omega
      obtain ⟨m, hmm⟩ : ∃ m : Nat, (m : Int) = most := ⟨most.toNat, by omega⟩
      have HM := Lib.hid (show most.toNat = m by omega)
      subst hmm
      go_enter Tryd.func23, Tryd.ntmps23
      go_wp2_with fail
      refine (stuck_any g A c _ 0 _ H.out).mono ?_
      rintro en w' ⟨rfl, rfl⟩
      rw [hd]
      go_wp2_with fail
      obtain ⟨⟨l1, e1, k⟩, hB⟩ : ∃ r, r = bnd m 2 12 l := ⟨_, rfl⟩
      have hk47 : k ≤ 140737488351232 ∧ bytesR (m : Int) l 0 = offR k l1 e1 := by
        have h64 := H.out.2.2.2.1
        unfold bytesR
        rw [if_neg (by simp), if_neg (by omega), HM.out, ← hB]
        by_cases hz : e1 = 0
        · subst hz
          have hg := bnd_good (most := m) (above := 2) (left := 12) (l := l) (by decide) (by decide) (by rw [← hB])
          rw [← hB] at hg
          obtain ⟨g1, g2, g3⟩ := hg
          simp only at g1 g2
          have g4 : l1.length ≤ l.length := by rw [g2, List.length_drop]; omega
          refine ⟨by omega, ?_⟩
          unfold offR
          simp only [ne_eq, not_true_eq_false, if_false]
          rw [if_neg (by omega)]
        · have hg := bnd_bad (most := m) (above := 2) (left := 12) (l := l) (by rw [← hB]; exact hz)
          rw [← hB] at hg
          obtain ⟨g1, g2⟩ := hg
          simp only at g1 g2
          subst g1; subst g2
          refine ⟨by decide, ?_⟩
          unfold offR
          rw [if_pos (show (l1, e1, 0).2.1 ≠ 0 from hz), if_pos hz]
      have HK := Lib.hid hk47
      have hkk : (k : Int) ≤ 140737488351232 := by omega
      have hb := bounded_any g A c l w H.out m 2 12 (by decide)
      rw [errV_other (by decide), errV_other (by decide), ← hB] at hb
      have HBB := Lib.hid hb
      clear hB hk47 hb
      refine HBB.out.mono ?_
      rintro en w2 ⟨A', c', l', hl', rfl, hr, hk, hb⟩
      have HP := Lib.hid (And.intro hr (And.intro hk hb))
      have HL2 := Lib.hid (show l' = l1 from hl'.out)
      have hwr : IntKind.i64.wrap (k : Int) = (k : Int) := by rw [IntKind.wrap_i64]; omega
      clear hr hk hb c0 c1 f1
      go_wp2_with fail
      refine (TAIL.out k w2 A' c' l' e1 HP.out.1 HP.out.2.1 HP.out.2.2 HK.out.1 (by rw [HL2.out]; exact HK.out.2)).mono ?_
      rintro en w3 ⟨A2, c2, t, rfl, hcall⟩
      have HC := Lib.hid hcall
      clear hcall
      go_wp2_with fail
      refine HC.out.mono ?_
      intro en w4 hp
      obtain ⟨A5, c5, t5, rfl, hp⟩ : ∃ A5 c5 t5, en = .returned (.slice A5 (List.length t5) c5) ∧ BytP g A (bytesR (m : Int) l 0) w en w4 := by obtain ⟨x1, x2, x3, x4, x5, x6, x7, x8⟩ := hp; exact ⟨x4, x5, x6, x7, x1, x2, x3, x4, x5, x6, x7, x8⟩
      have HPP := Lib.hid hp
      clear hp
      go_wp2_with fail
      go_ret
      exact HPP.out
  · have e1 : bytesR most l e = (l, e, []) := by unfold bytesR; rw [if_pos he]
    have E1 := Lib.hid e1
    have hd : decide (e ≠ 0) = true := by simp [he]
    obtain ⟨m, hmm⟩ : ∃ m : Nat, (m : Int) = max most 0 := ⟨(max most 0).toNat, by omega⟩
    have EO := Lib.hid (show offR 0 l e = (l, e, []) by unfold offR; rw [if_pos he])
    clear e1
    go_enter Tryd.func23, Tryd.ntmps23
    go_wp2_with fail
    refine (stuck_any g A c _ e _ H.out).mono ?_
    rintro en w' ⟨rfl, rfl⟩
    rw [hd]
    go_wp2_with fail
    rw [← hmm]
    refine Calls.mono (bounded_bad g A c l e _ H.out he m (.iface 58 (.int .i64 2)) (.iface 58 (.int .i64 12))) ?_
    rintro en w2 ⟨A', c', l', hl', rfl, hr, hk, hb⟩
    have HP := Lib.hid (And.intro hr (And.intro hk hb))
    have HL2 := Lib.hid (show l' = l from hl'.out)
    clear hr hk hb c0 c1 f1 hmm
    go_wp2_with fail
    refine (TAIL.out 0 w2 A' c' l' e HP.out.1 HP.out.2.1 HP.out.2.2 (by decide) (by rw [E1.out, HL2.out, EO.out])).mono ?_
    rintro en w3 ⟨A2, c2, t, rfl, hcall⟩
    have HC := Lib.hid hcall
    clear hcall
    go_wp2_with fail
    refine HC.out.mono ?_
    intro en w4 hp
    obtain ⟨A5, c5, t5, rfl, hp⟩ : ∃ A5 c5 t5, en = .returned (.slice A5 (List.length t5) c5) ∧ BytP g A (bytesR most l e) w en w4 := by obtain ⟨x1, x2, x3, x4, x5, x6, x7, x8⟩ := hp; exact ⟨x4, x5, x6, x7, x1, x2, x3, x4, x5, x6, x7, x8⟩
    have HPP := Lib.hid hp
    clear hp
    go_wp2_with fail
    go_ret
    exact HPP.out

/-- How many things come. -/
def countR (most : Int) (l : List UInt8) (e : Int) : List UInt8 × Int × Nat := if e ≠ 0 then (l, e, 0) else bnd most.toNat 4 2 l
theorem countR_le (most : Int) (l : List UInt8) (e : Int) (h2 : most ≤ 9223372036854775807) : (countR most l e).2.2 ≤ 9223372036854775807 := by
  unfold countR
  split
  · exact Nat.zero_le _
  · by_cases hz : (bnd most.toNat 4 2 l).2.1 = 0
    · have := (bnd_ok (most := most.toNat) (above := 4) (left := 2) (l := l) (by decide) hz).1
      omega
    · rw [(bnd_bad hz).2]
      exact Nat.zero_le _
theorem rdcount_any (g : Nat) (A : Option Addr) (c : Nat) (l : List UInt8) (e : Int) (w : World) (h : Rdr w g A c l e) (most : Int) (h1 : -9223372036854775808 ≤ most) (h2 : most ≤ 9223372036854775807) :
    Calls Tryd.prog 20 #[.pointer (some ⟨g, 0, none⟩), .int .i64 most] w (RdPost g A (countR most l e).1 (countR most l e).2.1 (.int .i64 (countR most l e).2.2) w) := by
  have H := Lib.hid h
  clear h
  obtain ⟨m, hmm⟩ : ∃ m : Nat, (m : Int) = max most 0 := ⟨(max most 0).toNat, by omega⟩
  have HM := Lib.hid (show most.toNat = m by omega)
  have hc : Calls Tryd.prog 41 #[.pointer (some ⟨g, 0, none⟩), .agg #[.int .u64 m, .iface 58 (.int .i64 4), .iface 58 (.int .i64 2)]] w (RdV g A (countR most l e) w) := by
    unfold countR
    by_cases he : e = 0
    · subst he
      have hb := bounded_any g A c l w H.out m 4 2 (by decide)
      rw [errV_other (by decide), errV_other (by decide)] at hb
      rw [if_neg (by simp), HM.out]
      exact hb
    · rw [if_pos he]
      exact bounded_bad g A c l e w H.out he m _ _
  have HC := Lib.hid hc
  have HLE := Lib.hid (countR_le most l e h2)
  clear hc
  obtain ⟨r, hr⟩ : ∃ r, r = countR most l e := ⟨_, rfl⟩
  rw [← hr] at HC HLE ⊢
  have hle : (r.2.2 : Int) ≤ 9223372036854775807 := by have := HLE.out; omega
  have hwr : IntKind.i64.wrap (r.2.2 : Int) = (r.2.2 : Int) := by rw [IntKind.wrap_i64]; omega
  clear hr
  go_enter Tryd.func20, Tryd.ntmps20
  go_wp2_with fail
  rw [← hmm]
  refine HC.out.mono ?_
  rintro en w2 ⟨A', c', l', hl', rfl, hr, hk, hb⟩
  have HP := Lib.hid (And.intro hr (And.intro hk hb))
  clear hr hk hb hmm
  go_wp2_with fail
  go_ret
  exact ⟨A', c', l', hl', rfl, HP.out.1, HP.out.2⟩
end Go.Proofs.YtljinghhalcnnaaDoor
namespace Go.Proofs.YtljinghhalcnnaaDoor
open Go.RowKit

/-- One part read. -/
def partR (l : List UInt8) (e : Int) : List UInt8 × Int × Pa :=
  if (boolR l e).2.2 then
    let x := uintR 64 (boolR l e).1 (boolR l e).2.1
    let y := uintR 64 x.1 x.2.1
    (y.1, y.2.1, ⟨true, x.2.2, y.2.2, []⟩)
  else
    let x := bytesR 64 (boolR l e).1 (boolR l e).2.1
    (x.1, x.2.1, ⟨false, 0, 0, x.2.2⟩)
/-- So many parts read. -/
def partsR : Nat → List UInt8 → Int → List UInt8 × Int × List Pa
  | 0, l, e => (l, e, [])
  | k + 1, l, e => ((partR (partsR k l e).1 (partsR k l e).2.1).1, (partR (partsR k l e).1 (partsR k l e).2.1).2.1, (partsR k l e).2.2 ++ [(partR (partsR k l e).1 (partsR k l e).2.1).2.2])
/-- What bytes tell, or the error. -/
def decE10 (b : List UInt8) : Except Int (List Pa) :=
  let q := partsR (countR 64 b 0).2.2 (countR 64 b 0).1 (countR 64 b 0).2.1
  if doneR q.1 q.2.1 = 0 then .ok q.2.2 else .error 3
theorem partsR_len (l : List UInt8) (e : Int) : ∀ k, (partsR k l e).2.2.length = k
  | 0 => rfl
  | k + 1 => by
    show ((partsR k l e).2.2 ++ [_]).length = _
    rw [List.length_append, partsR_len l e k]
    rfl
/-- A part with bytes of its own is added. -/
theorem OpI.addB {w wr wa w4 : World} {A A4 : Option Addr} {c c4 n : Nat} {ts : List Pt} {t : Pt} (h : OpI w wr A c ts) (hb : OwnB 5 wr t.A t.c t.p.b) (hA : ∀ a, t.A = some a → w.heap.size ≤ a.block ∧ a.block ∉ blk A ∧ ∀ s ∈ ts, ∀ b, s.A = some b → b.block ≠ a.block) (hka : Keeps [] wr wa) (hn : n = ts.length)
    (ho : w4.ownsRow 0 50 4 (.slice A4 (n + 1) c4) (n + 1) (encPt ts ++ t.cells)) (hk : Keeps (blk A) wa w4) (hf : ∀ a, A4 = some a → a.block ∈ blk A ∨ wa.heap.size ≤ a.block) : OpI w w4 A4 c4 (ts ++ [t]) := by
  subst hn
  have s1 := h.kp.size
  have s2 := hka.size
  have k14 : Keeps (blk A) wr w4 := (hka.mono (by simp)).trans hk (fun t ht => .inl ht)
  have hin : ∀ {a : Addr}, a.block < wr.heap.size → a.block ∉ blk A → a.block ∉ blk A4 := fun {a} h1 h2 hm => by
    obtain ⟨b, e1, e2⟩ := mem_blk.1 hm
    rcases hf b e1 with h4 | h4
    · rw [e2] at h4; exact h2 h4
    · omega
  refine ⟨?_, fun a ha => ?_, fun s hs => ?_, ?_, (h.kp.trans hka (by simp)).fresh hk h.fr⟩
  · rw [List.length_append, encPt_append]
    simpa [encPt] using ho
  · rcases hf a ha with h1 | h1
    · obtain ⟨b, e1, e2⟩ := mem_blk.1 h1
      rw [← e2]; exact h.fr b e1
    · omega
  · rcases List.mem_append.1 hs with h1 | h1
    · obtain ⟨h2, h3⟩ := h.rd s h1
      exact ⟨h2.keeps k14 (fun a ha => (h3 a ha).2), fun a ha => ⟨(h3 a ha).1, hin (h2.lt a ha) (h3 a ha).2⟩⟩
    · obtain rfl := List.mem_singleton.1 h1
      exact ⟨hb.keeps k14 (fun a ha => (hA a ha).2.1), fun a ha => ⟨(hA a ha).1, hin (hb.lt a ha) (hA a ha).2.1⟩⟩
  · rw [List.pairwise_append]
    refine ⟨h.dj, List.pairwise_singleton _ _, fun s hs t' ht' a b ha hb' => ?_⟩
    obtain rfl := List.mem_singleton.1 ht'
    exact (hA b hb').2.2 s hs a ha
end Go.Proofs.YtljinghhalcnnaaDoor
