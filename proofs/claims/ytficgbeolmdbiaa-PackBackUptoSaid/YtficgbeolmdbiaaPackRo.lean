/- What a reader takes off besides numbers: contracts. -/
import Derived.Test.YtficgbeolmdbiaaPackRi
import Derived.Test.YtficgbeolmdbiaaMem
namespace Go.Proofs.Ytficgbeolmdbiaa
open Go.RowKit

/-- So many bytes off: what is left, the error, the bytes. -/
def offR (n : Nat) (l : List UInt8) (e : Int) : List UInt8 × Int × List UInt8 := if e ≠ 0 then (l, e, []) else if l.length < n then (l, 12, []) else (l.drop n, 0, l.take n)
/-- A reader's call that hands bytes of its own out. -/
def OffP (g : Nat) (A : Option Addr) (r : List UInt8 × Int × List UInt8) (w : World) (en : Ending) (w' : World) : Prop :=
  ∃ A' c' l' A2 c2 t, Hid (l' = r.1) ∧ Hid (t = r.2.2) ∧ en = .returned (.slice A2 t.length c2) ∧ Rdr w' g A' c' l' r.2.1 ∧ RdB w' A2 t ∧ t.length ≤ c2 ∧ (∀ a, A2 = some a → a.block ∈ blk A) ∧ Keeps [g] w w' ∧ (∀ a, A' = some a → a.block ∈ blk A)
theorem OffP.nil {w w' : World} {g : Nat} {A : Option Addr} {c : Nat} {l : List UInt8} {e : Int} (h : Rdr w' g A c l e) (hk : Keeps [g] w w') : OffP g A (l, e, []) w (.returned (.slice none 0 0)) w' :=
  ⟨A, c, l, none, 0, [], rfl, rfl, rfl, h, RdB.nil _ _, Nat.le_refl _, by simp, hk, fun a ha => mem_blk.2 ⟨a, ha, rfl⟩⟩

theorem infoB1 : (Try.prog.info? 5).map (·.size) = some 1 := by kernel_rfl

set_option maxHeartbeats 1000000 in
theorem off_any (g : Nat) (A : Option Addr) (c : Nat) (l : List UInt8) (e : Int) (w : World) (h : Rdr w g A c l e) (n : Nat) (hn47 : n ≤ 140737488355328) :
    Calls Try.prog 37 #[.pointer (some ⟨g, 0, none⟩), .int .i64 n] w (OffP g A (offR n l e) w) := by
  have H := Lib.hid h
  have c0 := h.c0
  have c1 := h.c1
  have f0 := h.f0
  have f1 := h.f1
  have hcl := h.2.2.1
  have h64 := h.2.2.2.1
  clear h
  by_cases he : e = 0
  · subst he
    rw [errV_zero] at c1
    have hd : decide ((0 : Int) ≠ 0) = false := by simp
    by_cases hl : l.length < n
    · have e1 : offR n l 0 = (l, 12, []) := by unfold offR; rw [if_neg (by simp), if_pos hl]
      rw [e1]
      have hl' : (l.length : Int) < (n : Int) := by omega
      clear e1 hl
      go_enter Try.func37, Try.ntmps37
      go_wp2_with fail
      refine (stuck_any g A c _ 0 _ H.out).mono ?_
      rintro en w' ⟨rfl, rfl⟩
      rw [hd]
      go_wp2_with fail
      go_ret
      exact OffP.nil (((errV_other (n := 12) (by decide)) ▸ H.out.bad 12)) (Keeps.setCell (p := ⟨g, 1, none⟩) (Keeps.refl [g] w) (.inl (by simp)) _)
    · have e1 : offR n l 0 = (l.drop n, 0, l.take n) := by unfold offR; rw [if_neg (by simp), if_neg hl]
      rw [e1]
      have hl' : ¬ (l.length : Int) < (n : Int) := by omega
      have hn1 : (n : Int) ≤ (c : Int) := by omega
      have hn2 : (n : Int) ≤ (l.length : Int) := by omega
      have HL := Lib.hid hl
      clear e1 hl
      go_enter Try.func37, Try.ntmps37
      go_wp2_with fail
      refine (stuck_any g A c _ 0 _ H.out).mono ?_
      rintro en w' ⟨rfl, rfl⟩
      rw [hd]
      go_wp2_with (first
        | (refine wpList_sec rfl 23 (.tmp 22) none (some (.tmp 23)) (some (.tmp 24)) rfl Try.underlying23 infoB1 A l.length c 0 n n rfl Bnd.no (Bnd.at_ rfl) (Bnd.at_ rfl) (by omega) (by omega) (by omega) (by simp) ?_; rw [secA_zero, Nat.sub_zero])
        | (refine wpList_sec rfl 23 (.tmp 30) (some (.tmp 31)) none none rfl Try.underlying23 infoB1 A l.length c n l.length c rfl (Bnd.at_ rfl) Bnd.no Bnd.no (by omega) (by omega) (by omega) (by simp) ?_))
      go_ret
      have hlen : (l.take n).length = n := by simp; omega
      refine ⟨secA A n c 1, c - n, l.drop n, A, n, l.take n, rfl, rfl, by rw [hlen]; rfl, ?_, ?_, by omega, fun a ha => mem_blk.2 ⟨a, ha, rfl⟩, Keeps.setCell (p := ⟨g, 0, none⟩) (Keeps.refl [g] w) (.inl (by simp)) _, fun a ha => ?_⟩
      · exact Rdr.took_n H.out _ _ _ _ (by simp) (H.out.2.1.tail n c (by omega) hcl) (by omega) (by omega) (fun a ha hp => by obtain ⟨b, hb, e⟩ := secA_block ha; rw [e]; exact H.out.2.2.2.2 b hb (by omega))
      · exact RdB.keeps (H.out.2.1.head n (by omega)) (Keeps.setCell (S := [g]) (p := ⟨g, 0, none⟩) (Keeps.refl [g] w) (.inl (by simp)) _) (fun a ha hp => by have := H.out.2.2.2.2 a ha (by rw [hlen] at hp; omega); simpa using this)
      · obtain ⟨b, hb, e⟩ := secA_block ha
        exact mem_blk.2 ⟨b, hb, e.symm⟩
  · have e1 : offR n l e = (l, e, []) := by unfold offR; rw [if_pos he]
    rw [e1]
    have hd : decide (e ≠ 0) = true := by simp [he]
    clear e1
    go_enter Try.func37, Try.ntmps37
    go_wp2_with fail
    refine (stuck_any g A c _ e _ H.out).mono ?_
    rintro en w' ⟨rfl, rfl⟩
    rw [hd]
    go_wp2_with fail
    go_ret
    exact OffP.nil H.out (Keeps.refl [g] w)

theorem OffP.cases {g : Nat} {A : Option Addr} {r : List UInt8 × Int × List UInt8} {w w' : World} {en : Ending} (h : OffP g A r w en w') :
    ∃ A' c' l' A2 c2 t, en = .returned (.slice A2 t.length c2) ∧ Hid (l' = r.1) ∧ Hid (t = r.2.2) ∧ Rdr w' g A' c' l' r.2.1 ∧ RdB w' A2 t ∧ t.length ≤ c2 ∧ (∀ a, A2 = some a → a.block ∈ blk A) ∧ Keeps [g] w w' ∧ (∀ a, A' = some a → a.block ∈ blk A) := by
  obtain ⟨A', c', l', A2, c2, t, h1, h2, h3, h4⟩ := h
  exact ⟨A', c', l', A2, c2, t, h3, h1, h2, h4⟩

/-- A truth. -/
def boolR (l : List UInt8) (e : Int) : List UInt8 × Int × Bool :=
  if e ≠ 0 then (l, e, false) else match l with
  | [] => ([], 12, false)
  | b :: t => if 1 < b.toNat then (b :: t, 3, false) else (t, 0, decide (b.toNat = 1))

set_option maxHeartbeats 1000000 in
theorem rdbool_any (g : Nat) (A : Option Addr) (c : Nat) (l : List UInt8) (e : Int) (w : World) (h : Rdr w g A c l e) :
    Calls Try.prog 15 #[.pointer (some ⟨g, 0, none⟩)] w (RdPost g A (boolR l e).1 (boolR l e).2.1 (.bool (boolR l e).2.2) w) := by
  have H := Lib.hid h
  by_cases he : e = 0
  · subst he
    have hd : decide ((0 : Int) ≠ 0) = false := by simp
    rcases l with _ | ⟨b, t⟩
    · have c0 := h.c0
      have c1 := h.c1
      have f1 := h.f1
      rw [errV_zero] at c1
      clear h
      go_enter Try.func15, Try.ntmps15
      go_wp2_with fail
      refine (stuck_any g A c _ 0 _ H.out).mono ?_
      rintro en w' ⟨rfl, rfl⟩
      rw [hd]
      go_wp2_with fail
      refine (off_any g A c _ 0 _ H.out 1 (by decide)).mono ?_
      intro en w2 hp
      obtain ⟨A', c', l', A2, c2, t2, rfl, hl', ht, hr, _, _, _, hk, hb⟩ := hp.cases
      have HP := Lib.hid (And.intro hr (And.intro hk hb))
      obtain rfl : t2 = [] := ht.out
      clear hr hk hb c0 c1 f1 hp
      go_wp2_with fail
      go_ret
      exact ⟨A', c', l', hl', rfl, HP.out.1, HP.out.2⟩
    · obtain ⟨gA, oA, rfl, hcell⟩ := h.2.1.form (by simp)
      have q0 : w.cell? ⟨gA, oA, none⟩ = some (.int .u8 (b.toNat : Int)) := hcell 0 (by simp)
      have c0 := h.c0
      have c1 := h.c1
      have f1 := h.f1
      have hne : gA ≠ g := h.2.2.2.2 ⟨gA, oA, none⟩ rfl (by simp)
      rw [errV_zero] at c1
      rw [List.length_cons] at c0
      have i0 : (0 : Int) < (t.length : Int) + 1 := by omega
      clear h hcell
      by_cases hb1 : 1 < b.toNat
      · have e1 : boolR (b :: t) 0 = (b :: t, 3, false) := by unfold boolR; rw [if_neg (by simp)]; simp only [if_pos hb1]
        rw [e1]
        have hb1' : (1 : Int) < (b.toNat : Int) := by omega
        clear hb1 e1
        go_enter Try.func15, Try.ntmps15
        go_wp2_with fail
        refine (stuck_any g _ c _ 0 _ H.out).mono ?_
        rintro en w' ⟨rfl, rfl⟩
        rw [hd]
        go_wp2_with fail
        have HB := Lib.hid (((errV_other (n := 3) (by decide)) ▸ H.out.bad 3 : Rdr (w.setCell ⟨g, 1, none⟩ (.iface 69 (.int .i64 3))) g _ c _ 3))
        refine (off_any g _ c _ 3 _ HB.out 1 (by decide)).mono ?_
        intro en w2 hp
        obtain ⟨A', c', l', A2, c2, t2, rfl, hl', ht, hr, _, _, _, hk, hb⟩ := hp.cases
        have HP := Lib.hid (And.intro hr (And.intro ((Keeps.setCell (S := [g]) (p := ⟨g, 1, none⟩) (Keeps.refl [g] w) (.inl (by simp)) _).trans hk (fun t ht => .inl ht)) hb))
        obtain rfl : t2 = [] := ht.out
        clear hr hk hb c0 c1 f1 hp q0
        go_wp2_with fail
        go_ret
        exact ⟨A', c', l', hl', rfl, HP.out.1, HP.out.2⟩
      · have e1 : boolR (b :: t) 0 = (t, 0, decide (b.toNat = 1)) := by unfold boolR; rw [if_neg (by simp)]; simp only [if_neg hb1]
        rw [e1]
        have hb1' : ¬ (1 : Int) < (b.toNat : Int) := by omega
        have hlt : gA < w.heap.size := by have := block_lt_of_cell q0; exact this
        clear hb1 e1
        go_enter Try.func15, Try.ntmps15
        go_wp2_with fail
        refine (stuck_any g _ c _ 0 _ H.out).mono ?_
        rintro en w' ⟨rfl, rfl⟩
        rw [hd]
        go_wp2_with fail
        refine (off_any g _ c _ 0 _ H.out 1 (by decide)).mono ?_
        intro en w2 hp
        obtain ⟨A', c', l', A2, c2, t2, rfl, hl', ht, hr, hr2, _, _, hk, hb⟩ := hp.cases
        have HP := Lib.hid (And.intro hr (And.intro hk hb))
        obtain rfl : t2 = [b] := ht.out
        obtain ⟨g2, o2, rfl, hc2⟩ := hr2.form (by simp)
        have q2 : w2.cell? ⟨g2, o2, none⟩ = some (.int .u8 (b.toNat : Int)) := hc2 0 (by simp)
        clear hr hr2 hk hb hp q0 c0 c1 f1 hc2
        by_cases hb2 : b.toNat = 1
        · have hbi : (b.toNat : Int) = 1 := by omega
          rw [hbi] at q2
          have HDD := Lib.hid (show decide (b.toNat = 1) = true by simpa using hb2)
          clear hbi hb2 hb1'
          go_wp2_with fail
          go_ret
          exact ⟨A', c', l', hl', by rw [HDD.out]; rfl, HP.out.1, HP.out.2⟩
        · have hbi : ((b.toNat : Int) == 1) = false := by rw [beq_eq_false_iff_ne]; omega
          have HDD := Lib.hid (show decide (b.toNat = 1) = false by simpa using hb2)
          clear hb2 hb1'
          go_wp2_with fail
          go_ret
          exact ⟨A', c', l', hl', by rw [HDD.out]; rfl, HP.out.1, HP.out.2⟩
  · have e1 : boolR l e = (l, e, false) := by unfold boolR; rw [if_pos he]
    rw [e1]
    have hd : decide (e ≠ 0) = true := by simp [he]
    have eo : offR 1 l e = (l, e, []) := by unfold offR; rw [if_pos he]
    have EO := Lib.hid eo
    clear e1 h eo
    go_enter Try.func15, Try.ntmps15
    go_wp2_with fail
    refine (stuck_any g A c _ e _ H.out).mono ?_
    rintro en w' ⟨rfl, rfl⟩
    rw [hd]
    go_wp2_with fail
    refine (off_any g A c _ e _ H.out 1 (by decide)).mono ?_
    rw [EO.out]
    intro en w2 hp
    obtain ⟨A', c', l', A2, c2, t2, rfl, hl', ht, hr, _, _, _, hk, hb⟩ := hp.cases
    have HP := Lib.hid (And.intro hr (And.intro hk hb))
    obtain rfl : t2 = [] := ht.out
    clear hr hk hb hp
    go_wp2_with fail
    go_ret
    exact ⟨A', c', l', hl', rfl, HP.out.1, HP.out.2⟩
end Go.Proofs.Ytficgbeolmdbiaa
