/- Bytes, texts, prints, counts that a reader takes off: contracts. -/
import Derived.Test.YthppbefemfkccaaPackRo
import Derived.Test.YthppbefemfkccaaRegion
namespace Go.Proofs.Ythppbefemfkccaa
open Go.RowKit

/-- Bytes, at most so many. -/
def bytesR (most : Int) (l : List UInt8) (e : Int) : List UInt8 × Int × List UInt8 :=
  if e ≠ 0 then (l, e, []) else if most < 0 then (l, 1, [])
  else if (bnd most.toNat 2 12 l).2.1 ≠ 0 then (l, (bnd most.toNat 2 12 l).2.1, [])
  else ((bnd most.toNat 2 12 l).1.drop (bnd most.toNat 2 12 l).2.2, 0, (bnd most.toNat 2 12 l).1.take (bnd most.toNat 2 12 l).2.2)
theorem bnd_bad {most : Nat} {above left : Int} {l : List UInt8} (h : (bnd most above left l).2.1 ≠ 0) : (bnd most above left l).1 = l ∧ (bnd most above left l).2.2 = 0 := by
  unfold bnd at h ⊢
  split
  · exact ⟨rfl, rfl⟩
  · rename_i h1
    rw [if_neg h1] at h
    split
    · exact ⟨rfl, rfl⟩
    · rename_i h2
      rw [if_neg h2] at h
      split
      · exact ⟨rfl, rfl⟩
      · rename_i h3
        rw [if_neg h3] at h
        exact absurd rfl h
theorem bnd_good {most : Nat} {above left : Int} {l : List UInt8} (ha : above ≠ 0) (hl : left ≠ 0) (h : (bnd most above left l).2.1 = 0) : (bnd most above left l).2.2 ≤ (bnd most above left l).1.length ∧ (bnd most above left l).1 = l.drop (numB l).2.1 ∧ (bnd most above left l).2.2 = (numB l).1 := by
  unfold bnd at h ⊢
  split at h
  · rename_i h1; exact absurd h h1
  · rename_i h1
    rw [if_neg h1]
    split at h
    · exact absurd h ha
    · rename_i h2
      rw [if_neg h2]
      split at h
      · exact absurd h hl
      · rename_i h3
        rw [if_neg h3]
        refine ⟨?_, rfl, rfl⟩
        show (numB l).1 ≤ (l.drop (numB l).2.1).length
        rw [List.length_drop]
        have : ¬ (l.length - (numB l).2.1 < (numB l).1) := fun h4 => h3 ⟨h4, hl⟩
        omega
theorem bnd_zero (l : List UInt8) : bnd 0 2 12 l = (if (numB l).2.2 ≠ 0 then (l, (numB l).2.2, 0) else if 0 < (numB l).1 then (l, 2, 0) else (l.drop (numB l).2.1, 0, (numB l).1)) := by
  unfold bnd
  by_cases h1 : (numB l).2.2 ≠ 0
  · rw [if_pos h1, if_pos h1]
  · rw [if_neg h1, if_neg h1]
    by_cases h2 : 0 < (numB l).1
    · rw [if_pos h2, if_pos h2]
    · rw [if_neg h2, if_neg h2, if_neg (by omega)]

/-- A reader's call that hands new bytes out. -/
def BytP (g : Nat) (A : Option Addr) (r : List UInt8 × Int × List UInt8) (w : World) (en : Ending) (w' : World) : Prop :=
  ∃ A' c' l' A2 c2 t, en = .returned (.slice A2 t.length c2) ∧ Hid (l' = r.1) ∧ Hid (t = r.2.2) ∧ Rdr w' g A' c' l' r.2.1 ∧ OwnB 5 w' A2 c2 t ∧ (∀ a, A2 = some a → w.heap.size ≤ a.block) ∧ Keeps [g] w w' ∧ (∀ a, A' = some a → a.block ∈ blk A)

/-- The last steps of Bytes. -/
theorem BytP.of {g : Nat} {A : Option Addr} {r : List UInt8 × Int × List UInt8} {w w1 w2 w3 : World} {A1 A' A3 : Option Addr} {c' c3 : Nat} {l' t t3 : List UInt8} (hk1 : Keeps [g] w w1) (hb1 : ∀ a, A1 = some a → a.block ∈ blk A)
    (hl : l' = r.1) (ht : t = r.2.2) (hr : Rdr w2 g A' c' l' r.2.1) (hk2 : Keeps [g] w1 w2) (hb2 : ∀ a, A' = some a → a.block ∈ blk A1) (hn : NewStep 5 t w2 w3 A3 c3 t3) : BytP g A r w (.returned (.slice A3 t3.length c3)) w3 := by
  obtain ⟨h1, h2, h3, h4⟩ := hn
  refine ⟨A', c', l', A3, c3, t3, rfl, hl, h1.out.trans ht, hr.keeps0 h4, h2, fun a ha => ?_, (hk1.trans hk2 (fun t ht => .inl ht)).trans h4 (by simp), fun a ha => ?_⟩
  · have := h3 a ha; have := hk1.size; have := hk2.size; omega
  · obtain ⟨b, e1, e2⟩ := mem_blk.1 (hb2 a ha)
    rw [← e2]; exact hb1 b e1

theorem max0 (n : Int) (h1 : -9223372036854775808 ≤ n) (h2 : n ≤ 9223372036854775807) : IntKind.u64.wrap (if n < 0 then 0 else n) = (n.toNat : Int) := by
  rw [IntKind.wrap_u64]
  split <;> omega

set_option maxHeartbeats 4000000 in
theorem rdbytes_any (g : Nat) (A : Option Addr) (c : Nat) (l : List UInt8) (e : Int) (w : World) (h : Rdr w g A c l e) (most : Int) (h1 : -9223372036854775808 ≤ most) (h2 : most ≤ 9223372036854775807) :
    Calls Try.prog 20 #[.pointer (some ⟨g, 0, none⟩), .int .i64 most] w (BytP g A (bytesR most l e) w) := by
  have H := Lib.hid h
  have c0 := h.c0
  have c1 := h.c1
  have f1 := h.f1
  clear h
  have tail : ∀ (k : Nat) (w1 : World) (A1 : Option Addr) (c1 : Nat) (l1 : List UInt8) (e1 : Int), Rdr w1 g A1 c1 l1 e1 → Keeps [g] w w1 → (∀ a, A1 = some a → a.block ∈ blk A) → k ≤ 140737488351232 → bytesR most l e = offR k l1 e1 →
      Calls Try.prog 29 #[.pointer (some ⟨g, 0, none⟩), .int .i64 k] w1 fun en w2 => ∃ A2 c2 t', en = .returned (.slice A2 (List.length (α := UInt8) t') c2) ∧
        Calls Try.prog 26 #[.slice A2 t'.length c2] w2 (BytP g A (bytesR most l e) w) := by
    intro k w1 A1 c1 l1 e1 hr hk hb hk47 hR
    refine (off_any g A1 c1 l1 e1 w1 hr k (by omega)).mono ?_
    intro en w2 hp
    obtain ⟨A', c', l', A2, c2, t, rfl, hl', ht, hr2, hrd, hc2, _, hk2, hb2⟩ := hp.cases
    refine ⟨A2, c2, t, rfl, (clone_any A2 t c2 w2 ?_ hrd).mono ?_⟩
    · rw [ht.out]
      unfold offR
      have := hr.2.2.2.1
      split
      · simp
      · split
        · simp
        · simp; omega
    · intro en w3 hp
      obtain ⟨A3, c3, l3, h3⟩ := hp
      obtain ⟨h3a, rfl, h3b⟩ := h3
      refine BytP.of hk hb (hl'.out.trans (by rw [hR])) (ht.out.trans (by rw [hR])) (by rw [hR]; exact hr2) hk2 hb2 ⟨h3a, h3b⟩
  have TAIL := Lib.hid tail
  clear tail
  by_cases he : e = 0
  · subst he
    rw [errV_zero] at c1
    have hd : decide ((0 : Int) ≠ 0) = false := by simp
    by_cases hm : most < 0
    · have e1 : bytesR most l 0 = (l, 1, []) := by unfold bytesR; rw [if_neg (by simp), if_pos hm]
      have E1 := Lib.hid e1
      have hmx : max most 0 = 0 := by omega
      clear e1
      go_enter Try.func20, Try.ntmps20
      go_wp2_with fail
      refine (stuck_any g A c _ 0 _ H.out).mono ?_
      rintro en w' ⟨rfl, rfl⟩
      rw [hd]
      go_wp2_with fail
      have HB := Lib.hid (((errV_other (n := 1) (by decide)) ▸ H.out.bad 1 : Rdr (w.setCell ⟨g, 1, none⟩ (.iface 39 (.int .i64 1))) g A c l 1))
      have HKB := Lib.hid (Keeps.setCell (S := [g]) (p := ⟨g, 1, none⟩) (Keeps.refl [g] w) (.inl (by simp)) (.iface 39 (.int .i64 1)))
      refine Calls.mono (bounded_bad g A c l 1 _ HB.out (by decide) 0 (.iface 39 (.int .i64 2)) (.iface 39 (.int .i64 12))) ?_
      rintro en w2 ⟨A', c', l', hl', rfl, hr, hk, hb⟩
      have HP := Lib.hid (And.intro hr (And.intro (HKB.out.trans hk (fun t ht => .inl ht)) hb))
      have hl2 : l' = l := hl'.out
      have HL2 := Lib.hid hl2
      clear hr hk hb hl2 c0 c1 f1
      go_wp2_with fail
      refine (TAIL.out 0 w2 A' c' l' 1 HP.out.1 HP.out.2.1 HP.out.2.2 (by decide) (by rw [E1.out, HL2.out]; rfl)).mono ?_
      rintro en w3 ⟨A2, c2, t, rfl, hcall⟩
      have HC := Lib.hid hcall
      clear hcall
      go_wp2_with fail
      refine HC.out.mono ?_
      intro en w4 hp
      obtain ⟨A5, c5, t5, rfl, hp⟩ : ∃ A5 c5 t5, en = .returned (.slice A5 (List.length t5) c5) ∧ BytP g A (bytesR most l 0) w en w4 := by obtain ⟨x1, x2, x3, x4, x5, x6, x7, x8⟩ := hp; exact ⟨x4, x5, x6, x7, x1, x2, x3, x4, x5, x6, x7, x8⟩
      have HPP := Lib.hid hp
      clear hp
      go_wp2_with fail
      go_ret
      exact HPP.out
    · have hm0 : 0 ≤ most := by omega
      obtain ⟨m, hmm⟩ : ∃ m : Nat, (m : Int) = most := ⟨most.toNat, by omega⟩
      have HM := Lib.hid (show most.toNat = m by omega)
      subst hmm
      go_enter Try.func20, Try.ntmps20
      go_wp2_with fail
      refine (stuck_any g A c _ 0 _ H.out).mono ?_
      rintro en w' ⟨rfl, rfl⟩
      rw [hd]
      go_wp2_with fail
      obtain ⟨⟨l1, e1, k⟩, hB⟩ : ∃ r, r = bnd m 2 12 l := ⟨_, rfl⟩
      have hk47 : k ≤ 140737488351232 ∧ bytesR (m : Int) l 0 = offR k l1 e1 := by
        have h64 := H.out.2.2.2.1
        unfold bytesR
        rw [if_neg (by simp), if_neg (by omega), HM.out, ← hB]
        by_cases hz : e1 = 0
        · subst hz
          have hg := bnd_good (most := m) (above := 2) (left := 12) (l := l) (by decide) (by decide) (by rw [← hB])
          rw [← hB] at hg
          obtain ⟨g1, g2, g3⟩ := hg
          simp only at g1 g2
          have g4 : l1.length ≤ l.length := by rw [g2, List.length_drop]; omega
          refine ⟨by omega, ?_⟩
          unfold offR
          simp only [ne_eq, not_true_eq_false, if_false]
          rw [if_neg (by omega)]
        · have hg := bnd_bad (most := m) (above := 2) (left := 12) (l := l) (by rw [← hB]; exact hz)
          rw [← hB] at hg
          obtain ⟨g1, g2⟩ := hg
          simp only at g1 g2
          subst g1; subst g2
          refine ⟨by decide, ?_⟩
          unfold offR
          rw [if_pos (show (l1, e1, 0).2.1 ≠ 0 from hz), if_pos hz]
      have HK := Lib.hid hk47
      have hkk : (k : Int) ≤ 140737488351232 := by omega
      have hb := bounded_any g A c l w H.out m 2 12 (by decide)
      rw [errV_other (by decide), errV_other (by decide), ← hB] at hb
      have HBB := Lib.hid hb
      clear hB hk47 hb
      refine HBB.out.mono ?_
      rintro en w2 ⟨A', c', l', hl', rfl, hr, hk, hb⟩
      have HP := Lib.hid (And.intro hr (And.intro hk hb))
      have HL2 := Lib.hid (show l' = l1 from hl'.out)
      have hwr : IntKind.i64.wrap (k : Int) = (k : Int) := by rw [IntKind.wrap_i64]; omega
      clear hr hk hb c0 c1 f1
      go_wp2_with fail
      refine (TAIL.out k w2 A' c' l' e1 HP.out.1 HP.out.2.1 HP.out.2.2 HK.out.1 (by rw [HL2.out]; exact HK.out.2)).mono ?_
      rintro en w3 ⟨A2, c2, t, rfl, hcall⟩
      have HC := Lib.hid hcall
      clear hcall
      go_wp2_with fail
      refine HC.out.mono ?_
      intro en w4 hp
      obtain ⟨A5, c5, t5, rfl, hp⟩ : ∃ A5 c5 t5, en = .returned (.slice A5 (List.length t5) c5) ∧ BytP g A (bytesR (m : Int) l 0) w en w4 := by obtain ⟨x1, x2, x3, x4, x5, x6, x7, x8⟩ := hp; exact ⟨x4, x5, x6, x7, x1, x2, x3, x4, x5, x6, x7, x8⟩
      have HPP := Lib.hid hp
      clear hp
      go_wp2_with fail
      go_ret
      exact HPP.out
  · have e1 : bytesR most l e = (l, e, []) := by unfold bytesR; rw [if_pos he]
    have E1 := Lib.hid e1
    have hd : decide (e ≠ 0) = true := by simp [he]
    obtain ⟨m, hmm⟩ : ∃ m : Nat, (m : Int) = max most 0 := ⟨(max most 0).toNat, by omega⟩
    have EO := Lib.hid (show offR 0 l e = (l, e, []) by unfold offR; rw [if_pos he])
    clear e1
    go_enter Try.func20, Try.ntmps20
    go_wp2_with fail
    refine (stuck_any g A c _ e _ H.out).mono ?_
    rintro en w' ⟨rfl, rfl⟩
    rw [hd]
    go_wp2_with fail
    rw [← hmm]
    refine Calls.mono (bounded_bad g A c l e _ H.out he m (.iface 39 (.int .i64 2)) (.iface 39 (.int .i64 12))) ?_
    rintro en w2 ⟨A', c', l', hl', rfl, hr, hk, hb⟩
    have HP := Lib.hid (And.intro hr (And.intro hk hb))
    have HL2 := Lib.hid (show l' = l from hl'.out)
    clear hr hk hb c0 c1 f1 hmm
    go_wp2_with fail
    refine (TAIL.out 0 w2 A' c' l' e HP.out.1 HP.out.2.1 HP.out.2.2 (by decide) (by rw [E1.out, HL2.out, EO.out])).mono ?_
    rintro en w3 ⟨A2, c2, t, rfl, hcall⟩
    have HC := Lib.hid hcall
    clear hcall
    go_wp2_with fail
    refine HC.out.mono ?_
    intro en w4 hp
    obtain ⟨A5, c5, t5, rfl, hp⟩ : ∃ A5 c5 t5, en = .returned (.slice A5 (List.length t5) c5) ∧ BytP g A (bytesR most l e) w en w4 := by obtain ⟨x1, x2, x3, x4, x5, x6, x7, x8⟩ := hp; exact ⟨x4, x5, x6, x7, x1, x2, x3, x4, x5, x6, x7, x8⟩
    have HPP := Lib.hid hp
    clear hp
    go_wp2_with fail
    go_ret
    exact HPP.out

end Go.Proofs.Ythppbefemfkccaa
