/- What a reader takes off besides numbers: contracts. -/
import Derived.Test.YthppbefemfkccaaPackRi
import Derived.Test.YthppbefemfkccaaMem
namespace Go.Proofs.Ythppbefemfkccaa
open Go.RowKit

/-- So many bytes off: what is left, the error, the bytes. -/
def offR (n : Nat) (l : List UInt8) (e : Int) : List UInt8 × Int × List UInt8 := if e ≠ 0 then (l, e, []) else if l.length < n then (l, 12, []) else (l.drop n, 0, l.take n)
/-- A reader's call that hands bytes of its own out. -/
def OffP (g : Nat) (A : Option Addr) (r : List UInt8 × Int × List UInt8) (w : World) (en : Ending) (w' : World) : Prop :=
  ∃ A' c' l' A2 c2 t, Hid (l' = r.1) ∧ Hid (t = r.2.2) ∧ en = .returned (.slice A2 t.length c2) ∧ Rdr w' g A' c' l' r.2.1 ∧ RdB w' A2 t ∧ t.length ≤ c2 ∧ (∀ a, A2 = some a → a.block ∈ blk A) ∧ Keeps [g] w w' ∧ (∀ a, A' = some a → a.block ∈ blk A)
theorem OffP.nil {w w' : World} {g : Nat} {A : Option Addr} {c : Nat} {l : List UInt8} {e : Int} (h : Rdr w' g A c l e) (hk : Keeps [g] w w') : OffP g A (l, e, []) w (.returned (.slice none 0 0)) w' :=
  ⟨A, c, l, none, 0, [], rfl, rfl, rfl, h, RdB.nil _ _, Nat.le_refl _, by simp, hk, fun a ha => mem_blk.2 ⟨a, ha, rfl⟩⟩

theorem infoB1 : (Try.prog.info? 5).map (·.size) = some 1 := by kernel_rfl

set_option maxHeartbeats 1000000 in
theorem off_any (g : Nat) (A : Option Addr) (c : Nat) (l : List UInt8) (e : Int) (w : World) (h : Rdr w g A c l e) (n : Nat) (hn47 : n ≤ 140737488355328) :
    Calls Try.prog 29 #[.pointer (some ⟨g, 0, none⟩), .int .i64 n] w (OffP g A (offR n l e) w) := by
  have H := Lib.hid h
  have c0 := h.c0
  have c1 := h.c1
  have f0 := h.f0
  have f1 := h.f1
  have hcl := h.2.2.1
  have h64 := h.2.2.2.1
  clear h
  by_cases he : e = 0
  · subst he
    rw [errV_zero] at c1
    have hd : decide ((0 : Int) ≠ 0) = false := by simp
    by_cases hl : l.length < n
    · have e1 : offR n l 0 = (l, 12, []) := by unfold offR; rw [if_neg (by simp), if_pos hl]
      rw [e1]
      have hl' : (l.length : Int) < (n : Int) := by omega
      clear e1 hl
      go_enter Try.func29, Try.ntmps29
      go_wp2_with fail
      refine (stuck_any g A c _ 0 _ H.out).mono ?_
      rintro en w' ⟨rfl, rfl⟩
      rw [hd]
      go_wp2_with fail
      go_ret
      exact OffP.nil (((errV_other (n := 12) (by decide)) ▸ H.out.bad 12)) (Keeps.setCell (p := ⟨g, 1, none⟩) (Keeps.refl [g] w) (.inl (by simp)) _)
    · have e1 : offR n l 0 = (l.drop n, 0, l.take n) := by unfold offR; rw [if_neg (by simp), if_neg hl]
      rw [e1]
      have hl' : ¬ (l.length : Int) < (n : Int) := by omega
      have hn1 : (n : Int) ≤ (c : Int) := by omega
      have hn2 : (n : Int) ≤ (l.length : Int) := by omega
      have HL := Lib.hid hl
      clear e1 hl
      go_enter Try.func29, Try.ntmps29
      go_wp2_with fail
      refine (stuck_any g A c _ 0 _ H.out).mono ?_
      rintro en w' ⟨rfl, rfl⟩
      rw [hd]
      go_wp2_with (first
        | (refine wpList_sec rfl 32 (.tmp 22) none (some (.tmp 23)) (some (.tmp 24)) rfl Try.underlying32 infoB1 A l.length c 0 n n rfl Bnd.no (Bnd.at_ rfl) (Bnd.at_ rfl) (by omega) (by omega) (by omega) (by simp) ?_; rw [secA_zero, Nat.sub_zero])
        | (refine wpList_sec rfl 32 (.tmp 30) (some (.tmp 31)) none none rfl Try.underlying32 infoB1 A l.length c n l.length c rfl (Bnd.at_ rfl) Bnd.no Bnd.no (by omega) (by omega) (by omega) (by simp) ?_))
      go_ret
      have hlen : (l.take n).length = n := by simp; omega
      refine ⟨secA A n c 1, c - n, l.drop n, A, n, l.take n, rfl, rfl, by rw [hlen]; rfl, ?_, ?_, by omega, fun a ha => mem_blk.2 ⟨a, ha, rfl⟩, Keeps.setCell (p := ⟨g, 0, none⟩) (Keeps.refl [g] w) (.inl (by simp)) _, fun a ha => ?_⟩
      · exact Rdr.took_n H.out _ _ _ _ (by simp) (H.out.2.1.tail n c (by omega) hcl) (by omega) (by omega) (fun a ha hp => by obtain ⟨b, hb, e⟩ := secA_block ha; rw [e]; exact H.out.2.2.2.2 b hb (by omega))
      · exact RdB.keeps (H.out.2.1.head n (by omega)) (Keeps.setCell (S := [g]) (p := ⟨g, 0, none⟩) (Keeps.refl [g] w) (.inl (by simp)) _) (fun a ha hp => by have := H.out.2.2.2.2 a ha (by rw [hlen] at hp; omega); simpa using this)
      · obtain ⟨b, hb, e⟩ := secA_block ha
        exact mem_blk.2 ⟨b, hb, e.symm⟩
  · have e1 : offR n l e = (l, e, []) := by unfold offR; rw [if_pos he]
    rw [e1]
    have hd : decide (e ≠ 0) = true := by simp [he]
    clear e1
    go_enter Try.func29, Try.ntmps29
    go_wp2_with fail
    refine (stuck_any g A c _ e _ H.out).mono ?_
    rintro en w' ⟨rfl, rfl⟩
    rw [hd]
    go_wp2_with fail
    go_ret
    exact OffP.nil H.out (Keeps.refl [g] w)

theorem OffP.cases {g : Nat} {A : Option Addr} {r : List UInt8 × Int × List UInt8} {w w' : World} {en : Ending} (h : OffP g A r w en w') :
    ∃ A' c' l' A2 c2 t, en = .returned (.slice A2 t.length c2) ∧ Hid (l' = r.1) ∧ Hid (t = r.2.2) ∧ Rdr w' g A' c' l' r.2.1 ∧ RdB w' A2 t ∧ t.length ≤ c2 ∧ (∀ a, A2 = some a → a.block ∈ blk A) ∧ Keeps [g] w w' ∧ (∀ a, A' = some a → a.block ∈ blk A) := by
  obtain ⟨A', c', l', A2, c2, t, h1, h2, h3, h4⟩ := h
  exact ⟨A', c', l', A2, c2, t, h3, h1, h2, h4⟩

/-- A truth. -/
def boolR (l : List UInt8) (e : Int) : List UInt8 × Int × Bool :=
  if e ≠ 0 then (l, e, false) else match l with
  | [] => ([], 12, false)
  | b :: t => if 1 < b.toNat then (b :: t, 3, false) else (t, 0, decide (b.toNat = 1))

end Go.Proofs.Ythppbefemfkccaa
