/- slices.Clone and slices.Insert at entries: contracts. -/
import Derived.Test.YtaedmafmflohiaaEn
import Derived.Test.YtaedmafmflohiaaRowCopy
import Derived.Lib.Overlaps
import Derived.Lib.AppendZerosOnto
import Derived.Lib.SliceRun
namespace Go.Proofs.Ytaedmafmflohiaa
open Go.RowKit

theorem ownEn_empty (w : World) : (w.alloc (.cells #[] 27)).ownsRow 0 27 3 (.slice (some ⟨w.heap.size, 0, none⟩) 0 0) 0 [] :=
  World.ownsRow_lit w #[] 0 (Nat.zero_le _) (by unfold maxLen; omega) rfl
/-- What comes of a call that makes a row. -/
def NewEn (l : List En) (w : World) (e : Ending) (w' : World) : Prop :=
  ∃ A c, e = .returned (.slice A l.length c) ∧ w'.ownsRow 0 27 3 (.slice A l.length c) l.length (encEn l) ∧ Keeps [] w w' ∧ (∀ a, A = some a → w.heap.size ≤ a.block)
theorem clone_en (A : Option Addr) (c : Nat) (l : List En) (w : World) (hr : Rd w A l.length 3 (encEn l)) (hl : l.length ≤ 1000000000) :
    Calls Try.prog 31 #[.slice A l.length c] w (NewEn l w) := by
  have HR := Lib.hid hr
  have HL := Lib.hid hl
  have hlen := encEn_len l
  clear hr hl
  rcases A with _ | ad
  · have h0 : l = [] := by
      rcases Nat.eq_zero_or_pos l.length with h | h
      · exact List.eq_nil_of_length_eq_zero h
      · obtain ⟨ad, e, _⟩ := HR.out.at_ (k := 0) (by omega)
        cases e
    subst h0
    have hn := Lib.run_eql_slice_nil (P := Try.prog) w 22 27 none 0 c 0 0 Try.underlying22
    go_enter Try.func31, Try.ntmps31
    go_wp2_with fail
    go_ret
    exact ⟨none, 0, rfl, World.ownsRow_nil _ _ _ _, Keeps.refl [] w, by simp⟩
  · obtain ⟨n, hn'⟩ : ∃ n, n = l.length := ⟨_, rfl⟩
    have HN := Lib.hid hn'
    have HRR := Lib.hid (show Rd (w.alloc (.cells #[] 27)) (some ad) n 3 (encEn l) from by rw [hn']; exact HR.out.alloc _)
    have HB := Lib.hid (show 0 + n ≤ maxLen ∧ (0 + n) * 40 ≤ 140737488355328 from by have := HL.out; unfold maxLen; omega)
    rw [← hn']
    have hn := Lib.run_eql_slice_nil (P := Try.prog) w 22 27 (some ad) n c 0 0 Try.underlying22
    clear hn' hlen HR
    go_enter Try.func31, Try.ntmps31
    go_wp2_with (at_builtin; refine wpList_appendV rfl (.tmp 5) (.tmp 6) 22 27 rfl Try.underlying22 _ 3 40 infoEn rfl (by decide) (some ⟨w.heap.size, 0, none⟩) 0 0 [] rfl (ownEn_empty w) (some ad) n c (encEn l) rfl HRR.out (encEn_one l) HB.out.1 HB.out.2 ?_; intro A' c' w' ho hk hb; rw [Nat.zero_add, List.nil_append] at ho; have HO := Lib.hid ho; have HK := Lib.hid hk; have HBB := Lib.hid hb; clear ho hk hb)
    go_ret
    have hnl := HN.out
    subst hnl
    refine ⟨A', c', by simp, HO.out, ((Keeps.refl [] w).alloc _).trans HK.out (by simp [blk]), fun a ha => ?_⟩
    rcases HBB.out a ha with h | h
    · simp [blk] at h; omega
    · simp at h; omega
/-- What comes of an insertion. -/
def InsEn (A : Option Addr) (xs : List Value) (n : Nat) (w : World) (e : Ending) (w' : World) : Prop :=
  ∃ A' c', e = .returned (.slice A' n c') ∧ w'.ownsRow 0 27 3 (.slice A' n c') n xs ∧ Keeps (blk A) w w' ∧ (∀ a, A' = some a → a.block ∈ blk A ∨ w.heap.size ≤ a.block)
theorem ins_end (A : Option Addr) (c n : Nat) (xs : List Value) (g2 : Nat) (vs : List Value) (w : World) (ho : w.ownsRow 0 27 3 (.slice A n c) n xs) (hv : Rd w (some ⟨g2, 0, none⟩) 1 3 vs) (h1 : ∀ u ∈ vs, u.oneCell' = true) (hn : n ≤ 1000000000) (hc : n ≤ c) :
    Calls Try.prog 30 #[.slice A n c, .int .i64 n, .slice (some ⟨g2, 0, none⟩) 1 1] w (InsEn A (xs ++ vs) (n + 1) w) := by
  have HO := Lib.hid ho
  have HV := Lib.hid hv
  have HB := Lib.hid (show n + 1 ≤ maxLen ∧ (n + 1) * 40 ≤ 140737488355328 from by unfold maxLen; omega)
  have H1 := Lib.hid h1
  clear ho hv h1
  go_enter Try.func30, Try.ntmps30
  go_wp2_with (first
    | (refine wpList_sec rfl 22 (.tmp 10) (some (.tmp 11)) none none rfl Try.underlying22 infoEn3 A n c n n c rfl (Bnd.at_ rfl) Bnd.no Bnd.no (by omega) (by omega) (by omega) (by simp) ?_)
    | (at_builtin; refine wpList_appendV rfl (.tmp 23) (.tmp 24) 22 27 rfl Try.underlying22 _ 3 40 infoEn rfl (by decide) A c n xs rfl HO.out (some ⟨g2, 0, none⟩) 1 1 vs rfl HV.out H1.out HB.out.1 HB.out.2 ?_; intro A' c' w' ho hk hb; have HO2 := Lib.hid ho; have HK := Lib.hid hk; have HBB := Lib.hid hb; clear ho hk hb))
  go_ret
  exact ⟨A', c', rfl, HO2.out, HK.out, HBB.out⟩
end Go.Proofs.Ytaedmafmflohiaa
