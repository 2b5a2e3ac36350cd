/- The rows of entries of package mem: contracts. -/
import Derived.Test.YtaedmafmflohiaaEnIns3
import Derived.Test.YtaedmafmflohiaaRegionZ
namespace Go.Proofs.Ytaedmafmflohiaa
open Go.RowKit

theorem ins_list (l : List En) (i : Nat) (e : En) : (encEn l).take (i * 3) ++ e.cells ++ (encEn l).drop (i * 3) = encEn (l.take i ++ e :: l.drop i) := by
  rw [Nat.mul_comm i 3, encEn_take, encEn_drop, encEn_append, encEn_cons, List.append_assoc]
theorem cells_one (e : En) : ∀ u ∈ e.cells, u.oneCell' = true := by
  intro u hu
  simp [En.cells] at hu
  rcases hu with rfl | rfl | rfl <;> rfl
theorem insert_en (A : Option Addr) (c : Nat) (l : List En) (i : Nat) (e : En) (g2 : Nat) (w : World) (ho : w.ownsRow 0 27 3 (.slice A l.length c) l.length (encEn l)) (hg2 : w.heap[g2]? = some (.cells e.cells.toArray 27 (0, 0)))
    (hne : ∀ a, A = some a → a.block ≠ g2) (hi : i ≤ l.length) (hl : l.length ≤ 1000000000) :
    Calls Try.prog 30 #[.slice A l.length c, .int .i64 i, .slice (some ⟨g2, 0, none⟩) 1 1] w (InsEn A (encEn (l.take i ++ e :: l.drop i)) (l.length + 1) w) := by
  have hlen := encEn_len l
  rcases Nat.lt_or_ge i l.length with h | h
  · obtain ⟨hxs, h2⟩ := ho
    rcases h2 with ⟨_, h0⟩ | ⟨g, cap, cur, hv, hb, hh, hnc, hcm, hcs, htk⟩
    · omega
    · obtain ⟨rfl, rfl⟩ : A = some ⟨g, 0, none⟩ ∧ c = cap := by injection hv with e1 e2 e3; exact ⟨e1, e3⟩
      obtain ⟨cl, hcl⟩ : ∃ cl : List Value, cl = cur.toList := ⟨_, rfl⟩
      have hh' : w.heap[g]? = some (.cells cl.toArray 27 (0, 0)) := by rw [hcl]; simpa using hh
      rw [← hcl] at htk
      have hcl2 : cl.length = c * 3 := by rw [hcl]; simpa using hcs
      rw [← ins_list, ← htk]
      rcases Nat.lt_or_ge c (l.length + 1) with hroom | hroom
      · refine ins_grow g c l.length i _ g2 e.cells w (fun j v hj => ?_) (lt_of_block hh') (by rw [htk]; omega) (by rw [htk]; exact encEn_one l) hg2 rfl (cells_one e) hl h hnc hroom
        rw [List.getElem?_take] at hj
        split at hj
        · rw [cell_of_row _ _ _ _ _ _ hh', List.getElem?_toArray]; exact hj
        · cases hj
      · exact ins_room g c l.length i cl g2 e.cells w hh' hcl2 hcm (by rw [htk]; exact encEn_one l) hg2 (fun e' => hne _ rfl e'.symm) rfl (cells_one e) hl h hroom
  · have hil : i = l.length := by omega
    subst hil
    have hnc : l.length ≤ c := by
      rcases ho.2 with ⟨h1, h0⟩ | ⟨g, cap, cur, hv, hb, hh, hnc, _⟩
      · omega
      · injection hv with e1 e2 e3; omega
    have := ins_end A c l.length (encEn l) g2 e.cells w ho ⟨by simp, fun _ => ⟨_, rfl, fun j u hu => by rw [Addr.add_lit, Nat.zero_add, cell_of_row _ _ _ _ _ _ hg2, List.getElem?_toArray]; exact hu⟩⟩ (cells_one e) hl hnc
    rw [List.take_length, List.drop_length, encEn_append, encEn_cons]
    simpa [encEn] using this
/-- A Mem: its block, its row. -/
def MemS (w : World) (g : Nat) (A : Option Addr) (c : Nat) (l : List En) : Prop :=
  w.heap[g]? = some (.cells #[.slice A l.length c, .int .i64 (sizeE l : Nat)] 50 (0, 0)) ∧ w.ownsRow 0 27 3 (.slice A l.length c) l.length (encEn l) ∧ (∀ a, A = some a → a.block ≠ g)
theorem MemS.keeps {S : List Nat} {w w' : World} {g : Nat} {A : Option Addr} {c : Nat} {l : List En} (h : MemS w g A c l) (hk : Keeps S w w') (hg : g ∉ S) (hA : ∀ a, A = some a → a.block ∉ S) : MemS w' g A c l :=
  ⟨(hk.block g (lt_of_block h.1) hg).trans h.1, ownsRow_keeps h.2.1 hk hA, h.2.2⟩
theorem MemS.keeps0 {w w' : World} {g : Nat} {A : Option Addr} {c : Nat} {l : List En} (h : MemS w g A c l) (hk : Keeps [] w w') : MemS w' g A c l := h.keeps hk (by simp) (fun _ _ => by simp)
theorem MemS.cells {w : World} {g : Nat} {A : Option Addr} {c : Nat} {l : List En} (h : MemS w g A c l) : w.cell? ⟨g, 0, none⟩ = some (.slice A l.length c) ∧ w.cell? ⟨g, 1, none⟩ = some (.int .i64 (sizeE l : Nat)) := by
  constructor <;> (rw [cell_of_row _ _ _ _ _ _ h.1]; rfl)
theorem MemS.rd {w : World} {g : Nat} {A : Option Addr} {c : Nat} {l : List En} (h : MemS w g A c l) : Rd w A l.length 3 (encEn l) := Rd.of_own h.2.1
/-- Texts are not longer than any that can be. -/
def EnOk (l : List En) : Prop := ∀ e ∈ l, e.k.length ≤ 140737488351232 ∧ e.v.length ≤ 140737488351232
theorem sizeE_le {l : List En} (h : EnOk l) : sizeE l ≤ l.length * 281474976702464 := by
  induction l with
  | nil => simp [sizeE]
  | cons e l ih =>
    have h1 := h e (by simp)
    have h2 := ih (fun x hx => h x (by simp [hx]))
    rw [sizeE_cons, List.length_cons, Nat.add_mul]
    unfold wE
    omega
theorem mnew_any (w : World) : Calls Try.prog 8 #[] w fun e w' => ∃ g, e = .returned (.pointer (some ⟨g, 0, none⟩)) ∧ MemS w' g none 0 [] ∧ Keeps [] w w' ∧ w.heap.size ≤ g := by
  go_enter Try.func8, Try.ntmps8
  go_wp2_with fail
  go_ret
  exact ⟨w.heap.size, rfl, ⟨heap_alloc_new _ _, World.ownsRow_nil _ _ _ _, by simp⟩, (Keeps.refl [] w).alloc _, Nat.le_refl _⟩
end Go.Proofs.Ytaedmafmflohiaa
