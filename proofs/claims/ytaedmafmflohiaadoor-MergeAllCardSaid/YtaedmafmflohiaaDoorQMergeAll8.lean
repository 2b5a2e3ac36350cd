/- The next entry: a contract. Rows in their blocks: a list of them, kept. No program is named here. A reader made: a contract. -/
import Derived.Test.YtaedmafmflohiaaDoorQMergeAll7
import Derived.Laws.Cover1
import Derived.Test.YtaedmafmflohiaaDoorQMergeAll1
import Derived.Test.YtaedmafmflohiaaDoorQMergeAll2
import Derived.Test.YtaedmafmflohiaaDoorQMergeAll3
namespace Go.Proofs.YtaedmafmflohiaaDoor
open Go.RowKit

theorem least_exists (P : Nat → Prop) : ∀ n, P n → ∃ m, P m ∧ ∀ k, P k → m ≤ k := by
  intro n
  induction n using Nat.strongRecOn with
  | ind n ih =>
    intro h
    by_cases h1 : ∃ k, k < n ∧ P k
    · obtain ⟨k, hk, hp⟩ := h1
      exact ih k hk hp
    · exact ⟨n, h, fun k hk => by
        rcases Nat.lt_or_ge k n with h2 | h2
        · exact absurd ⟨k, h2, hk⟩ h1
        · exact h2⟩
open Classical in
/-- The least number for which it holds. -/
noncomputable def leastN (P : Nat → Prop) : Nat := if h : ∃ m, P m ∧ ∀ k, P k → m ≤ k then Classical.choose h else 0
theorem leastN_is {P : Nat → Prop} {n : Nat} (h : P n) : P (leastN P) ∧ leastN P ≤ n := by
  unfold leastN
  have h1 := least_exists P n h
  rw [dif_pos h1]
  exact ⟨(Classical.choose_spec h1).1, (Classical.choose_spec h1).2 n h⟩
theorem RS.keeps0 {w w' : World} {gR g c : Nat} {H : List Od} {b : Bool} {last : List UInt8} (h : RS w gR g c H b last) (hk : Keeps [] w w') : RS w' gR g c H b last :=
  ⟨(hk.block gR (lt_of_block h.blk) (by simp)).trans h.blk, h.hs.keeps0 hk, h.le, h.ne, h.hp⟩
theorem RS.begun {w w' : World} {gR g c : Nat} {H : List Od} {b b' : Bool} {last last' : List UInt8} (h : RS w gR g c H b last) (hk : Keeps [gR] w w') (hb : w'.heap[gR]? = some (.cells #[.slice (some ⟨g, 0, none⟩) H.length c, .bool b', .string (strB last')] 48 (0, 0))) : RS w' gR g c H b' last' :=
  ⟨hb, ⟨by rw [cell_of_row _ _ _ _ _ _ hb]; rfl, ownsRow_keeps h.hs.own hk (fun a e => by cases e; simpa using fun e => h.hs.ne e.symm), h.hs.ne, fun o ho => ⟨(h.hs.rd o ho).1.keeps hk (fun a e _ => by simpa using ((h.hs.rd o ho).2 a e).2), (h.hs.rd o ho).2⟩⟩, h.le, h.ne, h.hp⟩
/-- A reader. -/
def RD (w : World) (gR g : Nat) (H : List Od) (b : Bool) (last : List UInt8) : Prop :=
  (∃ c, RS w gR g c H b last) ∨ (H = [] ∧ w.heap[gR]? = some (.cells #[.slice none 0 0, .bool b, .string (strB last)] 48 (0, 0)))
theorem RD.keeps0 {w w' : World} {gR g : Nat} {H : List Od} {b : Bool} {last : List UInt8} (h : RD w gR g H b last) (hk : Keeps [] w w') : RD w' gR g H b last := by
  rcases h with ⟨c, h⟩ | ⟨h1, h⟩
  · exact .inl ⟨c, h.keeps0 hk⟩
  · exact .inr ⟨h1, (hk.block gR (lt_of_block h) (by simp)).trans h⟩
theorem RD.cell {w : World} {gR g : Nat} {H : List Od} {b : Bool} {last : List UInt8} (h : RD w gR g H b last) : ∃ A c, w.cell? ⟨gR, 0, none⟩ = some (.slice A H.length c) := by
  rcases h with ⟨c, h⟩ | ⟨rfl, h⟩
  · exact ⟨_, c, h.hs.cell⟩
  · exact ⟨none, 0, by rw [cell_of_row _ _ _ _ _ _ h]; rfl⟩
theorem RD.lt {w : World} {gR g : Nat} {H : List Od} {b : Bool} {last : List UInt8} (h : RD w gR g H b last) : gR < w.heap.size := by
  rcases h with ⟨c, h⟩ | ⟨rfl, h⟩
  · exact lt_of_block h.blk
  · exact lt_of_block h
def totO (H : List Od) : Nat := (H.map fun o => o.es.length).sum
theorem totO_perm {A B : List Od} (h : A.Perm B) : totO A = totO B := (h.map _).sum_nat
theorem totO_after {o : Od} {T : List Od} {e : En} {es : List En} (he : o.es = e :: es) : totO (after (o :: T)) + 1 = totO (o :: T) := by
  have hn : (nxt o).es = es := by unfold nxt; rw [he]; rfl
  rw [after_cons]
  split
  · rename_i h
    rw [he] at h
    have h' : es = [] := h
    unfold totO
    simp [he, h']
    omega
  · unfold totO
    simp [he, hn]
    omega
/-- Where a reader is: the first j of all have come. -/
def RM (Ls : List (List En)) (M : List En) (gR g B : Nat) (w : World) (j : Nat) : Prop := ∃ H b last, RD w gR g H b last ∧ MI Ls M H b last j ∧ gR < B ∧ g < B ∧ ∀ o ∈ H, ∀ a, o.A = some a → a.block < B
theorem RM.make {Ls : List (List En)} {M : List En} {gR g : Nat} {w : World} {j : Nat} {H : List Od} {b : Bool} {last : List UInt8} (h1 : RD w gR g H b last) (h2 : MI Ls M H b last j) (hg : g < w.heap.size) : RM Ls M gR g w.heap.size w j := by
  refine ⟨H, b, last, h1, h2, h1.lt, hg, fun o ho a e => ?_⟩
  rcases h1 with ⟨c, h1⟩ | ⟨h1, _⟩
  · exact (h1.hs.rd o ho).1.lt (by rw [encEn_len]; have := List.length_pos_iff.2 (h1.ne o ho).1; omega) e
  · rw [h1] at ho; cases ho
/-- In the midst of it. -/
def NxI (Ls : List (List En)) (M : List En) (gR g B gz : Nat) (w wr : World) (j N : Nat) : Prop := ∃ H b last, RD wr gR g H b last ∧ MI Ls M H b last j ∧ totO H = N ∧ Keeps [g, gR] w wr ∧ wr.heap[gz]? = some (.cells #[.string ⟨#[]⟩, .string ⟨#[]⟩, .bool false] 39 (0, 0)) ∧ gR < B ∧ g < B ∧ ∀ o ∈ H, ∀ a, o.A = some a → a.block < B
def NextP (Ls : List (List En)) (M : List En) (gR g B j : Nat) (w : World) (r : Ending) (w' : World) : Prop :=
  Keeps [g, gR] w w' ∧ ((∃ h : j < M.length, r = .returned (.tuple #[M[j].val, .bool true]) ∧ RM Ls M gR g B w' (j + 1)) ∨ (¬ j < M.length ∧ r = .returned (.tuple #[zeroE.val, .bool false])))
theorem set3 {wr : World} {gz : Nat} {a b c : Value} {T : TypeId} (h : wr.heap[gz]? = some (.cells #[a, b, c] T (0, 0))) (u0 u1 u2 : Value) :
    (((wr.setCell ⟨gz, 0, none⟩ u0).setCell ⟨gz, 1, none⟩ u1).setCell ⟨gz, 2, none⟩ u2).heap[gz]? = some (.cells #[u0, u1, u2] T (0, 0)) ∧ Keeps [gz] wr (((wr.setCell ⟨gz, 0, none⟩ u0).setCell ⟨gz, 1, none⟩ u1).setCell ⟨gz, 2, none⟩ u2) := by
  constructor
  · rw [heap_setCell_same _ gz 2 _ _ _ (heap_setCell_same _ gz 1 _ _ _ (heap_setCell_same _ gz 0 _ _ _ h))]
    rfl
  · exact (((Keeps.refl [gz] wr).setCell (p := ⟨gz, 0, none⟩) (.inl (by simp)) _).setCell (p := ⟨gz, 1, none⟩) (.inl (by simp)) _).setCell (p := ⟨gz, 2, none⟩) (.inl (by simp)) _
theorem blocks_after {o : Od} {T H' : List Od} {n : Nat} (hp : H'.Perm (after (o :: T))) (h : ∀ x ∈ o :: T, ∀ a, x.A = some a → a.block < n) : ∀ x ∈ H', ∀ a, x.A = some a → a.block < n := by
  intro x hx a e
  rcases mem_after (hp.mem_iff.1 hx) with h1 | rfl
  · exact h x (List.mem_cons_of_mem _ h1) a e
  · obtain ⟨b, hb, hbb⟩ := secA_block e
    rw [hbb]
    exact h o (by simp) b hb
theorem RS.apart {w w' : World} {gR g c : Nat} {H : List Od} {b : Bool} {last : List UInt8} {S : List Nat} (h : RS w gR g c H b last) (hk : Keeps S w w') (h1 : gR ∉ S) (h2 : g ∉ S) (h3 : ∀ x ∈ H, ∀ a, x.A = some a → a.block ∉ S) : RS w' gR g c H b last :=
  ⟨(hk.block gR (lt_of_block h.blk) h1).trans h.blk, ⟨hk.cell h.hs.cell h1, ownsRow_keeps h.hs.own hk (fun a e => by cases e; exact h2), h.hs.ne, fun o ho => ⟨(h.hs.rd o ho).1.keeps hk (fun a e _ => h3 o ho a e), (h.hs.rd o ho).2⟩⟩, h.le, h.ne, h.hp⟩
theorem next_end {Ls : List (List En)} {M : List En} {w W W2 W3 : World} {gR g gz gE c j : Nat} {o : Od} {T H' : List Od} {e : En} {B : Nat} (hB : gR < B ∧ g < B ∧ ∀ x ∈ o :: T, ∀ a, x.A = some a → a.block < B) (hr : RS W gR g c H' true e.k) (hk : Keeps [g, gR] w W) (hk2 : Keeps [gE] W W2) (hs : Keeps [gz] W2 W3) (hz : gz = w.heap.size) (hE : gz < gE) (hgs : gR < gz ∧ g < gz)
    (hA : ∀ x ∈ o :: T, ∀ a, x.A = some a → a.block < gz) (hp : H'.Perm (after (o :: T))) (hJ : ∃ hj : j < M.length, M[j] = e.norm ∧ MI Ls M (after (o :: T)) true e.k (j + 1)) (v : Value) (hv : e.norm.val = v) : NextP Ls M gR g B j w (.returned (.tuple #[v, .bool true])) W3 := by
  obtain ⟨hj, h1, h2⟩ := hJ
  have hb := blocks_after hp hA
  have k1 : Keeps [gE, gz] W W3 := (hk2.mono (by simp)).trans hs (by simp)
  refine ⟨hk.trans k1 (fun t ht => .inr (by simp at ht; omega)), .inl ⟨hj, by rw [h1, hv], H', true, e.k, .inl ⟨c, hr.apart k1 (by simp; omega) (by simp; omega) (fun x hx a e => by have := hb x hx a e; simp; omega)⟩, h2.perm hp, hB.1, hB.2.1, blocks_after hp hB.2.2⟩⟩
set_option maxRecDepth 100000 in
set_option maxHeartbeats 8000000 in
theorem next_any (Ls : List (List En)) (M : List En) (gR g B j : Nat) (w : World) (hM : IsM Ls M) (hS : ∀ es ∈ Ls, Srt es) (hB : B ≤ w.heap.size) (hm : RM Ls M gR g B w j) :
    Calls Tryd.prog 13 #[.pointer (some ⟨gR, 0, none⟩)] w (NextP Ls M gR g B j w) := by
  have HM := Lib.hid (And.intro hM hS)
  obtain ⟨gz, hgz⟩ : ∃ gz, gz = w.heap.size := ⟨_, rfl⟩
  obtain ⟨W0, hW0⟩ : ∃ W0, W0 = w.alloc (.cells #[.string ⟨#[]⟩, .string ⟨#[]⟩, .bool false] 39) := ⟨_, rfl⟩
  have HI : Hid (∃ N, NxI Ls M gR g B gz w W0 j N) := by
    obtain ⟨H, b, last, h1, h2, h3⟩ := hm
    have hk : Keeps [] w W0 := by rw [hW0]; exact (Keeps.refl [] w).alloc _
    exact ⟨_, H, b, last, h1.keeps0 hk, h2, rfl, hk.mono (by simp), by rw [hW0, hgz]; exact heap_alloc_new _ _, h3⟩
  have HBZ := Lib.hid (show B ≤ gz from by rw [hgz]; exact hB)
  have HW0 := Lib.hid (And.intro hW0 hgz)
  clear hM hS hm hW0 hgz hB
  go_enter Tryd.func13, Tryd.ntmps13
  go_upto_region 1 with fail
  rw [← HW0.out.1, ← HW0.out.2]
  go_wp2_with fail
  go_loopw [3] (fun s3 wr => s3 = .bool false ∧ Hid (∃ N, NxI Ls M gR g B gz w wr j N)) (fun _ wr => leastN (NxI Ls M gR g B gz w wr j))
  case atStart => exact ⟨rfl, HI⟩
  case round =>
    obtain ⟨rfl, HX⟩ := hrel
    obtain ⟨N0, hN0⟩ := HX.out
    obtain ⟨N, hN⟩ : ∃ N, N = leastN (NxI Ls M gR g B gz w wr j) := ⟨_, rfl⟩
    have hNI := (leastN_is hN0).1
    rw [← hN] at hNI ⊢
    have HN := Lib.hid hN
    clear hN0 hN HI HX
    obtain ⟨H, b, last, h1, h2, h3, h4, h5, h6, h7, h8⟩ := hNI
    cases H with
    | nil =>
      obtain ⟨A, c, k0⟩ := h1.cell
      have HE := Lib.hid (show ¬ j < M.length ∧ Keeps [g, gR] w wr ∧ wr.heap[gz]? = some (.cells #[.string ⟨#[]⟩, .string ⟨#[]⟩, .bool false] 39 (0, 0)) from ⟨h2.done HM.out.1, h4, h5⟩)
      have z0 : wr.cell? ⟨gz, 0, none⟩ = some (.string ⟨#[]⟩) := by rw [cell_of_row _ _ _ _ _ _ h5]; rfl
      have z1 : wr.cell? ⟨gz, 1, none⟩ = some (.string ⟨#[]⟩) := by rw [cell_of_row _ _ _ _ _ _ h5]; rfl
      have z2 : wr.cell? ⟨gz, 2, none⟩ = some (.bool false) := by rw [cell_of_row _ _ _ _ _ _ h5]; rfl
      have fz : ∀ j, wr.frozen? ⟨gz, j, none⟩ = false := fun j => frozen_of_row wr _ j _ _ h5
      have k0' : wr.cell? ⟨gR, 0, none⟩ = some (.slice A 0 c) := k0
      clear h1 h2 h3 h4 h5 h6 h7 h8 k0
      go_wp2_with fail
      have hs := set3 HE.out.2.2 (.string ⟨#[]⟩) (.string ⟨#[]⟩) (.bool false)
      refine bodyPost_ret (v := .tuple #[.agg #[.string ⟨#[]⟩, .string ⟨#[]⟩, .bool false], .bool false]) (results_cell_tmp2 Tryd.results13 _ _ gz 39 _ (0, 0) _ _ rfl rfl hs.1 Tryd.underlying39 rfl infoEn3) rfl ?_
      exact ⟨HE.out.2.1.trans hs.2 (fun t ht => .inr (by simp at ht; have := HW0.out.2; omega)), .inr ⟨HE.out.1, rfl⟩⟩
    | cons o T =>
      obtain ⟨c, hr⟩ : ∃ c, RS wr gR g c (o :: T) b last := by
        rcases h1 with h1 | ⟨h1, _⟩
        · exact h1
        · cases h1
      obtain ⟨e, es, he⟩ : ∃ e es, o.es = e :: es := by
        have := (hr.ne o (by simp)).1
        cases ho : o.es with
        | nil => exact absurd ho this
        | cons e es => exact ⟨e, es, rfl⟩
      have k0 := hr.hs.cell
      obtain ⟨n, hn⟩ : ∃ n, n = (o :: T).length := ⟨_, rfl⟩
      rw [← hn] at k0
      have hn0 : (0 : Int) < (n : Int) := by rw [hn]; simp
      have HT := Lib.hid (show ∀ x ∈ o :: T, ltO x o = false from fun x hx => by
        obtain ⟨i, hi, rfl⟩ := List.mem_iff_getElem.1 hx
        exact hr.hp.top ltO_trans ltO_irr i hi hi)
      have HR := Lib.hid (show RS wr gR g c (o :: T) b last ∧ MI Ls M (o :: T) b last j ∧ totO (o :: T) = N ∧ Keeps [g, gR] w wr ∧ wr.heap[gz]? = some (.cells #[.string ⟨#[]⟩, .string ⟨#[]⟩, .bool false] 39 (0, 0)) ∧ (gR < gz ∧ g < gz) ∧ ∀ x ∈ o :: T, ∀ a, x.A = some a → a.block < gz from ⟨hr, h2, h3, h4, h5, ⟨by have := HBZ.out; omega, by have := HBZ.out; omega⟩, fun x hx a e => by have := HBZ.out; have := h8 x hx a e; omega⟩)
      have HRB := Lib.hid (show gR < B ∧ g < B ∧ ∀ x ∈ o :: T, ∀ a, x.A = some a → a.block < B from ⟨h6, h7, h8⟩)
      have HE := Lib.hid he
      clear h1 h2 h3 h4 h5 h6 h7 h8 hr hn he
      go_wp2_with fail
      refine (step_any gR g c o T e es b last wr HR.out.1 HE.out).mono ?_
      rintro r w2 ⟨H', rfl, h1, h2, h3⟩
      unfold En.val
      obtain ⟨gE, hgE⟩ : ∃ gE, gE = w2.heap.size := ⟨_, rfl⟩
      obtain ⟨W3, hW3⟩ : ∃ W3, W3 = w2.alloc (.cells #[.string (strB e.k), .string (strB e.v), .bool e.g] 39) := ⟨_, rfl⟩
      have H3 := Lib.hid (show RS W3 gR g c H' b last ∧ H'.Perm (after (o :: T)) ∧ Keeps [g, gR] w W3 ∧ W3.heap[gz]? = some (.cells #[.string ⟨#[]⟩, .string ⟨#[]⟩, .bool false] 39 (0, 0)) ∧ W3.heap[gE]? = some (.cells #[.string (strB e.k), .string (strB e.v), .bool e.g] 39 (0, 0)) ∧ gz < gE ∧ gR < gE ∧ g < gE ∧ w.heap.size ≤ gE from by
        have hk : Keeps [] w2 W3 := by rw [hW3]; exact (Keeps.refl [] w2).alloc _
        have hz2 := lt_of_block HR.out.2.2.2.2.1
        have hg1 := HW0.out.2
        have h6 := HR.out.2.2.2.2.2.1
        have hsz := h3.size
        have k1 : Keeps [g, gR] w W3 := (HR.out.2.2.2.1.trans h3 (by simp)).trans hk (by simp)
        have k2 : Keeps [g, gR] wr W3 := h3.trans hk (by simp)
        exact ⟨h2.keeps0 hk, h1, k1, (k2.block gz hz2 (by simp; omega)).trans HR.out.2.2.2.2.1, by rw [hW3, hgE]; exact heap_alloc_new _ _, by omega, by omega, by omega, by omega⟩)
      have HW3 := Lib.hid (And.intro hW3 hgE)
      clear h1 h2 h3 hW3 hgE k0 hn0
      go_upto_region 3 with fail
      rw [← HW3.out.1, ← HW3.out.2]
      have c1 : W3.cell? ⟨gR, 1, none⟩ = some (.bool b) := by rw [cell_of_row _ _ _ _ _ _ H3.out.1.blk]; rfl
      have c2 : W3.cell? ⟨gR, 2, none⟩ = some (.string (strB last)) := by rw [cell_of_row _ _ _ _ _ _ H3.out.1.blk]; rfl
      have y0 : W3.cell? ⟨gE, 0, none⟩ = some (.string (strB e.k)) := by rw [cell_of_row _ _ _ _ _ _ H3.out.2.2.2.2.1]; rfl
      cases b with
      | false =>
        have HEM := Lib.hid (show (false = true → e.k ≠ last) from fun h => by cases h)
        go_region
        obtain ⟨W4, hW4⟩ : ∃ W4, W4 = W3.drew := ⟨_, rfl⟩
        have H4 := Lib.hid (show RS W4 gR g c H' false last ∧ Keeps [g, gR] w W4 ∧ W4.heap[gz]? = some (.cells #[.string ⟨#[]⟩, .string ⟨#[]⟩, .bool false] 39 (0, 0)) ∧ W4.heap[gE]? = some (.cells #[.string (strB e.k), .string (strB e.v), .bool e.g] 39 (0, 0)) from by rw [hW4]; exact ⟨H3.out.1.keeps0 (Keeps.refl [] W3).drew, H3.out.2.2.1.drew, H3.out.2.2.2.1, H3.out.2.2.2.2.1⟩)
        rw [← hW4]
        clear hW4 c1 c2 y0
        have c1 : W4.cell? ⟨gR, 1, none⟩ = some (.bool false) := by rw [cell_of_row _ _ _ _ _ _ H4.out.1.blk]; rfl
        have c2 : W4.cell? ⟨gR, 2, none⟩ = some (.string (strB last)) := by rw [cell_of_row _ _ _ _ _ _ H4.out.1.blk]; rfl
        have y0 : W4.cell? ⟨gE, 0, none⟩ = some (.string (strB e.k)) := by rw [cell_of_row _ _ _ _ _ _ H4.out.2.2.2]; rfl
        have f0 : ∀ j, W4.frozen? ⟨gR, j, none⟩ = false := fun j => frozen_of_row W4 _ j _ _ H4.out.1.blk
        have n0 : ¬ gR = gE := by have := H3.out.2.2.2.2.2; omega
        have n1 : ¬ gE = gR := fun e => n0 e.symm
        go_wp2_with fail
        go_region
        obtain ⟨W5, hW5⟩ : ∃ W5, W5 = ((W4.setCell ⟨gR, 1, none⟩ (.bool true)).setCell ⟨gR, 2, none⟩ (.string (strB e.k))).drew := ⟨_, rfl⟩
        have H5 := Lib.hid (show RS W5 gR g c H' true e.k ∧ Keeps [g, gR] w W5 ∧ W5.heap[gz]? = some (.cells #[.string ⟨#[]⟩, .string ⟨#[]⟩, .bool false] 39 (0, 0)) ∧ W5.heap[gE]? = some (.cells #[.string (strB e.k), .string (strB e.v), .bool e.g] 39 (0, 0)) from by
          have hk : Keeps [gR] W4 W5 := by rw [hW5]; exact (((Keeps.refl [gR] W4).setCell (p := ⟨gR, 1, none⟩) (.inl (by simp)) _).setCell (p := ⟨gR, 2, none⟩) (.inl (by simp)) _).drew
          have h8 := H3.out.2.2.2.2.2
          have h9 := HR.out.2.2.2.2.2.1
          exact ⟨H4.out.1.begun hk (by
            rw [hW5]
            show ((W4.setCell ⟨gR, 1, none⟩ _).setCell ⟨gR, 2, none⟩ _).heap[gR]? = _
            rw [heap_setCell_same _ gR 2 _ _ _ (heap_setCell_same _ gR 1 _ _ _ H4.out.1.blk)]
            rfl), H4.out.2.1.trans hk (by simp), (hk.block gz (lt_of_block H4.out.2.2.1) (by simp; omega)).trans H4.out.2.2.1, (hk.block gE (lt_of_block H4.out.2.2.2) (by simp; omega)).trans H4.out.2.2.2⟩)
        rw [← hW5]
        clear hW5 c1 c2 y0 f0 n0 n1 H4
        obtain ⟨hj, hMe, hMI⟩ := HR.out.2.1.emit HM.out.1 HM.out.2 HT.out HE.out (fun hb => HEM.out (by simp_all))
        have HJ := Lib.hid (show ∃ hj : j < M.length, M[j] = e.norm ∧ MI Ls M (after (o :: T)) true e.k (j + 1) from ⟨hj, hMe, hMI⟩)
        clear hj hMe hMI
        have y0 : W5.cell? ⟨gE, 0, none⟩ = some (.string (strB e.k)) := by rw [cell_of_row _ _ _ _ _ _ H5.out.2.2.2]; rfl
        have y1 : W5.cell? ⟨gE, 1, none⟩ = some (.string (strB e.v)) := by rw [cell_of_row _ _ _ _ _ _ H5.out.2.2.2]; rfl
        have y2 : W5.cell? ⟨gE, 2, none⟩ = some (.bool e.g) := by rw [cell_of_row _ _ _ _ _ _ H5.out.2.2.2]; rfl
        have fy : ∀ j, W5.frozen? ⟨gE, j, none⟩ = false := fun j => frozen_of_row W5 _ j _ _ H5.out.2.2.2
        have z0 : W5.cell? ⟨gz, 0, none⟩ = some (.string ⟨#[]⟩) := by rw [cell_of_row _ _ _ _ _ _ H5.out.2.2.1]; rfl
        have z1 : W5.cell? ⟨gz, 1, none⟩ = some (.string ⟨#[]⟩) := by rw [cell_of_row _ _ _ _ _ _ H5.out.2.2.1]; rfl
        have z2 : W5.cell? ⟨gz, 2, none⟩ = some (.bool false) := by rw [cell_of_row _ _ _ _ _ _ H5.out.2.2.1]; rfl
        have fz : ∀ j, W5.frozen? ⟨gz, j, none⟩ = false := fun j => frozen_of_row W5 _ j _ _ H5.out.2.2.1
        have n0 : ¬ gz = gE := by have := H3.out.2.2.2.2.2; omega
        have n1 : ¬ gE = gz := fun e => n0 e.symm
        cases hg : e.g with
        | false =>
          have HG := Lib.hid hg
          rw [hg] at y2
          clear hg
          go_wp2_with fail
          have hs := set3 H5.out.2.2.1 (.string (strB e.k)) (.string (strB e.v)) (.bool false)
          refine bodyPost_ret (v := .tuple #[.agg #[.string (strB e.k), .string (strB e.v), .bool false], .bool true]) (results_cell_tmp2 Tryd.results13 _ _ gz 39 _ (0, 0) _ _ rfl rfl hs.1 Tryd.underlying39 rfl infoEn3) rfl ?_
          exact next_end HRB.out H5.out.1 H5.out.2.1 (Keeps.refl [gE] _) hs.2 HW0.out.2 H3.out.2.2.2.2.2.1 HR.out.2.2.2.2.2.1 HR.out.2.2.2.2.2.2 H3.out.2.1 HJ.out _ (by unfold En.norm; rw [HG.out]; simp [En.val, HG.out])
        | true =>
          have HG := Lib.hid hg
          rw [hg] at y2
          clear hg
          go_wp2_with fail
          have hs1 : Keeps [gE] W5 (W5.setCell ⟨gE, 1, none⟩ (.string ⟨#[]⟩)) := (Keeps.refl [gE] W5).setCell (p := ⟨gE, 1, none⟩) (.inl (by simp)) _
          have hs := set3 ((hs1.block gz (lt_of_block H5.out.2.2.1) (by simp; exact n0)).trans H5.out.2.2.1) (.string (strB e.k)) (.string ⟨#[]⟩) (.bool true)
          refine bodyPost_ret (v := .tuple #[.agg #[.string (strB e.k), .string ⟨#[]⟩, .bool true], .bool true]) (results_cell_tmp2 Tryd.results13 _ _ gz 39 _ (0, 0) _ _ rfl rfl hs.1 Tryd.underlying39 rfl infoEn3) rfl ?_
          exact next_end HRB.out H5.out.1 H5.out.2.1 hs1 hs.2 HW0.out.2 H3.out.2.2.2.2.2.1 HR.out.2.2.2.2.2.1 HR.out.2.2.2.2.2.2 H3.out.2.1 HJ.out _ (by unfold En.norm; rw [HG.out]; rfl)
      | true =>
        by_cases hk : e.k = last
        · have e1 : ((strB e.k).toList == (strB last).toList) = true := by rw [strB_beq]; simp [hk]
          have HK := Lib.hid hk
          clear hk
          go_region
          obtain ⟨W4, hW4⟩ : ∃ W4, W4 = W3.drew := ⟨_, rfl⟩
          have HNX := Lib.hid (show NxI Ls M gR g B gz w W4 j (totO H') from by
            have hk : Keeps [] W3 W4 := by rw [hW4]; exact (Keeps.refl [] W3).drew
            exact ⟨H', true, last, .inl ⟨c, H3.out.1.keeps0 hk⟩, (HR.out.2.1.skip HE.out HK.out).perm H3.out.2.1, rfl, H3.out.2.2.1.trans hk (by simp), (hk.block gz (lt_of_block H3.out.2.2.2.1) (by simp)).trans H3.out.2.2.2.1, HRB.out.1, HRB.out.2.1, blocks_after H3.out.2.1 HRB.out.2.2⟩)
          rw [← hW4]
          clear hW4 c1 c2 y0
          go_wp2_with fail
          go_roundw
          case rel => exact ⟨rfl, ⟨_, HNX.out⟩⟩
          case measure =>
            have h8 := (leastN_is HNX.out).2
            have h9 := totO_after (T := T) HE.out
            have h10 := totO_perm H3.out.2.1
            have h11 := HR.out.2.2.1
            omega
        · have e1 : ((strB e.k).toList == (strB last).toList) = false := by rw [strB_beq]; simp [hk]
          have HEM := Lib.hid (show (true = true → e.k ≠ last) from fun _ => hk)
          clear hk
          go_region
          obtain ⟨W4, hW4⟩ : ∃ W4, W4 = W3.drew := ⟨_, rfl⟩
          have H4 := Lib.hid (show RS W4 gR g c H' true last ∧ Keeps [g, gR] w W4 ∧ W4.heap[gz]? = some (.cells #[.string ⟨#[]⟩, .string ⟨#[]⟩, .bool false] 39 (0, 0)) ∧ W4.heap[gE]? = some (.cells #[.string (strB e.k), .string (strB e.v), .bool e.g] 39 (0, 0)) from by rw [hW4]; exact ⟨H3.out.1.keeps0 (Keeps.refl [] W3).drew, H3.out.2.2.1.drew, H3.out.2.2.2.1, H3.out.2.2.2.2.1⟩)
          rw [← hW4]
          clear hW4 c1 c2 y0
          have c1 : W4.cell? ⟨gR, 1, none⟩ = some (.bool true) := by rw [cell_of_row _ _ _ _ _ _ H4.out.1.blk]; rfl
          have c2 : W4.cell? ⟨gR, 2, none⟩ = some (.string (strB last)) := by rw [cell_of_row _ _ _ _ _ _ H4.out.1.blk]; rfl
          have y0 : W4.cell? ⟨gE, 0, none⟩ = some (.string (strB e.k)) := by rw [cell_of_row _ _ _ _ _ _ H4.out.2.2.2]; rfl
          have f0 : ∀ j, W4.frozen? ⟨gR, j, none⟩ = false := fun j => frozen_of_row W4 _ j _ _ H4.out.1.blk
          have n0 : ¬ gR = gE := by have := H3.out.2.2.2.2.2; omega
          have n1 : ¬ gE = gR := fun e => n0 e.symm
          go_wp2_with fail
          go_region
          obtain ⟨W5, hW5⟩ : ∃ W5, W5 = ((W4.setCell ⟨gR, 1, none⟩ (.bool true)).setCell ⟨gR, 2, none⟩ (.string (strB e.k))).drew := ⟨_, rfl⟩
          have H5 := Lib.hid (show RS W5 gR g c H' true e.k ∧ Keeps [g, gR] w W5 ∧ W5.heap[gz]? = some (.cells #[.string ⟨#[]⟩, .string ⟨#[]⟩, .bool false] 39 (0, 0)) ∧ W5.heap[gE]? = some (.cells #[.string (strB e.k), .string (strB e.v), .bool e.g] 39 (0, 0)) from by
            have hk : Keeps [gR] W4 W5 := by rw [hW5]; exact (((Keeps.refl [gR] W4).setCell (p := ⟨gR, 1, none⟩) (.inl (by simp)) _).setCell (p := ⟨gR, 2, none⟩) (.inl (by simp)) _).drew
            have h8 := H3.out.2.2.2.2.2
            have h9 := HR.out.2.2.2.2.2.1
            exact ⟨H4.out.1.begun hk (by
              rw [hW5]
              show ((W4.setCell ⟨gR, 1, none⟩ _).setCell ⟨gR, 2, none⟩ _).heap[gR]? = _
              rw [heap_setCell_same _ gR 2 _ _ _ (heap_setCell_same _ gR 1 _ _ _ H4.out.1.blk)]
              rfl), H4.out.2.1.trans hk (by simp), (hk.block gz (lt_of_block H4.out.2.2.1) (by simp; omega)).trans H4.out.2.2.1, (hk.block gE (lt_of_block H4.out.2.2.2) (by simp; omega)).trans H4.out.2.2.2⟩)
          rw [← hW5]
          clear hW5 c1 c2 y0 f0 n0 n1 H4
          obtain ⟨hj, hMe, hMI⟩ := HR.out.2.1.emit HM.out.1 HM.out.2 HT.out HE.out (fun hb => HEM.out (by simp_all))
          have HJ := Lib.hid (show ∃ hj : j < M.length, M[j] = e.norm ∧ MI Ls M (after (o :: T)) true e.k (j + 1) from ⟨hj, hMe, hMI⟩)
          clear hj hMe hMI
          have y0 : W5.cell? ⟨gE, 0, none⟩ = some (.string (strB e.k)) := by rw [cell_of_row _ _ _ _ _ _ H5.out.2.2.2]; rfl
          have y1 : W5.cell? ⟨gE, 1, none⟩ = some (.string (strB e.v)) := by rw [cell_of_row _ _ _ _ _ _ H5.out.2.2.2]; rfl
          have y2 : W5.cell? ⟨gE, 2, none⟩ = some (.bool e.g) := by rw [cell_of_row _ _ _ _ _ _ H5.out.2.2.2]; rfl
          have fy : ∀ j, W5.frozen? ⟨gE, j, none⟩ = false := fun j => frozen_of_row W5 _ j _ _ H5.out.2.2.2
          have z0 : W5.cell? ⟨gz, 0, none⟩ = some (.string ⟨#[]⟩) := by rw [cell_of_row _ _ _ _ _ _ H5.out.2.2.1]; rfl
          have z1 : W5.cell? ⟨gz, 1, none⟩ = some (.string ⟨#[]⟩) := by rw [cell_of_row _ _ _ _ _ _ H5.out.2.2.1]; rfl
          have z2 : W5.cell? ⟨gz, 2, none⟩ = some (.bool false) := by rw [cell_of_row _ _ _ _ _ _ H5.out.2.2.1]; rfl
          have fz : ∀ j, W5.frozen? ⟨gz, j, none⟩ = false := fun j => frozen_of_row W5 _ j _ _ H5.out.2.2.1
          have n0 : ¬ gz = gE := by have := H3.out.2.2.2.2.2; omega
          have n1 : ¬ gE = gz := fun e => n0 e.symm
          cases hg : e.g with
          | false =>
            have HG := Lib.hid hg
            rw [hg] at y2
            clear hg
            go_wp2_with fail
            have hs := set3 H5.out.2.2.1 (.string (strB e.k)) (.string (strB e.v)) (.bool false)
            refine bodyPost_ret (v := .tuple #[.agg #[.string (strB e.k), .string (strB e.v), .bool false], .bool true]) (results_cell_tmp2 Tryd.results13 _ _ gz 39 _ (0, 0) _ _ rfl rfl hs.1 Tryd.underlying39 rfl infoEn3) rfl ?_
            exact next_end HRB.out H5.out.1 H5.out.2.1 (Keeps.refl [gE] _) hs.2 HW0.out.2 H3.out.2.2.2.2.2.1 HR.out.2.2.2.2.2.1 HR.out.2.2.2.2.2.2 H3.out.2.1 HJ.out _ (by unfold En.norm; rw [HG.out]; simp [En.val, HG.out])
          | true =>
            have HG := Lib.hid hg
            rw [hg] at y2
            clear hg
            go_wp2_with fail
            have hs1 : Keeps [gE] W5 (W5.setCell ⟨gE, 1, none⟩ (.string ⟨#[]⟩)) := (Keeps.refl [gE] W5).setCell (p := ⟨gE, 1, none⟩) (.inl (by simp)) _
            have hs := set3 ((hs1.block gz (lt_of_block H5.out.2.2.1) (by simp; exact n0)).trans H5.out.2.2.1) (.string (strB e.k)) (.string ⟨#[]⟩) (.bool true)
            refine bodyPost_ret (v := .tuple #[.agg #[.string (strB e.k), .string ⟨#[]⟩, .bool true], .bool true]) (results_cell_tmp2 Tryd.results13 _ _ gz 39 _ (0, 0) _ _ rfl rfl hs.1 Tryd.underlying39 rfl infoEn3) rfl ?_
            exact next_end HRB.out H5.out.1 H5.out.2.1 hs1 hs.2 HW0.out.2 H3.out.2.2.2.2.2.1 HR.out.2.2.2.2.2.1 HR.out.2.2.2.2.2.2 H3.out.2.1 HJ.out _ (by unfold En.norm; rw [HG.out]; rfl)
end Go.Proofs.YtaedmafmflohiaaDoor
namespace Go.Proofs.YtaedmafmflohiaaDoor
open Go.RowKit

def Rw (l : List (Nat × TypeId × List Value)) (z : World) : Prop := ∀ r ∈ l, z.heap[r.1]? = some (.cells r.2.2.toArray r.2.1 (0, 0))
theorem Rw.nil (z : World) : Rw [] z := fun _ h => absurd h (by simp)
theorem Rw.keeps {S : List Nat} {l : List (Nat × TypeId × List Value)} {z z' : World} (h : Rw l z) (hk : Keeps S z z') (hS : ∀ r ∈ l, r.1 ∉ S) : Rw l z' := fun r hr => (hk.block r.1 (lt_of_block (h r hr)) (hS r hr)).trans (h r hr)
theorem Rw.keeps0 {l : List (Nat × TypeId × List Value)} {z z' : World} (h : Rw l z) (hk : Keeps [] z z') : Rw l z' := h.keeps hk (fun _ _ => by simp)
theorem Rw.lt {l : List (Nat × TypeId × List Value)} {z : World} (h : Rw l z) {r : Nat × TypeId × List Value} (hr : r ∈ l) : r.1 < z.heap.size := lt_of_block (h r hr)
theorem Rw.new {l : List (Nat × TypeId × List Value)} {z z' : World} (h : Rw l z) {o : Obj} (hk : Keeps [z.heap.size] (z.alloc o) z') {cs : List Value} {T : TypeId} (h' : z'.heap[z.heap.size]? = some (.cells cs.toArray T (0, 0))) : Rw ((z.heap.size, T, cs) :: l) z' := by
  intro r hr
  rcases List.mem_cons.1 hr with rfl | hr
  · exact h'
  · have hl := h.lt hr
    rw [hk.block r.1 (by simp; omega) (by simp; omega), heap_alloc_old _ _ (h := hl)]
    exact h r hr
theorem Rw.alloc {l : List (Nat × TypeId × List Value)} {z : World} (h : Rw l z) (cs : List Value) (T : TypeId) : Rw ((z.heap.size, T, cs) :: l) (z.alloc (.cells cs.toArray T)) := by
  intro r hr
  rcases List.mem_cons.1 hr with rfl | hr
  · exact heap_alloc_new _ _
  · rw [heap_alloc_old _ _ (h := h.lt hr)]
    exact h r hr
theorem Rw.sub {l l' : List (Nat × TypeId × List Value)} {z : World} (h : Rw l z) (hs : ∀ r ∈ l', r ∈ l) : Rw l' z := fun r hr => h r (hs r hr)
theorem Keeps.new {a z z' : World} (h : Keeps [] a z) {o : Obj} (hk : Keeps [z.heap.size] (z.alloc o) z') : Keeps [] a z' := (h.alloc o).trans hk (fun t ht => .inr (by simp at ht; have := h.size; omega))
end Go.Proofs.YtaedmafmflohiaaDoor
namespace Go.Proofs.YtaedmafmflohiaaDoor
open Go.RowKit

/-- A row of entries in a row of rows. -/
structure Ro where
  A : Option Addr
  c : Nat
  es : List En
def Ro.cell (r : Ro) : Value := .slice r.A r.es.length r.c
def RdL (w : World) (A : Option Addr) (rs : List Ro) : Prop := Rd w A rs.length 1 (rs.map Ro.cell) ∧ ∀ r ∈ rs, Rd w r.A r.es.length 3 (encEn r.es) ∧ r.es.length ≤ 1000
theorem RdL.keeps0 {w w' : World} {A : Option Addr} {rs : List Ro} (h : RdL w A rs) (hk : Keeps [] w w') : RdL w' A rs := ⟨h.1.keeps0 hk, fun r hr => ⟨(h.2 r hr).1.keeps0 hk, (h.2 r hr).2⟩⟩
theorem RdL.at_ {w : World} {A : Option Addr} {rs : List Ro} (h : RdL w A rs) {i : Nat} (hi : i < rs.length) : ∃ g o, A = some ⟨g, o, none⟩ ∧ w.cell? ⟨g, o + i, none⟩ = some (.slice rs[i].A rs[i].es.length rs[i].c) := by
  obtain ⟨g, o, e, hc⟩ := Rd.form h.1 (by simp; omega)
  exact ⟨g, o, e, hc i _ (by rw [List.getElem?_map, List.getElem?_eq_getElem hi]; rfl)⟩
theorem own_cap3 {w : World} {n c : Nat} {A : Option Addr} {xs : List Value} (h : w.ownsRow 0 39 3 (.slice A n c) n xs) : n ≤ c := by
  rcases h.2 with ⟨h1, h0⟩ | ⟨g, cap, cur, hv, hb, hh, hnc, _⟩
  · omega
  · injection hv with e1 e2 e3; omega
theorem infoOd : (Tryd.prog.info? 51).map (fun i => (i.zero, i.size, i.bytes)) = some (some (.agg #[.int .i64 0, .slice none 0 0]), 2, 32) := by kernel_rfl
/-- Behind the first i orders. -/
structure NewI (w wr : World) (gR : Nat) (A : Option Addr) (c : Nat) (H : List Od) (Ls : List (List En)) (i : Nat) : Prop where
  bk : wr.heap[gR]? = some (.cells #[.slice A H.length c, .bool false, .string (strB [])] 48 (0, 0))
  own : OwnOd wr A c H
  fr : w.heap.size ≤ gR ∧ ∀ a, A = some a → w.heap.size ≤ a.block ∧ a.block ≠ gR
  rd : ∀ o ∈ H, Rd wr o.A o.es.length 3 (encEn o.es) ∧ ∀ a, o.A = some a → w.heap.size ≤ a.block ∧ a.block ≠ gR ∧ ∀ b, A = some b → a.block ≠ b.block
  ne : ∀ o ∈ H, o.es ≠ [] ∧ o.es.length ≤ o.c ∧ o.es.length ≤ 1000
  row : ∀ o ∈ H, Ls[o.rk]? = some o.es
  cov : ∀ (r : Nat) (es : List En), r < i → Ls[r]? = some es → es ≠ [] → ∃ o ∈ H, o.rk = r ∧ o.es = es
  srt : ∀ (r : Nat) (es : List En), r < i → Ls[r]? = some es → Srt es
  len : H.length ≤ i
  kp : Keeps [] w wr
theorem NewI.keeps0 {w wr wr' : World} {gR : Nat} {A : Option Addr} {c : Nat} {H : List Od} {Ls : List (List En)} {i : Nat} (h : NewI w wr gR A c H Ls i) (hk : Keeps [] wr wr') : NewI w wr' gR A c H Ls i :=
  ⟨(hk.block gR (lt_of_block h.bk) (by simp)).trans h.bk, ownsRow_keeps h.own hk (fun _ _ => by simp), h.fr, fun o ho => ⟨(h.rd o ho).1.keeps0 hk, (h.rd o ho).2⟩, h.ne, h.row, h.cov, h.srt, h.len, h.kp.trans hk (by simp)⟩
theorem NewI.skip {w wr : World} {gR : Nat} {A : Option Addr} {c : Nat} {H : List Od} {Ls : List (List En)} {i : Nat} (h : NewI w wr gR A c H Ls i) (hi : Ls[i]? = some []) : NewI w wr gR A c H Ls (i + 1) :=
  ⟨h.bk, h.own, h.fr, h.rd, h.ne, h.row, fun r es hr h1 h2 => by
    rcases Nat.lt_or_ge r i with h3 | h3
    · exact h.cov r es h3 h1 h2
    · obtain rfl : r = i := by omega
      rw [hi] at h1
      injection h1 with h1
      exact absurd h1.symm h2, fun r es hr h1 => by
    rcases Nat.lt_or_ge r i with h3 | h3
    · exact h.srt r es h3 h1
    · obtain rfl : r = i := by omega
      rw [hi] at h1
      injection h1 with h1
      rw [← h1]
      exact List.Pairwise.nil, by have := h.len; omega, h.kp⟩
theorem NewI.add {w w1 w2 w3 w4 w5 : World} {gR : Nat} {A A2 A4 : Option Addr} {c c2 c4 : Nat} {H : List Od} {Ls : List (List En)} {i : Nat} {es : List En} (h : NewI w w1 gR A c H Ls i) (hi : Ls[i]? = some es) (hs : Srt es) (hne : es ≠ []) (hle : es.length ≤ 1000)
    (h2 : w2.ownsRow 0 39 3 (.slice A2 es.length c2) es.length (encEn es)) (hk2 : Keeps [] w1 w2) (hf2 : ∀ a, A2 = some a → w1.heap.size ≤ a.block)
    (hk3 : Keeps [] w2 w3) (h4 : w4.ownsRow 0 51 2 (.slice A4 (H.length + 1) c4) (H.length + 1) (encOd H ++ Od.cells ⟨i, A2, c2, es⟩)) (hk4 : Keeps (blk A) w3 w4) (hf4 : ∀ a, A4 = some a → a.block ∈ blk A ∨ w3.heap.size ≤ a.block)
    (h5 : w5 = w4.setCell ⟨gR, 0, none⟩ (.slice A4 (H.length + 1) c4)) : NewI w w5 gR A4 c4 (H ++ [⟨i, A2, c2, es⟩]) Ls (i + 1) := by
  have s1 := lt_of_block h.bk
  have s2 := hk2.size
  have s3 := hk3.size
  have hA : ∀ a, A = some a → a.block ≠ gR := fun a e => (h.fr.2 a e).2
  have hgA : gR ∉ blk A := fun hm => by
    obtain ⟨a, e1, e2⟩ := mem_blk.1 hm
    exact hA a e1 e2
  have k23 : Keeps [] w1 w3 := hk2.trans hk3 (by simp)
  have k14 : Keeps (blk A) w1 w4 := (k23.mono (by simp)).trans hk4 (fun t ht => .inl ht)
  have hb4 : w4.heap[gR]? = some (.cells #[.slice A H.length c, .bool false, .string (strB [])] 48 (0, 0)) := (k14.block gR s1 hgA).trans h.bk
  have hk5 : Keeps [gR] w4 w5 := by rw [h5]; exact (Keeps.refl [gR] w4).setCell (p := ⟨gR, 0, none⟩) (.inl (by simp)) _
  have hA4 : ∀ a, A4 = some a → w.heap.size ≤ a.block ∧ a.block ≠ gR ∧ ((∃ b, A = some b ∧ a.block = b.block) ∨ w3.heap.size ≤ a.block) := fun a e => by
    have h0 := h.kp.size
    rcases hf4 a e with h6 | h6
    · obtain ⟨b, e1, e2⟩ := mem_blk.1 h6
      have h7 := h.fr.2 b e1
      exact ⟨by omega, by omega, .inl ⟨b, e1, e2.symm⟩⟩
    · exact ⟨by omega, by omega, .inr h6⟩
  have hlen : (H ++ [(⟨i, A2, c2, es⟩ : Od)]).length = H.length + 1 := by simp
  have own4 : OwnOd w4 A4 c4 (H ++ [⟨i, A2, c2, es⟩]) := by
    unfold OwnOd
    rw [hlen, encOd_append]
    exact h4
  have hAlt : ∀ b, A = some b → b.block < w1.heap.size := fun b e => by
    rcases h.own.2 with ⟨e2, _⟩ | ⟨g, cap, cur, hv, hb, hh, _⟩
    · rw [e] at e2; cases e2
    · rw [e] at hv
      injection hv with e3 _ _
      injection e3 with e3
      rw [e3]
      exact lt_of_block hh
  refine ⟨?_, ownsRow_keeps own4 hk5 (fun a e => by simpa using (hA4 a e).2.1), ⟨h.fr.1, fun a e => ⟨(hA4 a e).1, (hA4 a e).2.1⟩⟩, fun o ho => ?_, fun o ho => ?_, fun o ho => ?_, fun r es' hr h6 h7 => ?_, fun r es' hr h6 => ?_, by rw [hlen]; have := h.len; omega, ?_⟩
  · rw [h5, hlen, heap_setCell_same _ gR 0 _ _ _ hb4]; rfl
  · rcases List.mem_append.1 ho with h6 | h6
    · obtain ⟨h7, h8⟩ := h.rd o h6
      refine ⟨(h7.keeps k14 (fun a e hp hm => ?_)).keeps hk5 (fun a e _ => by simpa using (h8 a e).2.1), fun a e => ⟨(h8 a e).1, (h8 a e).2.1, fun b eb => ?_⟩⟩
      · obtain ⟨b, e1, e2⟩ := mem_blk.1 hm
        exact (h8 a e).2.2 b e1 e2.symm
      · rcases (hA4 b eb).2.2 with ⟨b', e1, e2⟩ | h9
        · rw [e2]; exact (h8 a e).2.2 b' e1
        · have := h7.lt (by rw [encEn_len]; have := List.length_pos_iff.2 (h.ne o h6).1; omega) e
          omega
    · obtain rfl := List.mem_singleton.1 h6
      have hfresh : ∀ a, A2 = some a → a.block ∉ blk A := fun a e hm => by
        obtain ⟨b, e1, e2⟩ := mem_blk.1 hm
        have := hf2 a e
        have := hAlt b e1
        omega
      refine ⟨(((Rd.of_own h2).keeps0 hk3).keeps hk4 (fun a e _ => hfresh a e)).keeps hk5 (fun a e _ => by have := hf2 a e; simp; omega), fun a e => ⟨by have := hf2 a e; have := h.kp.size; omega, by have := hf2 a e; omega, fun b eb => ?_⟩⟩
      rcases (hA4 b eb).2.2 with ⟨b', e1, e2⟩ | h9
      · have := hf2 a e
        have := hAlt b' e1
        omega
      · have h10 := (Rd.of_own h2).lt (by rw [encEn_len]; have := List.length_pos_iff.2 hne; omega) e
        omega
  · rcases List.mem_append.1 ho with h6 | h6
    · exact h.ne o h6
    · obtain rfl := List.mem_singleton.1 h6
      exact ⟨hne, own_cap3 h2, hle⟩
  · rcases List.mem_append.1 ho with h6 | h6
    · exact h.row o h6
    · obtain rfl := List.mem_singleton.1 h6
      exact hi
  · rcases Nat.lt_or_ge r i with h8 | h8
    · obtain ⟨o, h9, h10⟩ := h.cov r es' h8 h6 h7
      exact ⟨o, List.mem_append_left _ h9, h10⟩
    · obtain rfl : r = i := by omega
      rw [hi] at h6
      injection h6 with h6
      exact ⟨_, List.mem_append_right _ (List.mem_singleton.2 rfl), rfl, h6⟩
  · rcases Nat.lt_or_ge r i with h8 | h8
    · exact h.srt r es' h8 h6
    · obtain rfl : r = i := by omega
      rw [hi] at h6
      injection h6 with h6
      rw [← h6]; exact hs
  · have k45 : Keeps (blk A ++ [gR]) w1 w5 := (k14.mono (fun t ht => .inl (List.mem_append_left _ ht))).trans hk5 (fun t ht => .inl (by simp at ht; simp [ht]))
    refine h.kp.trans k45 (fun t ht => .inr ?_)
    rcases List.mem_append.1 ht with h6 | h6
    · obtain ⟨b, e1, e2⟩ := mem_blk.1 h6
      have := (h.fr.2 b e1).1
      omega
    · have := h.fr.1
      have h7 : t = gR := by simpa using h6
      omega
end Go.Proofs.YtaedmafmflohiaaDoor
