/- A heap: what swaps leave of its order: plain lists. No program is named here. Orders: which is ahead: contracts. Two orders changed one for the other: a contract. The heap of orders: contracts. -/
import Derived.Test.YtaedmafmflohiaaDoorQMergeAll2
import Derived.Test.YtaedmafmflohiaaDoorQMergeAll4
import Derived.Deep.DeepCutAuto
import Derived.RegionTactic
namespace Go.Proofs.YtaedmafmflohiaaDoor
open Go.RowKit

section
variable {α : Type} (lt : α → α → Bool)
/-- No one from lo's children on, ahead of n, is less than the one above it. -/
def HeapX (H : List α) (lo n : Nat) : Prop := ∀ k (h : k < H.length), k < n → 1 ≤ k → lo ≤ (k - 1) / 2 → lt H[k] (H[(k - 1) / 2]'(by omega)) = false
/-- The same but at i. -/
def HoleX (H : List α) (i0 i n : Nat) : Prop :=
  (∀ k (h : k < H.length), k < n → 1 ≤ k → i0 ≤ (k - 1) / 2 → (k - 1) / 2 ≠ i → lt H[k] (H[(k - 1) / 2]'(by omega)) = false) ∧
  (∀ k (h : k < H.length), k < n → 1 ≤ k → ∀ (_ : (k - 1) / 2 = i), 1 ≤ i → i0 ≤ (i - 1) / 2 → lt H[k] (H[(i - 1) / 2]'(by omega)) = false)
/-- Two are changed one for the other. -/
def swp (H : List α) (i j : Nat) : List α := match H[i]?, H[j]? with
  | some x, some y => (H.set i y).set j x
  | _, _ => H
variable {lt}
theorem swp_is {H : List α} {i j : Nat} (hi : i < H.length) (hj : j < H.length) : swp H i j = (H.set i H[j]).set j H[i] := by
  unfold swp
  rw [List.getElem?_eq_getElem hi, List.getElem?_eq_getElem hj]
@[simp] theorem swp_len (H : List α) (i j : Nat) : (swp H i j).length = H.length := by
  unfold swp
  split <;> simp
theorem swp_get {H : List α} {i j k : Nat} (hi : i < H.length) (hj : j < H.length) (hk : k < (swp H i j).length) : (swp H i j)[k] = if k = j then H[i] else if k = i then H[j] else H[k]'(by simpa using hk) := by
  have e := swp_is hi hj
  simp only [e]
  rw [List.getElem_set]
  by_cases h1 : j = k
  · subst h1; simp
  · have h1' : ¬ k = j := fun x => h1 x.symm
    rw [if_neg h1, if_neg h1', List.getElem_set]
    by_cases h2 : i = k
    · subst h2; simp
    · have h2' : ¬ k = i := fun x => h2 x.symm
      rw [if_neg h2, if_neg h2']
theorem swp_perm {H : List α} {i j : Nat} (hi : i < H.length) (hj : j < H.length) : (swp H i j).Perm H := by
  rw [swp_is hi hj]
  rcases Nat.lt_trichotomy i j with h | h | h
  · exact List.set_set_perm hi hj
  · subst h
    rw [List.set_set, List.set_getElem_self]
  · exact List.set_set_perm hi hj
variable (ht : ∀ x y z, lt y x = false → lt z y = false → lt z x = false) (ha : ∀ x y, lt x y = true → lt y x = false)
include ha in
theorem HoleX.swap {H : List α} {i0 i j n : Nat} (h : HoleX lt H i0 i n) (hi : i < H.length) (hj : j < H.length) (hjn : j < n) (hj1 : 1 ≤ j) (hji : (j - 1) / 2 = i) (h0 : i0 ≤ i)
    (hmin : ∀ k (hk : k < H.length), k < n → 1 ≤ k → (k - 1) / 2 = i → lt H[k] H[j] = false) (hlt : lt H[j] H[i] = true) : HoleX lt (swp H i j) i0 j n := by
  refine ⟨fun k hk hkn hk1 hkp hkj => ?_, fun k hk hkn hk1 hkj _ hkp => ?_⟩
  · have hk' : k < H.length := by simpa using hk
    rw [swp_get hi hj hk, swp_get hi hj (by rw [swp_len]; omega), if_neg hkj]
    by_cases e1 : k = j
    · subst e1
      rw [if_pos rfl, if_pos hji]
      exact ha _ _ hlt
    · rw [if_neg e1]
      by_cases e2 : k = i
      · subst e2
        rw [if_pos rfl, if_neg (by omega)]
        exact h.2 j hj hjn hj1 hji hk1 hkp
      · rw [if_neg e2]
        by_cases e3 : (k - 1) / 2 = i
        · rw [if_pos e3]
          exact hmin k hk' hkn hk1 e3
        · rw [if_neg e3]
          exact h.1 k hk' hkn hk1 hkp e3
  · have hk' : k < H.length := by simpa using hk
    rw [swp_get hi hj hk, swp_get hi hj (by rw [swp_len]; omega), if_neg (by omega), if_neg (by omega), if_neg (by omega), if_pos hji]
    have := h.1 k hk' hkn hk1 (by omega) (by omega)
    simpa only [hkj] using this
theorem HoleX.done {H : List α} {i0 i n : Nat} (h : HoleX lt H i0 i n) (hc : ∀ k (hk : k < H.length), k < n → 1 ≤ k → ∀ (_ : (k - 1) / 2 = i), lt H[k] (H[i]'(by omega)) = false) : HeapX lt H i0 n := by
  intro k hk hkn hk1 hkp
  by_cases e : (k - 1) / 2 = i
  · have := hc k hk hkn hk1 e
    simpa only [e] using this
  · exact h.1 k hk hkn hk1 hkp e
theorem HeapX.hole {H : List α} {i n : Nat} (h : HeapX lt H (i + 1) n) : HoleX lt H i i n :=
  ⟨fun k hk hkn hk1 hkp hki => h k hk hkn hk1 (by omega), fun k hk hkn hk1 hki hi1 hip => by omega⟩
theorem HeapX.begin (H : List α) (n : Nat) : HeapX lt H (n / 2) n := fun k hk hkn hk1 hkp => by omega
theorem HeapX.root {H : List α} {n : Nat} (h : HeapX lt H 0 n) (x : α) : HoleX lt (H.set 0 x) 0 0 n :=
  ⟨fun k hk hkn hk1 _ hk0 => by
    rw [List.getElem_set_ne (by omega), List.getElem_set_ne (by omega)]
    exact h k (by simpa using hk) hkn hk1 (by omega), fun k hk hkn hk1 _ h1 _ => by omega⟩
include ht in
/-- The one on top is the least. -/
theorem HeapX.top {H : List α} {n : Nat} (h : HeapX lt H 0 n) (hr : ∀ x, lt x x = false) : ∀ k (hk : k < H.length), k < n → lt H[k] (H[0]'(by omega)) = false := by
  intro k
  induction k using Nat.strongRecOn with
  | ind k ih =>
    intro hk hkn
    by_cases h0 : k = 0
    · subst h0; exact hr _
    · exact ht _ _ _ (ih ((k - 1) / 2) (by omega) (by omega) (by omega)) (h k hk hkn (by omega) (by omega))
theorem HeapX.less {H : List α} {lo n m : Nat} (h : HeapX lt H lo n) (hm : m ≤ n) : HeapX lt H lo m := fun k hk hkn hk1 hkp => h k hk (by omega) hk1 hkp
end
end Go.Proofs.YtaedmafmflohiaaDoor
namespace Go.Proofs.YtaedmafmflohiaaDoor
open Go.RowKit

/-- What is left of one of the orders. -/
structure Od where
  rk : Nat
  A : Option Addr
  c : Nat
  es : List En
def Od.cells (o : Od) : List Value := [.int .i64 (o.rk : Int), .slice o.A o.es.length o.c]
@[simp] theorem Od.cells_len (o : Od) : o.cells.length = 2 := rfl
def encOd (l : List Od) : List Value := l.flatMap Od.cells
theorem encOd_len (l : List Od) : (encOd l).length = 2 * l.length := by
  unfold encOd
  induction l with
  | nil => rfl
  | cons e l ih => rw [List.flatMap_cons, List.length_append, ih, Od.cells_len, List.length_cons]; omega
theorem encOd_append (a b : List Od) : encOd (a ++ b) = encOd a ++ encOd b := List.flatMap_append
theorem encOd_cons (o : Od) (l : List Od) : encOd (o :: l) = o.cells ++ encOd l := rfl
theorem encOd_drop (l : List Od) (i : Nat) : (encOd l).drop (2 * i) = encOd (l.drop i) := by
  induction l generalizing i with
  | nil => simp [encOd]
  | cons e l ih =>
    cases i with
    | zero => simp [encOd]
    | succ i =>
      rw [encOd_cons, List.drop_succ_cons, List.drop_append, Od.cells_len, show 2 * (i + 1) - 2 = 2 * i by omega, ih, List.drop_of_length_le (by simp; omega)]
      rfl
theorem encOd_take (l : List Od) (i : Nat) : (encOd l).take (2 * i) = encOd (l.take i) := by
  induction l generalizing i with
  | nil => simp [encOd]
  | cons e l ih =>
    cases i with
    | zero => simp [encOd]
    | succ i =>
      rw [encOd_cons, List.take_succ_cons, encOd_cons, List.take_append, Od.cells_len, show 2 * (i + 1) - 2 = 2 * i by omega, ih, List.take_of_length_le (by simp; omega)]
theorem encOd_get (l : List Od) (i : Nat) (h : i < l.length) (j : Nat) (hj : j < 2) : (encOd l)[2 * i + j]? = l[i].cells[j]? := by
  have h1 : (encOd l).drop (2 * i) = l[i].cells ++ encOd (l.drop (i + 1)) := by rw [encOd_drop, List.drop_eq_getElem_cons h, encOd_cons]
  rw [← List.getElem?_drop, h1, List.getElem?_append_left (by simpa using hj)]
theorem encOd_one (l : List Od) : ∀ u ∈ encOd l, u.oneCell' = true := by
  intro u hu
  unfold encOd at hu
  obtain ⟨e, _, he⟩ := List.mem_flatMap.1 hu
  simp [Od.cells] at he
  rcases he with rfl | rfl <;> rfl
theorem od_cells {w : World} {A : Option Addr} {n : Nat} {l : List Od} (h : Rd w A n 2 (encOd l)) {i : Nat} (hi : i < l.length) :
    ∃ g o, A = some ⟨g, o, none⟩ ∧ w.cell? ⟨g, o + i * 2, none⟩ = some (.int .i64 (l[i].rk : Int)) ∧ w.cell? ⟨g, o + i * 2 + 1, none⟩ = some (.slice l[i].A l[i].es.length l[i].c) := by
  have hl := encOd_len l
  obtain ⟨g, o, ha, hc⟩ := h.form (by omega)
  refine ⟨g, o, ha, ?_, ?_⟩
  · exact hc _ _ (by rw [Nat.mul_comm, ← Nat.add_zero (2 * i), encOd_get l i hi 0 (by decide)]; rfl)
  · rw [Nat.add_assoc]; exact hc _ _ (by rw [Nat.mul_comm, encOd_get l i hi 1 (by decide)]; rfl)
/-- The key that an order goes on with. -/
def Od.k (o : Od) : List UInt8 := (o.es.getD 0 zeroE).k
def ltO (x y : Od) : Bool := Op.bytesLess x.k y.k || (x.k == y.k && decide (x.rk < y.rk))
theorem ltO_irr (x : Od) : ltO x x = false := by unfold ltO; rw [bl_same]; simp
theorem ltO_asym (x y : Od) (h : ltO x y = true) : ltO y x = false := by
  unfold ltO at h ⊢
  simp only [Bool.or_eq_true, Bool.and_eq_true, beq_iff_eq, decide_eq_true_eq] at h
  rw [Bool.eq_false_iff]
  intro h2
  simp only [Bool.or_eq_true, Bool.and_eq_true, beq_iff_eq, decide_eq_true_eq] at h2
  rcases h with h | ⟨h, h'⟩ <;> rcases h2 with h2 | ⟨h2, h2'⟩
  · exact bl_not_both h h2
  · rw [h2, bl_same] at h; cases h
  · rw [h, bl_same] at h2; cases h2
  · omega
theorem ltO_trans (x y z : Od) (h1 : ltO y x = false) (h2 : ltO z y = false) : ltO z x = false := by
  rw [Bool.eq_false_iff] at h1 h2 ⊢
  intro h3
  unfold ltO at h1 h2 h3
  simp only [ne_eq, Bool.or_eq_true, Bool.and_eq_true, beq_iff_eq, decide_eq_true_eq] at h1 h2 h3
  rcases bl_tri y.k x.k with a | a | a
  · exact h1 (.inl a)
  · rcases h3 with b | ⟨b, b'⟩
    · exact h2 (.inl (by rw [a]; exact b))
    · rcases Nat.lt_or_ge y.rk x.rk with d | d
      · exact h1 (.inr ⟨a, d⟩)
      · exact h2 (.inr ⟨by rw [a, b], by omega⟩)
  · rcases h3 with b | ⟨b, b'⟩
    · exact h2 (.inl (bl_trans b a))
    · exact h2 (.inl (by rw [b]; exact a))
theorem isnan_any (x : Int) (w : World) : Calls Tryd.prog 56 #[.int .i64 x] w fun r w' => r = .returned (.bool false) ∧ w = w' := by
  go_enter Tryd.func56, Tryd.ntmps56
  go_wp2_with fail
  go_ret
  exact ⟨rfl, rfl⟩
def cmpI (x y : Nat) : Int := if x < y then -1 else if x = y then 0 else 1
theorem icmp_any (x y : Nat) (w : World) : Calls Tryd.prog 54 #[.int .i64 (x : Int), .int .i64 (y : Int)] w fun r w' => r = .returned (.int .i64 (cmpI x y)) ∧ w = w' := by
  rcases (show ((x : Int) < (y : Int)) ∨ (¬ (x : Int) < (y : Int) ∧ (y : Int) < (x : Int)) ∨ (¬ (x : Int) < (y : Int) ∧ ¬ (y : Int) < (x : Int)) from by omega) with h1 | ⟨h1, h2⟩ | ⟨h1, h2⟩
  all_goals
    go_enter Tryd.func54, Tryd.ntmps54
    go_wp2_with fail
    refine (isnan_any _ w).mono ?_
    rintro r w1 ⟨rfl, rfl⟩
    go_wp2_with fail
    refine (isnan_any _ w).mono ?_
    rintro r w1 ⟨rfl, rfl⟩
    go_wp2_with fail
    go_ret
    refine ⟨?_, rfl⟩
    unfold cmpI
  · rw [if_pos (by omega)]; rfl
  · rw [if_neg (by omega), if_neg (by omega)]; rfl
  · rw [if_neg (by omega), if_pos (by omega)]; rfl
def orI (a b : Int) : Int := if a = 0 then b else a
theorem or_any (a b : Int) (g : Nat) (w : World) (hg : w.heap[g]? = some (.cells #[.int .i64 a, .int .i64 b] 3 (0, 0))) : Calls Tryd.prog 52 #[.slice (some ⟨g, 0, none⟩) 2 2] w fun r w' => r = .returned (.int .i64 (orI a b)) ∧ w = w' := by
  have k0 : w.cell? ⟨g, 0, none⟩ = some (.int .i64 a) := by rw [cell_of_row _ _ _ _ _ _ hg]; rfl
  have k1 : w.cell? ⟨g, 1, none⟩ = some (.int .i64 b) := by rw [cell_of_row _ _ _ _ _ _ hg]; rfl
  clear hg
  go_enter Tryd.func52, Tryd.ntmps52
  go_wp2_with fail
  go_loop [8] (fun si => ∃ i : Nat, si = .int .i64 i ∧ i ≤ 2 ∧ Hid ((1 ≤ i → a = 0) ∧ (2 ≤ i → b = 0))) (fun si => 2 - (intOf si).toNat)
  case atStart => exact ⟨0, rfl, by omega, ⟨fun h => by omega, fun h => by omega⟩⟩
  case round =>
    obtain ⟨i, rfl, hi, hab⟩ := hrel
    rcases (show i = 0 ∨ i = 1 ∨ i = 2 from by omega) with rfl | rfl | rfl
    · by_cases ha : a = 0
      · have HA := Lib.hid ha
        have e1 : (a != 0) = false := by simp [ha]
        clear ha
        go_wp2_with fail
        go_round
        case rel => exact ⟨1, by go_num, by omega, ⟨fun _ => HA.out, fun h => by omega⟩⟩
        case measure => simp [intOf]
      · have HA := Lib.hid ha
        have e1 : (a != 0) = true := by simp [ha]
        clear ha
        go_wp2_with fail
        go_ret
        exact ⟨by unfold orI; rw [if_neg HA.out]; rfl, rfl⟩
    · have HA := Lib.hid (hab.out.1 (by omega))
      by_cases hb : b = 0
      · have HB := Lib.hid hb
        have e1 : (b != 0) = false := by simp [hb]
        clear hb
        go_wp2_with fail
        go_round
        case rel => exact ⟨2, by go_num, by omega, ⟨fun _ => HA.out, fun _ => HB.out⟩⟩
        case measure => simp [intOf]
      · have e1 : (b != 0) = true := by simp [hb]
        clear hb
        go_wp2_with fail
        go_ret
        exact ⟨by unfold orI; rw [if_pos HA.out]; rfl, rfl⟩
    · have HA := Lib.hid (hab.out.1 (by omega))
      have HB := Lib.hid (hab.out.2 (by omega))
      go_wp2_with fail
      go_ret
      exact ⟨by unfold orI; rw [if_pos HA.out, HB.out]; rfl, rfl⟩
theorem ltO_cmp (x y : Od) : orI (Lib.compareBytes x.k y.k) (cmpI x.rk y.rk) < 0 ↔ ltO x y = true := by
  unfold ltO orI
  rw [cmp_is]
  cases hb : Op.bytesLess x.k y.k
  · by_cases hk : x.k = y.k
    · simp only [hk, if_true, Bool.false_eq_true, if_false, Bool.false_or, beq_self_eq_true, Bool.true_and, decide_eq_true_eq]
      unfold cmpI
      split
      · simp_all
      · split <;> simp_all
    · simp [hk]
  · simp
set_option maxRecDepth 100000 in
set_option maxHeartbeats 4000000 in
theorem less_any (A : Option Addr) (c : Nat) (H : List Od) (i j : Nat) (w : World) (hr : Rd w A H.length 2 (encOd H)) (hi : i < H.length) (hj : j < H.length) (hei : H[i].es ≠ []) (hej : H[j].es ≠ []) (hri : Rd w H[i].A H[i].es.length 3 (encEn H[i].es)) (hrj : Rd w H[j].A H[j].es.length 3 (encEn H[j].es)) :
    Calls Tryd.prog 50 #[.slice A H.length c, .int .i64 i, .int .i64 j] w fun r w' => r = .returned (.bool (ltO H[i] H[j])) ∧ Keeps [] w w' := by
  obtain ⟨n, hn⟩ : ∃ n, n = H.length := ⟨_, rfl⟩
  obtain ⟨x, hx⟩ : ∃ x, x = H[i] := ⟨_, rfl⟩
  obtain ⟨y, hy⟩ : ∃ y, y = H[j] := ⟨_, rfl⟩
  have hin : (i : Int) < (n : Int) := by omega
  have hjn : (j : Int) < (n : Int) := by omega
  obtain ⟨g, o, hA, a0, a1⟩ := od_cells hr hi
  obtain ⟨g', o', hA', b0, b1⟩ := od_cells hr hj
  rw [hA] at hA'
  obtain ⟨rfl, rfl⟩ : g = g' ∧ o = o' := by injection hA' with e1; injection e1 with e2 e3; exact ⟨e2, e3⟩
  subst hA
  rw [← hx] at a0 a1 hei hri ⊢
  rw [← hy] at b0 b1 hej hrj ⊢
  rw [← hn]
  have hlx : 0 < x.es.length := List.length_pos_iff.2 hei
  have hly : 0 < y.es.length := List.length_pos_iff.2 hej
  obtain ⟨gx, ox, hxA, x0, x1, x2⟩ := en_cells hri (i := 0) hlx
  obtain ⟨gy, oy, hyA, y0, y1, y2⟩ := en_cells hrj (i := 0) hly
  obtain ⟨nx, hnx⟩ : ∃ nx, nx = x.es.length := ⟨_, rfl⟩
  obtain ⟨ny, hny⟩ : ∃ ny, ny = y.es.length := ⟨_, rfl⟩
  obtain ⟨kx, hkx⟩ : ∃ kx, kx = x.k := ⟨_, rfl⟩
  obtain ⟨ky, hky⟩ : ∃ ky, ky = y.k := ⟨_, rfl⟩
  have ex : (x.es[0]'hlx).k = kx := by rw [hkx]; unfold Od.k; rw [List.getD_eq_getElem?_getD, List.getElem?_eq_getElem hlx]; rfl
  have ey : (y.es[0]'hly).k = ky := by rw [hky]; unfold Od.k; rw [List.getD_eq_getElem?_getD, List.getElem?_eq_getElem hly]; rfl
  rw [ex, Nat.zero_mul, Nat.add_zero] at x0
  rw [ey, Nat.zero_mul, Nat.add_zero] at y0
  rw [hxA, ← hnx] at a1
  rw [hyA, ← hny] at b1
  have hnx1 : 0 < nx := by omega
  have hny1 : 0 < ny := by omega
  obtain ⟨rx, hrx⟩ : ∃ rx, rx = x.rk := ⟨_, rfl⟩
  obtain ⟨ry, hry⟩ : ∃ ry, ry = y.rk := ⟨_, rfl⟩
  rw [← hrx] at a0
  rw [← hry] at b0
  have HLT := Lib.hid (show orI (Lib.compareBytes kx ky) (cmpI rx ry) < 0 ↔ ltO x y = true from by rw [hkx, hky, hrx, hry]; exact ltO_cmp x y)
  obtain ⟨xc, hxc⟩ : ∃ xc, xc = x.c := ⟨_, rfl⟩
  obtain ⟨yc, hyc⟩ : ∃ yc, yc = y.c := ⟨_, rfl⟩
  rw [← hxc] at a1
  rw [← hyc] at b1
  have qa : ∀ z : World, Keeps [] w z → z.cell? ⟨g, o + i * 2, none⟩ = some (.int .i64 (rx : Int)) := fun z hz => hz.cell a0 (by simp)
  have qb : ∀ z : World, Keeps [] w z → z.cell? ⟨g, o + i * 2 + 1, none⟩ = some (.slice (some ⟨gx, ox, none⟩) nx xc) := fun z hz => hz.cell a1 (by simp)
  have qc : ∀ z : World, Keeps [] w z → z.cell? ⟨g, o + j * 2, none⟩ = some (.int .i64 (ry : Int)) := fun z hz => hz.cell b0 (by simp)
  have qd : ∀ z : World, Keeps [] w z → z.cell? ⟨g, o + j * 2 + 1, none⟩ = some (.slice (some ⟨gy, oy, none⟩) ny yc) := fun z hz => hz.cell b1 (by simp)
  have qe : ∀ z : World, Keeps [] w z → z.cell? ⟨gx, ox, none⟩ = some (.string (strB kx)) := fun z hz => hz.cell x0 (by simp)
  have qf : ∀ z : World, Keeps [] w z → z.cell? ⟨gy, oy, none⟩ = some (.string (strB ky)) := fun z hz => hz.cell y0 (by simp)
  clear x1 x2 y1 y2 hr hi hj hei hej hri hrj hA' hx hy a0 a1 b0 b1 hlx hly x0 y0 ex ey hnx hny hkx hky hrx hry hxc hyc hn hxA hyA
  go_enter Tryd.func50, Tryd.ntmps50
  go_upto_region 1 with fail
  refine seq_start (by kernel_rfl) (fun z => Keeps [] w z) 32 [0, 1, 2, 3, 4, 5, 6, 7, 8, 9, 10, 11, 12, 13, 14, 15, 16, 17, 18, 19, 20, 21, 22, 23, 24, 25, 26, 27, 28, 29, 30, 31] rfl ((Keeps.refl [] w).drew) (fun hS => ?_)
  have HK := Lib.hid (show Keeps [] w w.drew from (Keeps.refl [] w).drew)
  generalize w.drew = w1 at HK hS ⊢
  refine seq_take (v := ?_) rfl (by kernel_rfl) (by kernel_rfl) (by kernel_rfl) (Or.inl ⟨by rfl, fun w' hSw => ?_⟩) (by assumption) ?_
  rotate_left
  · go_simp
    with_reducible rfl
  simp only [Act.put, List.setIfInBounds_toArray, List.set_cons_zero, List.set_cons_succ]
  refine seq_take (v := ?_) rfl (by kernel_rfl) (by kernel_rfl) (by kernel_rfl) (Or.inl ⟨by rfl, fun w' hSw => ?_⟩) (by assumption) ?_
  rotate_left
  · go_simp
    with_reducible rfl
  simp only [Act.put, List.setIfInBounds_toArray, List.set_cons_zero, List.set_cons_succ]
  refine seq_take (v := ?_) rfl (by kernel_rfl) (by kernel_rfl) (by kernel_rfl) (Or.inl ⟨by rfl, fun w' hSw => ?_⟩) (by assumption) ?_
  rotate_left
  · go_simp
    with_reducible rfl
  simp only [Act.put, List.setIfInBounds_toArray, List.set_cons_zero, List.set_cons_succ]
  refine seq_take (v := ?_) rfl (by kernel_rfl) (by kernel_rfl) (by kernel_rfl) (Or.inl ⟨by rfl, fun w' hSw => ?_⟩) (by assumption) ?_
  rotate_left
  · go_simp
    with_reducible rfl
  simp only [Act.put, List.setIfInBounds_toArray, List.set_cons_zero, List.set_cons_succ]
  refine seq_take (v := ?_) rfl (by kernel_rfl) (by kernel_rfl) (by kernel_rfl) (Or.inl ⟨by rfl, fun w' hSw => ?_⟩) (by assumption) ?_
  rotate_left
  · go_simp
    with_reducible rfl
  simp only [Act.put, List.setIfInBounds_toArray, List.set_cons_zero, List.set_cons_succ]
  refine seq_take (v := ?_) rfl (by kernel_rfl) (by kernel_rfl) (by kernel_rfl) (Or.inl ⟨by rfl, fun w' hSw => ?_⟩) (by assumption) ?_
  rotate_left
  · go_simp
    with_reducible rfl
  simp only [Act.put, List.setIfInBounds_toArray, List.set_cons_zero, List.set_cons_succ]
  refine seq_take (v := ?_) rfl (by kernel_rfl) (by kernel_rfl) (by kernel_rfl) (Or.inl ⟨by rfl, fun w' hSw => ?_⟩) (by assumption) ?_
  rotate_left
  · go_simp
    with_reducible rfl
  simp only [Act.put, List.setIfInBounds_toArray, List.set_cons_zero, List.set_cons_succ]
  refine seq_take (v := ?_) rfl (by kernel_rfl) (by kernel_rfl) (by kernel_rfl) (Or.inl ⟨by rfl, fun w' hSw => ?_⟩) (by assumption) ?_
  rotate_left
  · go_simp
    with_reducible rfl
  simp only [Act.put, List.setIfInBounds_toArray, List.set_cons_zero, List.set_cons_succ]
  refine seq_take (v := ?_) rfl (by kernel_rfl) (by kernel_rfl) (by kernel_rfl) (Or.inl ⟨by rfl, fun w' hSw => ?_⟩) (by assumption) ?_
  rotate_left
  · go_simp
    with_reducible rfl
  simp only [Act.put, List.setIfInBounds_toArray, List.set_cons_zero, List.set_cons_succ]
  refine seq_take (v := ?_) rfl (by kernel_rfl) (by kernel_rfl) (by kernel_rfl) (Or.inl ⟨by rfl, fun w' hSw => ?_⟩) (by assumption) ?_
  rotate_left
  · go_simp
    with_reducible rfl
  simp only [Act.put, List.setIfInBounds_toArray, List.set_cons_zero, List.set_cons_succ]
  refine seq_take (v := ?_) rfl (by kernel_rfl) (by kernel_rfl) (by kernel_rfl) (Or.inl ⟨by rfl, fun w' hSw => ?_⟩) (by assumption) ?_
  rotate_left
  · go_simp
    with_reducible rfl
  simp only [Act.put, List.setIfInBounds_toArray, List.set_cons_zero, List.set_cons_succ]
  refine seq_take (v := ?_) rfl (by kernel_rfl) (by kernel_rfl) (by kernel_rfl) (Or.inl ⟨by rfl, fun w' hSw => ?_⟩) (by assumption) ?_
  rotate_left
  · go_simp
    with_reducible rfl
  simp only [Act.put, List.setIfInBounds_toArray, List.set_cons_zero, List.set_cons_succ]
  refine seq_take (v := ?_) rfl (by kernel_rfl) (by kernel_rfl) (by kernel_rfl) (Or.inl ⟨by rfl, fun w' hSw => ?_⟩) (by assumption) ?_
  rotate_left
  · go_simp
    with_reducible rfl
  simp only [Act.put, List.setIfInBounds_toArray, List.set_cons_zero, List.set_cons_succ]
  refine seq_take (v := ?_) rfl (by kernel_rfl) (by kernel_rfl) (by kernel_rfl) (Or.inl ⟨by rfl, fun w' hSw => ?_⟩) (by assumption) ?_
  rotate_left
  · go_simp
    with_reducible rfl
  simp only [Act.put, List.setIfInBounds_toArray, List.set_cons_zero, List.set_cons_succ]
  refine seq_take (v := ?_) rfl (by kernel_rfl) (by kernel_rfl) (by kernel_rfl) (Or.inl ⟨by rfl, fun w' hSw => ?_⟩) (by assumption) ?_
  rotate_left
  · go_simp
    with_reducible rfl
  simp only [Act.put, List.setIfInBounds_toArray, List.set_cons_zero, List.set_cons_succ]
  refine seq_take (v := ?_) rfl (by kernel_rfl) (by kernel_rfl) (by kernel_rfl) (Or.inl ⟨by rfl, fun w' hSw => ?_⟩) (by assumption) ?_
  rotate_left
  · go_simp
    with_reducible rfl
  simp only [Act.put, List.setIfInBounds_toArray, List.set_cons_zero, List.set_cons_succ]
  iterate 1 (refine seq_later ?_; simp only [List.cons_append, List.nil_append])
  refine seq_take (v := ?_) rfl (by kernel_rfl) (by kernel_rfl) (by kernel_rfl) (Or.inl ⟨by rfl, fun w' hSw => ?_⟩) (by assumption) ?_
  rotate_left
  · go_simp
    with_reducible rfl
  simp only [Act.put, List.setIfInBounds_toArray, List.set_cons_zero, List.set_cons_succ]
  refine seq_take (v := ?_) rfl (by kernel_rfl) (by kernel_rfl) (by kernel_rfl) (Or.inl ⟨by rfl, fun w' hSw => ?_⟩) (by assumption) ?_
  rotate_left
  · go_simp
    with_reducible rfl
  simp only [Act.put, List.setIfInBounds_toArray, List.set_cons_zero, List.set_cons_succ]
  refine seq_take (v := ?_) rfl (by kernel_rfl) (by kernel_rfl) (by kernel_rfl) (Or.inl ⟨by rfl, fun w' hSw => ?_⟩) (by assumption) ?_
  rotate_left
  · go_simp
    with_reducible rfl
  simp only [Act.put, List.setIfInBounds_toArray, List.set_cons_zero, List.set_cons_succ]
  refine seq_take (v := ?_) rfl (by kernel_rfl) (by kernel_rfl) (by kernel_rfl) (Or.inl ⟨by rfl, fun w' hSw => ?_⟩) (by assumption) ?_
  rotate_left
  · go_simp
    with_reducible rfl
  simp only [Act.put, List.setIfInBounds_toArray, List.set_cons_zero, List.set_cons_succ]
  refine seq_take (v := ?_) rfl (by kernel_rfl) (by kernel_rfl) (by kernel_rfl) (Or.inl ⟨by rfl, fun w' hSw => ?_⟩) (by assumption) ?_
  rotate_left
  · go_simp
    with_reducible rfl
  simp only [Act.put, List.setIfInBounds_toArray, List.set_cons_zero, List.set_cons_succ]
  refine seq_take (v := ?_) rfl (by kernel_rfl) (by kernel_rfl) (by kernel_rfl) (Or.inl ⟨by rfl, fun w' hSw => ?_⟩) (by assumption) ?_
  rotate_left
  · go_simp
    with_reducible rfl
  simp only [Act.put, List.setIfInBounds_toArray, List.set_cons_zero, List.set_cons_succ]
  refine seq_take (v := ?_) rfl (by kernel_rfl) (by kernel_rfl) (by kernel_rfl) (Or.inl ⟨by rfl, fun w' hSw => ?_⟩) (by assumption) ?_
  rotate_left
  · go_simp
    with_reducible rfl
  simp only [Act.put, List.setIfInBounds_toArray, List.set_cons_zero, List.set_cons_succ]
  refine seq_take (v := ?_) rfl (by kernel_rfl) (by kernel_rfl) (by kernel_rfl) (Or.inl ⟨by rfl, fun w' hSw => ?_⟩) (by assumption) ?_
  rotate_left
  · go_simp
    with_reducible rfl
  simp only [Act.put, List.setIfInBounds_toArray, List.set_cons_zero, List.set_cons_succ]
  refine seq_take (v := ?_) rfl (by kernel_rfl) (by kernel_rfl) (by kernel_rfl) (Or.inl ⟨by rfl, fun w' hSw => ?_⟩) (by assumption) ?_
  rotate_left
  · go_simp
    with_reducible rfl
  simp only [Act.put, List.setIfInBounds_toArray, List.set_cons_zero, List.set_cons_succ]
  refine seq_take (v := ?_) rfl (by kernel_rfl) (by kernel_rfl) (by kernel_rfl) (Or.inl ⟨by rfl, fun w' hSw => ?_⟩) (by assumption) ?_
  rotate_left
  · go_simp
    with_reducible rfl
  simp only [Act.put, List.setIfInBounds_toArray, List.set_cons_zero, List.set_cons_succ]
  iterate 5 (refine seq_later ?_; simp only [List.cons_append, List.nil_append])
  refine seq_do rfl (by kernel_rfl) (by rfl) (fun K hK => ?_)
  go_simp
  refine (Tryd.strings_Compare (strB kx) (strB ky) _).mono ?_
  rintro r w2 ⟨rfl, rfl⟩
  refine hK.out (fun z => Keeps [] w z) _ _ (fun _ h => h) HK.out (fun hS => ?_)
  refine seq_do rfl (by kernel_rfl) (by rfl) (fun K hK => ?_)
  go_simp
  refine (icmp_any rx ry _).mono ?_
  rintro r w2 ⟨rfl, rfl⟩
  refine hK.out (fun z => Keeps [] w z) _ _ (fun _ h => h) HK.out (fun hS => ?_)
  refine seq_do rfl (by kernel_rfl) (by rfl) (fun K hK => ?_)
  go_simp
  obtain ⟨m1, hm1⟩ : ∃ m1, m1 = Lib.compareBytes kx ky := ⟨_, rfl⟩
  obtain ⟨m2, hm2⟩ : ∃ m2, m2 = cmpI rx ry := ⟨_, rfl⟩
  have e1 : Lib.compareBytes (strB kx).data.toList (strB ky).data.toList = m1 := by rw [hm1]; rfl
  rw [e1, ← hm2]
  obtain ⟨gA, hgA⟩ : ∃ gA, gA = w2.heap.size := ⟨_, rfl⟩
  have H3 := Lib.hid (show (w2.alloc (.cells #[.int .i64 m1, .int .i64 m2] 3)).heap[gA]? = some (.cells #[.int .i64 m1, .int .i64 m2] 3 (0, 0)) ∧ Keeps [] w (w2.alloc (.cells #[.int .i64 m1, .int .i64 m2] 3)) from ⟨by rw [hgA]; exact heap_alloc_new _ _, HK.out.alloc _⟩)
  rw [← hgA]
  have HM := Lib.hid (show orI m1 m2 < 0 ↔ ltO x y = true from by rw [hm1, hm2]; exact HLT.out)
  clear hm1 hm2 e1 hgA HLT
  generalize w2.alloc (.cells #[.int .i64 m1, .int .i64 m2] 3) = w3 at H3 ⊢
  refine hK.out (fun z => Keeps [] w z) _ _ (fun _ h => h) H3.out.2 (fun hS => ?_)
  refine seq_do rfl (by kernel_rfl) (by rfl) (fun K hK => ?_)
  go_simp
  refine (or_any m1 m2 gA w3 H3.out.1).mono ?_
  rintro r w4 ⟨rfl, rfl⟩
  obtain ⟨m3, hm3⟩ : ∃ m3, m3 = orI m1 m2 := ⟨_, rfl⟩
  rw [← hm3]
  have HM3 := Lib.hid (show decide (m3 < 0) = ltO x y from by
    rw [hm3]
    cases hl : ltO x y with
    | true => simp [HM.out.2 hl]
    | false =>
      rw [decide_eq_false_iff_not]
      intro h
      rw [HM.out.1 h] at hl
      cases hl)
  clear hm3
  refine hK.out (fun z => Keeps [] w z) _ _ (fun _ h => h) H3.out.2 (fun hS => ?_)
  refine seq_take (v := ?_) rfl (by kernel_rfl) (by kernel_rfl) (by kernel_rfl) (Or.inl ⟨by rfl, fun w' hSw => ?_⟩) (by assumption) ?_
  rotate_left
  · go_simp
    with_reducible rfl
  simp only [Act.put, List.setIfInBounds_toArray, List.set_cons_zero, List.set_cons_succ]
  refine seq_take (v := ?_) rfl (by kernel_rfl) (by kernel_rfl) (by kernel_rfl) (Or.inl ⟨by rfl, fun w' hSw => ?_⟩) (by assumption) ?_
  rotate_left
  · go_simp
    with_reducible rfl
  simp only [Act.put, List.setIfInBounds_toArray, List.set_cons_zero, List.set_cons_succ]
  refine seq_done (by kernel_rfl) ?_
  all_goals skip
  clear hS qa qb qc qd qe qf
  go_wp2_with fail
  go_ret
  exact ⟨by rw [← HM3.out]; rfl, H3.out.2⟩
end Go.Proofs.YtaedmafmflohiaaDoor
namespace Go.Proofs.YtaedmafmflohiaaDoor
open Go.RowKit

set_option maxRecDepth 100000 in
set_option maxHeartbeats 8000000 in
theorem swap_cells (g n c i j : Nat) (w : World) (rx ry : Int) (Ax Ay : Option Addr) (nx cx ny cy : Nat) (hij : i ≠ j) (hi : i < n) (hj : j < n)
    (a0 : w.cell? ⟨g, i * 2, none⟩ = some (.int .i64 rx)) (a1 : w.cell? ⟨g, i * 2 + 1, none⟩ = some (.slice Ax nx cx)) (b0 : w.cell? ⟨g, j * 2, none⟩ = some (.int .i64 ry)) (b1 : w.cell? ⟨g, j * 2 + 1, none⟩ = some (.slice Ay ny cy)) (fz : ∀ k, w.frozen? ⟨g, k, none⟩ = false) :
    Calls Tryd.prog 51 #[.slice (some ⟨g, 0, none⟩) n c, .int .i64 i, .int .i64 j] w fun r w' => r = .returned (.tuple #[]) ∧ w' = ((((w.drew.setCell ⟨g, i * 2, none⟩ (.int .i64 ry)).setCell ⟨g, i * 2 + 1, none⟩ (.slice Ay ny cy)).setCell ⟨g, j * 2, none⟩ (.int .i64 rx)).setCell ⟨g, j * 2 + 1, none⟩ (.slice Ax nx cx)) := by
  have hiI : (i : Int) < (n : Int) := by omega
  have hjI : (j : Int) < (n : Int) := by omega
  have e1 : ¬ i * 2 = j * 2 := by omega
  have e2 : ¬ i * 2 + 1 = j * 2 := by omega
  have e3 : ¬ i * 2 = j * 2 + 1 := by omega
  have e4 : ¬ i * 2 + 1 = j * 2 + 1 := by omega
  clear hi hj
  go_enter Tryd.func51, Tryd.ntmps51
  go_wp2_with fail
  go_region
  all_goals (go_end0; exact ⟨rfl, rfl⟩)
set_option maxRecDepth 100000 in
set_option maxHeartbeats 8000000 in
theorem swap_same (g n c i : Nat) (w : World) (rx : Int) (Ax : Option Addr) (nx cx : Nat) (hi : i < n)
    (a0 : w.cell? ⟨g, i * 2, none⟩ = some (.int .i64 rx)) (a1 : w.cell? ⟨g, i * 2 + 1, none⟩ = some (.slice Ax nx cx)) (fz : ∀ k, w.frozen? ⟨g, k, none⟩ = false) :
    Calls Tryd.prog 51 #[.slice (some ⟨g, 0, none⟩) n c, .int .i64 i, .int .i64 i] w fun r w' => r = .returned (.tuple #[]) ∧ w' = ((((w.drew.setCell ⟨g, i * 2, none⟩ (.int .i64 rx)).setCell ⟨g, i * 2 + 1, none⟩ (.slice Ax nx cx)).setCell ⟨g, i * 2, none⟩ (.int .i64 rx)).setCell ⟨g, i * 2 + 1, none⟩ (.slice Ax nx cx)) := by
  have hiI : (i : Int) < (n : Int) := by omega
  have e2 : ¬ i * 2 + 1 = i * 2 := by omega
  have e3 : ¬ i * 2 = i * 2 + 1 := by omega
  clear hi
  go_enter Tryd.func51, Tryd.ntmps51
  go_wp2_with fail
  go_region
  all_goals (go_end0; exact ⟨rfl, rfl⟩)
theorem encOd_set (l : List Od) (i : Nat) (h : i < l.length) (o : Od) : ((encOd l).set (i * 2) (.int .i64 (o.rk : Int))).set (i * 2 + 1) (.slice o.A o.es.length o.c) = encOd (l.set i o) := by
  have hl := encOd_len l
  refine List.ext_getElem? fun j => ?_
  obtain ⟨q, r, hr, rfl⟩ : ∃ q r, r < 2 ∧ j = 2 * q + r := ⟨j / 2, j % 2, Nat.mod_lt _ (by decide), by omega⟩
  by_cases hq : q < l.length
  · rw [encOd_get (l.set i o) q (by simpa using hq) r hr]
    by_cases hqi : q = i
    · subst hqi
      rw [List.getElem_set_self]
      have hc : r = 0 ∨ r = 1 := by omega
      rcases hc with rfl | rfl
      · rw [List.getElem?_set_ne (by omega), show 2 * q + 0 = q * 2 by omega, List.getElem?_set_self (by omega)]; rfl
      · rw [show 2 * q + 1 = q * 2 + 1 by omega, List.getElem?_set_self (by simp; omega)]; rfl
    · rw [List.getElem?_set_ne (by omega), List.getElem?_set_ne (by omega), encOd_get l q hq r hr, List.getElem_set_ne (fun e' => hqi e'.symm)]
  · rw [List.getElem?_eq_none (by simp; omega), List.getElem?_eq_none (by rw [encOd_len, List.length_set]; omega)]
/-- A row of orders of one's own. -/
def OwnOd (w : World) (A : Option Addr) (c : Nat) (H : List Od) : Prop := w.ownsRow 0 51 2 (.slice A H.length c) H.length (encOd H)
theorem OwnOd.set {w : World} {g c : Nat} {H : List Od} (h : OwnOd w (some ⟨g, 0, none⟩) c H) (i : Nat) (hi : i < H.length) (o : Od) : OwnOd ((w.setCell ⟨g, i * 2, none⟩ (.int .i64 (o.rk : Int))).setCell ⟨g, i * 2 + 1, none⟩ (.slice o.A o.es.length o.c)) (some ⟨g, 0, none⟩) c (H.set i o) := by
  have k1 := World.ownsRow.stored h (i * 2) (.int .i64 (o.rk : Int))
  have k2 := World.ownsRow.stored k1.1 (i * 2 + 1) (.slice o.A o.es.length o.c)
  unfold OwnOd
  rw [List.length_set, ← encOd_set H i hi o]
  exact k2.1
theorem OwnOd.at_ {w : World} {g c : Nat} {H : List Od} (h : OwnOd w (some ⟨g, 0, none⟩) c H) {i : Nat} (hi : i < H.length) : w.cell? ⟨g, i * 2, none⟩ = some (.int .i64 (H[i].rk : Int)) ∧ w.cell? ⟨g, i * 2 + 1, none⟩ = some (.slice H[i].A H[i].es.length H[i].c) := by
  constructor
  · rw [World.ownsRow.cellAt h _ (by omega), Nat.mul_comm, ← Nat.add_zero (2 * i), encOd_get H i hi 0 (by decide)]; rfl
  · rw [World.ownsRow.cellAt h _ (by omega), Nat.mul_comm, encOd_get H i hi 1 (by decide)]; rfl
theorem swap_any (g c : Nat) (H : List Od) (i j : Nat) (w : World) (ho : OwnOd w (some ⟨g, 0, none⟩) c H) (hi : i < H.length) (hj : j < H.length) :
    Calls Tryd.prog 51 #[.slice (some ⟨g, 0, none⟩) H.length c, .int .i64 i, .int .i64 j] w fun r w' => r = .returned (.tuple #[]) ∧ OwnOd w' (some ⟨g, 0, none⟩) c (swp H i j) ∧ Keeps [g] w w' := by
  have hk : ∀ u0 u1 u2 u3, Keeps [g] w ((((w.drew.setCell ⟨g, i * 2, none⟩ u0).setCell ⟨g, i * 2 + 1, none⟩ u1).setCell ⟨g, j * 2, none⟩ u2).setCell ⟨g, j * 2 + 1, none⟩ u3) := fun u0 u1 u2 u3 =>
    (((((Keeps.refl [g] w).drew).setCell (p := ⟨g, i * 2, none⟩) (.inl (by simp)) _).setCell (p := ⟨g, i * 2 + 1, none⟩) (.inl (by simp)) _).setCell (p := ⟨g, j * 2, none⟩) (.inl (by simp)) _).setCell (p := ⟨g, j * 2 + 1, none⟩) (.inl (by simp)) _
  have hod : OwnOd w.drew (some ⟨g, 0, none⟩) c H := ho
  obtain ⟨a0, a1⟩ := ho.at_ hi
  obtain ⟨b0, b1⟩ := ho.at_ hj
  have fz : ∀ k, w.frozen? ⟨g, k, none⟩ = false := fun k => World.ownsRow.frozenAt ho k
  by_cases hij : i = j
  · subst hij
    refine (swap_same g H.length c i w _ _ _ _ hi a0 a1 fz).mono ?_
    rintro r w' ⟨rfl, rfl⟩
    refine ⟨rfl, ?_, hk _ _ _ _⟩
    have h1 := (hod.set i hi H[i]).set i (by simpa using hi) H[i]
    rw [swp_is hi hi]
    exact h1
  · refine (swap_cells g H.length c i j w _ _ _ _ _ _ _ _ hij hi hj a0 a1 b0 b1 fz).mono ?_
    rintro r w' ⟨rfl, rfl⟩
    refine ⟨rfl, ?_, hk _ _ _ _⟩
    have h1 := (hod.set i hi H[j]).set j (by simpa using hj) H[i]
    rw [swp_is hi hj]
    exact h1
end Go.Proofs.YtaedmafmflohiaaDoor
namespace Go.Proofs.YtaedmafmflohiaaDoor
open Go.RowKit

theorem meth_val (gR : Nat) (v : Value) (w : World) (name : String) (f : Nat) (hl : (loadVar 46 ⟨gR, 0, none⟩).run Tryd.prog w = .ok v w)
    (hm : ((Tryd.prog.info? 53).map fun i => (i.methods.find? (·.name == name)).map fun m => (m.path, m.func)) = some (some (#[], some (f, false)))) (k : Nat) :
    Sem.run Tryd.prog (method (k + 1) 53 (.pointer (some ⟨gR, 0, none⟩)) name) w = .ok (f, v) w := by
  cases hq : Tryd.prog.info? 53 with
  | none => rw [hq] at hm; cases hm
  | some i =>
    rw [hq] at hm
    simp only [Option.map_some, Option.some.injEq] at hm
    cases hf : i.methods.find? (·.name == name) with
    | none => rw [hf] at hm; cases hm
    | some m =>
      rw [hf] at hm
      simp only [Option.map_some, Option.some.injEq, Prod.mk.injEq] at hm
      obtain ⟨h1, h2⟩ := hm
      have hn : ∀ t, (Builtin.ssaWrapNilChk_ #[53] 53 #[.pointer (some ⟨gR, 0, none⟩), strVal "", strVal t]).run Tryd.prog w = .ok (.pointer (some ⟨gR, 0, none⟩)) w := fun t => rfl
      unfold method
      simp [Sem.run_bind, typeInfo, hq, hf, h1, h2, follow, receiverAt, Place.get, run_underlying Tryd.underlying53, hn, asAddr, hl]
theorem load_os (gR : Nat) (A : Option Addr) (n c : Nat) (w : World) (hr : w.cell? ⟨gR, 0, none⟩ = some (.slice A n c)) : (loadVar 46 ⟨gR, 0, none⟩).run Tryd.prog w = .ok (.slice A n c) w := by
  have hu := run_underlying (P := Tryd.prog) Tryd.underlying46
  unfold loadVar
  simp [Sem.run_bind, loadCells, hr]
theorem m_len (gR : Nat) (A : Option Addr) (n c : Nat) (w : World) (hr : w.cell? ⟨gR, 0, none⟩ = some (.slice A n c)) : Sem.run Tryd.prog (method 228 53 (.pointer (some ⟨gR, 0, none⟩)) "Len") w = .ok (49, .slice A n c) w := meth_val gR _ w "Len" _ (load_os gR A n c w hr) (by kernel_rfl) _
theorem m_less (gR : Nat) (A : Option Addr) (n c : Nat) (w : World) (hr : w.cell? ⟨gR, 0, none⟩ = some (.slice A n c)) : Sem.run Tryd.prog (method 228 53 (.pointer (some ⟨gR, 0, none⟩)) "Less") w = .ok (50, .slice A n c) w := meth_val gR _ w "Less" _ (load_os gR A n c w hr) (by kernel_rfl) _
theorem m_swap (gR : Nat) (A : Option Addr) (n c : Nat) (w : World) (hr : w.cell? ⟨gR, 0, none⟩ = some (.slice A n c)) : Sem.run Tryd.prog (method 228 53 (.pointer (some ⟨gR, 0, none⟩)) "Swap") w = .ok (51, .slice A n c) w := meth_val gR _ w "Swap" _ (load_os gR A n c w hr) (by kernel_rfl) _
theorem olen_any (A : Option Addr) (n c : Nat) (w : World) : Calls Tryd.prog 49 #[.slice A n c] w fun r w' => r = .returned (.int .i64 (n : Int)) ∧ w = w' := by
  go_enter Tryd.func49, Tryd.ntmps49
  go_wp2_with fail
  go_ret
  exact ⟨rfl, rfl⟩
/-- Orders in a row that a cell holds. -/
structure HS (w : World) (gR g c : Nat) (H : List Od) : Prop where
  cell : w.cell? ⟨gR, 0, none⟩ = some (.slice (some ⟨g, 0, none⟩) H.length c)
  own : OwnOd w (some ⟨g, 0, none⟩) c H
  ne : gR ≠ g
  rd : ∀ o ∈ H, Rd w o.A o.es.length 3 (encEn o.es) ∧ ∀ a, o.A = some a → a.block ≠ g ∧ a.block ≠ gR
theorem HS.keeps0 {w w' : World} {gR g c : Nat} {H : List Od} (h : HS w gR g c H) (hk : Keeps [] w w') : HS w' gR g c H :=
  ⟨hk.cell h.cell (by simp), ownsRow_keeps h.own hk (fun _ _ => by simp), h.ne, fun o ho => ⟨(h.rd o ho).1.keeps0 hk, (h.rd o ho).2⟩⟩
theorem HS.turned {w w' : World} {gR g c : Nat} {H H' : List Od} (h : HS w gR g c H) (hk : Keeps [g] w w') (ho : OwnOd w' (some ⟨g, 0, none⟩) c H') (hp : H'.Perm H) : HS w' gR g c H' :=
  ⟨by rw [hp.length_eq]; exact hk.cell h.cell (by simpa using h.ne), ho, h.ne, fun o hm => ⟨(h.rd o (hp.mem_iff.1 hm)).1.keeps hk (fun a e _ => by simpa using ((h.rd o (hp.mem_iff.1 hm)).2 a e).1), (h.rd o (hp.mem_iff.1 hm)).2⟩⟩
theorem HS.rowR {w : World} {gR g c : Nat} {H : List Od} (h : HS w gR g c H) : Rd w (some ⟨g, 0, none⟩) H.length 2 (encOd H) := Rd.of_own h.own
end Go.Proofs.YtaedmafmflohiaaDoor
