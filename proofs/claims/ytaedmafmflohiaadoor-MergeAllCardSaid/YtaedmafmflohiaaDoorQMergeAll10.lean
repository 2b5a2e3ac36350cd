/- All entries that come: a contract. Many rows put one behind the other: plain lists. No program is named here. -/
import Derived.Test.YtaedmafmflohiaaDoorQMergeAll9
import Derived.Test.YtaedmafmflohiaaDoorQMergeAll7
namespace Go.Proofs.YtaedmafmflohiaaDoor
open Go.RowKit

def keepE (drop : Bool) (l : List En) : List En := l.filter fun x => !drop || !x.g
theorem keepE_snoc (drop : Bool) (l : List En) (e : En) : keepE drop (l ++ [e]) = keepE drop l ++ if (!drop || !e.g) = true then [e] else [] := by
  unfold keepE
  rw [List.filter_append]
  congr 1
  simp [List.filter_cons]
theorem keepE_len (drop : Bool) (l : List En) : (keepE drop l).length ≤ l.length := List.length_filter_le _ _
theorem RM.apart {Ls : List (List En)} {M : List En} {gR g B j : Nat} {w w' : World} {S : List Nat} (h : RM Ls M gR g B w j) (hk : Keeps S w w') (hS : ∀ t ∈ S, B ≤ t) : RM Ls M gR g B w' j := by
  obtain ⟨H, b, last, h1, h2, h3, h4, h5⟩ := h
  have hR : gR ∉ S := fun hm => by have := hS _ hm; omega
  refine ⟨H, b, last, ?_, h2, h3, h4, h5⟩
  rcases h1 with ⟨c, h1⟩ | ⟨h0, h1⟩
  · exact .inl ⟨c, h1.apart hk hR (fun hm => by have := hS _ hm; omega) (fun x hx a e hm => by have := hS _ hm; have := h5 x hx a e; omega)⟩
  · exact .inr ⟨h0, (hk.block gR (lt_of_block h1) hR).trans h1⟩
theorem RM.keeps0 {Ls : List (List En)} {M : List En} {gR g B j : Nat} {w w' : World} (h : RM Ls M gR g B w j) (hk : Keeps [] w w') : RM Ls M gR g B w' j := h.apart hk (by simp)
theorem RM.lts {Ls : List (List En)} {M : List En} {gR g B j : Nat} {w : World} (h : RM Ls M gR g B w j) : gR < B ∧ g < B := by
  obtain ⟨H, b, last, h1, h2, h3, h4, h5⟩ := h
  exact ⟨h3, h4⟩
/-- What is kept of the first j, and the entry at hand. -/
structure AllI (w wr : World) (gR g B : Nat) (drop : Bool) (Ls : List (List En)) (M : List En) (j gE : Nat) (ev : En) (A' : Option Addr) (c' N : Nat) : Prop where
  e : wr.heap[gE]? = some (.cells #[.string (strB ev.k), .string (strB ev.v), .bool ev.g] 39 (0, 0))
  fr : w.heap.size ≤ B ∧ B ≤ gE ∧ gR < B ∧ g < B ∧ w.heap.size ≤ gR ∧ w.heap.size ≤ g
  nx : ∀ h : j < M.length, ev = M[j] ∧ RM Ls M gR g B wr (j + 1)
  le : j ≤ M.length
  own : wr.ownsRow 0 39 3 (.slice A' N c') N (encEn (keepE drop (M.take j)))
  len : N = (keepE drop (M.take j)).length
  ap : ∀ a, A' = some a → B ≤ a.block ∧ a.block ≠ gE
  kp : Keeps [] w wr
/-- What comes of all, or the error. -/
def AllP (Ls : List (List En)) (M : List En) (drop : Bool) (w : World) (r : Ending) (w' : World) : Prop :=
  Keeps [] w w' ∧ (((∀ es ∈ Ls, Srt es) ∧ ∃ A c, r = .returned (.tuple #[.slice A (keepE drop M).length c, .nilIface]) ∧ w'.ownsRow 0 39 3 (.slice A (keepE drop M).length c) (keepE drop M).length (encEn (keepE drop M)) ∧ ∀ a, A = some a → w.heap.size ≤ a.block) ∨
    ((¬ ∀ es ∈ Ls, Srt es) ∧ r = .returned (.tuple #[.slice none 0 0, .iface 49 (.int .i64 41)])))
/-- Behind a call of Next, its entry laid into a new block. -/
theorem AllI.next {w w1 w2 w3 w4 : World} {gR g B : Nat} {drop : Bool} {Ls : List (List En)} {M : List En} {j' N : Nat} {A' : Option Addr} {c' gE : Nat} {r : Ending} (hfr : w.heap.size ≤ B ∧ gR < B ∧ g < B ∧ w.heap.size ≤ gR ∧ w.heap.size ≤ g) (hj : j' ≤ M.length)
    (hown : w1.ownsRow 0 39 3 (.slice A' N c') N (encEn (keepE drop (M.take j')))) (hlen : N = (keepE drop (M.take j')).length) (hap : ∀ a, A' = some a → B ≤ a.block ∧ a.block < gE) (hkp : Keeps [] w w1) (hk2 : Keeps [] w1 w2)
    (hn : NextP Ls M gR g B j' w2 r w3) (hgE : B ≤ gE) {x : En} {b : Bool} (hr : r = .returned (.tuple #[x.val, .bool b])) (hk4 : Keeps [gE] w3 w4) (he : w4.heap[gE]? = some (.cells #[.string (strB x.k), .string (strB x.v), .bool x.g] 39 (0, 0))) :
    b = decide (j' < M.length) ∧ AllI w w4 gR g B drop Ls M j' gE x A' c' N := by
  obtain ⟨hk3, hn⟩ := hn
  have k13 : Keeps [g, gR] w1 w3 := (hk2.mono (by simp)).trans hk3 (by simp)
  have own4 : w4.ownsRow 0 39 3 (.slice A' N c') N (encEn (keepE drop (M.take j'))) := ownsRow_keeps (ownsRow_keeps hown k13 (fun a e => by have := (hap a e).1; simp; omega)) hk4 (fun a e => by have := (hap a e).2; simp; omega)
  have k4 : Keeps [] w w4 := (hkp.trans k13 (fun t ht => .inr (by simp at ht; omega))).trans hk4 (fun t ht => .inr (by simp at ht; omega))
  have hap4 : ∀ a, A' = some a → B ≤ a.block ∧ a.block ≠ gE := fun a e => ⟨(hap a e).1, by have := (hap a e).2; omega⟩
  have fr4 : w.heap.size ≤ B ∧ B ≤ gE ∧ gR < B ∧ g < B ∧ w.heap.size ≤ gR ∧ w.heap.size ≤ g := ⟨hfr.1, hgE, hfr.2⟩
  have inj : ∀ {a b : En}, a.val = b.val → a = b := fun {a b} h => by
    unfold En.val at h
    injection h with h
    have h' := congrArg Array.toList h
    simp only [List.cons.injEq, Value.string.injEq, Value.bool.injEq] at h'
    exact En.ext' (strB_inj h'.1) (strB_inj h'.2.1) h'.2.2.1
  rcases hn with ⟨h1, h2, h3⟩ | ⟨h1, h2⟩
  · rw [hr] at h2
    injection h2 with h2
    injection h2 with h2
    have h' := congrArg Array.toList h2
    simp only [List.cons.injEq, Value.bool.injEq] at h'
    have hx := inj h'.1
    refine ⟨by rw [h'.2.1]; simp [h1], ⟨he, fr4, fun _ => ⟨hx, h3.apart hk4 (fun t ht => by simp at ht; omega)⟩, hj, own4, hlen, hap4, k4⟩⟩
  · rw [hr] at h2
    injection h2 with h2
    injection h2 with h2
    have h' := congrArg Array.toList h2
    simp only [List.cons.injEq, Value.bool.injEq] at h'
    refine ⟨by rw [h'.2.1]; simp [h1], ⟨he, fr4, fun h => absurd h h1, hj, own4, hlen, hap4, k4⟩⟩
theorem NextP.val {Ls : List (List En)} {M : List En} {gR g B j : Nat} {w w' : World} {r : Ending} (h : NextP Ls M gR g B j w r w') : ∃ x b, r = .returned (.tuple #[En.val x, .bool b]) := by
  rcases h.2 with ⟨h1, h2, _⟩ | ⟨_, h2⟩
  · exact ⟨_, _, h2⟩
  · exact ⟨_, _, h2⟩
theorem take_snoc {M : List En} {j : Nat} (h : j + 1 ≤ M.length) : M.take (j + 1) = M.take j ++ [M[j]] := (List.take_append_getElem (by omega)).symm
theorem all_skip {w wr : World} {gR g B : Nat} {Ls : List (List En)} {M : List En} {j gE : Nat} {ev : En} {A1 : Option Addr} {c1 N : Nat} (D : AllI w wr gR g B true Ls M j gE ev A1 c1 N) (hj : j + 1 ≤ M.length) (hg : ev.g = true) : wr.heap[gE]? = some (.cells #[.string (strB ev.k), .string (strB ev.v), .bool ev.g] 39 (0, 0)) ∧ RM Ls M gR g B wr (j + 1) ∧ wr.ownsRow 0 39 3 (.slice A1 N c1) N (encEn (keepE true (M.take (j + 1)))) ∧ N = (keepE true (M.take (j + 1))).length ∧ (∀ a, A1 = some a → B ≤ a.block) ∧ (∀ a, A1 = some a → a.block < wr.heap.size) ∧ Keeps [] w wr ∧ B ≤ wr.heap.size := by
  obtain ⟨h1, h2⟩ := D.nx hj
  have e : keepE true (M.take (j + 1)) = keepE true (M.take j) := by rw [take_snoc hj, keepE_snoc, ← h1, hg]; simp
  rw [e]
  refine ⟨D.e, h2, D.own, D.len, fun a ha => (D.ap a ha).1, fun a ha => ?_, D.kp, ?_⟩
  · rcases D.own.2 with ⟨e2, _⟩ | ⟨g', cap, cur, hv, hb, hh, _⟩
    · rw [ha] at e2; cases e2
    · rw [ha] at hv
      injection hv with e3 _ _
      injection e3 with e3
      rw [e3]
      exact lt_of_block hh
  · have := D.fr.2.1
    have := lt_of_block D.e
    omega
theorem all_keep {w wr wa W1 : World} {gR g B : Nat} {drop : Bool} {Ls : List (List En)} {M : List En} {j gE : Nat} {ev : En} {A1 A2 : Option Addr} {c1 c2 N N2 : Nat} (D : AllI w wr gR g B drop Ls M j gE ev A1 c1 N) (hj : j + 1 ≤ M.length) (hg : (!drop || !ev.g) = true)
    (hka : Keeps [] wr wa) (ho : W1.ownsRow 0 39 3 (.slice A2 N2 c2) N2 (encEn (keepE drop (M.take j)) ++ ev.cells)) (hN2 : N2 = N + 1) (hk : Keeps (blk A1) wa W1) (hb : ∀ a, A2 = some a → a.block ∈ blk A1 ∨ wa.heap.size ≤ a.block) : W1.heap[gE]? = some (.cells #[.string (strB ev.k), .string (strB ev.v), .bool ev.g] 39 (0, 0)) ∧ RM Ls M gR g B W1 (j + 1) ∧ W1.ownsRow 0 39 3 (.slice A2 N2 c2) N2 (encEn (keepE drop (M.take (j + 1)))) ∧ N2 = (keepE drop (M.take (j + 1))).length ∧ (∀ a, A2 = some a → B ≤ a.block) ∧ (∀ a, A2 = some a → a.block < W1.heap.size) ∧ Keeps [] w W1 ∧ B ≤ W1.heap.size := by
  obtain ⟨h1, h2⟩ := D.nx hj
  have e : keepE drop (M.take (j + 1)) = keepE drop (M.take j) ++ [ev] := by rw [take_snoc hj, keepE_snoc, ← h1, if_pos hg]
  have hA : ∀ t ∈ blk A1, B ≤ t ∧ t ≠ gE := fun t ht => by
    obtain ⟨a, e1, e2⟩ := mem_blk.1 ht
    rw [← e2]; exact D.ap a e1
  have k1 : Keeps (blk A1) wr W1 := (hka.mono (by simp)).trans hk (fun t ht => .inl ht)
  have hBs : B ≤ wr.heap.size := by
    have := D.fr.2.1
    have := lt_of_block D.e
    omega
  have hs1 := k1.size
  have hsa := hka.size
  rw [e]
  refine ⟨(k1.block gE (lt_of_block D.e) (fun hm => (hA _ hm).2 rfl)).trans D.e, h2.apart k1 (fun t ht => (hA t ht).1), ?_, ?_, fun a ha => ?_, fun a ha => ?_, D.kp.trans k1 (fun t ht => .inr (by have := (hA t ht).1; have := D.fr.1; omega)), by omega⟩
  · rw [encEn_append]
    simpa [encEn] using ho
  · rw [List.length_append, ← D.len, hN2]; rfl
  · rcases hb a ha with h3 | h3
    · exact (hA _ h3).1
    · omega
  · rcases ho.2 with ⟨e2, _⟩ | ⟨g', cap, cur, hv, hb, hh, _⟩
    · rw [ha] at e2; cases e2
    · rw [ha] at hv
      injection hv with e3 _ _
      injection e3 with e3
      rw [e3]
      exact lt_of_block hh
theorem all_cells {W1 : World} {gE : Nat} {ev : En} (h : W1.heap[gE]? = some (.cells #[.string (strB ev.k), .string (strB ev.v), .bool ev.g] 39 (0, 0))) : W1.cell? ⟨gE, 0, none⟩ = some (.string (strB ev.k)) ∧ W1.cell? ⟨gE, 1, none⟩ = some (.string (strB ev.v)) ∧ W1.cell? ⟨gE, 2, none⟩ = some (.bool ev.g) :=
  ⟨by rw [cell_of_row _ _ _ _ _ _ h]; rfl, by rw [cell_of_row _ _ _ _ _ _ h]; rfl, by rw [cell_of_row _ _ _ _ _ _ h]; rfl⟩
theorem all_keep1 {w wr wa W1 : World} {gR g B : Nat} {drop : Bool} {Ls : List (List En)} {M : List En} {j gE : Nat} {ev : En} {A1 A2 : Option Addr} {c1 c2 N : Nat} (D : AllI w wr gR g B drop Ls M j gE ev A1 c1 N) (hj : j + 1 ≤ M.length) (hg : (!drop || !ev.g) = true)
    (hka : Keeps [] wr wa) (ho : W1.ownsRow 0 39 3 (.slice A2 (N + 1) c2) (N + 1) (encEn (keepE drop (M.take j)) ++ ev.cells)) (hk : Keeps (blk A1) wa W1) (hb : ∀ a, A2 = some a → a.block ∈ blk A1 ∨ wa.heap.size ≤ a.block) : W1.heap[gE]? = some (.cells #[.string (strB ev.k), .string (strB ev.v), .bool ev.g] 39 (0, 0)) ∧ RM Ls M gR g B W1 (j + 1) ∧ W1.ownsRow 0 39 3 (.slice A2 (N + 1) c2) (N + 1) (encEn (keepE drop (M.take (j + 1)))) ∧ N + 1 = (keepE drop (M.take (j + 1))).length ∧ (∀ a, A2 = some a → B ≤ a.block) ∧ (∀ a, A2 = some a → a.block < W1.heap.size) ∧ Keeps [] w W1 ∧ B ≤ W1.heap.size := all_keep D hj hg hka ho rfl hk hb
def AllR (w : World) (gR g B : Nat) (drop : Bool) (Ls : List (List En)) (M : List En) (s8 s9 s10 : Value) (wr : World) (K : Nat) : Prop :=
  ∃ j gE N ev A' c', s8 = .slice A' N c' ∧ s9 = .pointer (some ⟨gE, 0, none⟩) ∧ s10 = .bool (decide (j < M.length)) ∧ AllI w wr gR g B drop Ls M j gE ev A' c' N ∧ K = M.length - j
set_option maxRecDepth 100000 in
set_option maxHeartbeats 8000000 in
theorem all_any (A : Option Addr) (c : Nat) (rs : List Ro) (drop : Bool) (M : List En) (w : World) (h : RdL w A rs) (hl : rs.length ≤ 1000) (hM : (∀ es ∈ rs.map Ro.es, Srt es) → IsM (rs.map Ro.es) M) (hML : M.length ≤ 100000) :
    Calls Tryd.prog 8 #[.slice A rs.length c, .bool drop] w (AllP (rs.map Ro.es) M drop w) := by
  have HR := Lib.hid (And.intro h hl)
  have HM := Lib.hid (And.intro hM hML)
  obtain ⟨n, hn⟩ : ∃ n, n = rs.length := ⟨_, rfl⟩
  obtain ⟨Ls, hLs⟩ : ∃ Ls, Ls = rs.map Ro.es := ⟨_, rfl⟩
  have HN := Lib.hid (And.intro hn hLs)
  rw [← hn, ← hLs]
  clear h hl hM hML hn hLs
  go_enter Tryd.func8, Tryd.ntmps8
  go_wp2_with fail
  have HC := new_any A c rs w HR.out.1 HR.out.2
  rw [← HN.out.1, ← HN.out.2] at HC
  refine HC.mono ?_
  clear HC
  rintro r w1 ⟨hk, ⟨hS, gR, g, rfl, h1, h2, h3, h4, h5⟩ | ⟨hS, rfl⟩⟩
  · have HMI := Lib.hid (show IsM Ls M from by rw [HN.out.2]; exact HM.out.1 (by rw [← HN.out.2]; exact hS))
    have HML := Lib.hid HM.out.2
    have H1 := Lib.hid (show Keeps [] w w1 ∧ (∀ es ∈ Ls, Srt es) ∧ RM Ls M gR g w1.heap.size w1 0 ∧ w.heap.size ≤ gR ∧ w.heap.size ≤ g ∧ gR < w1.heap.size ∧ g < w1.heap.size from ⟨hk, hS, h5 M HMI.out, h1, h2, h3, h4⟩)
    clear hk hS h1 h2 h3 h4 h5 HM
    go_wp2_with fail
    refine (next_any Ls M gR g w1.heap.size 0 w1 HMI.out H1.out.2.1 (Nat.le_refl _) H1.out.2.2.1).mono ?_
    rintro r w3 hn
    obtain ⟨x, b, rfl⟩ := hn.val
    obtain ⟨B, hB⟩ : ∃ B, B = w1.heap.size := ⟨_, rfl⟩
    obtain ⟨gE, hgE⟩ : ∃ gE, gE = w3.heap.size := ⟨_, rfl⟩
    obtain ⟨w4, hw4⟩ : ∃ w4, w4 = w3.alloc (.cells #[.string (strB x.k), .string (strB x.v), .bool x.g] 39) := ⟨_, rfl⟩
    have HA := Lib.hid (show b = decide (0 < M.length) ∧ AllI w w4 gR g B drop Ls M 0 gE x none 0 0 from AllI.next (w1 := w1) (w2 := w1) (by rw [hB]; exact ⟨H1.out.1.size, H1.out.2.2.2.2.2.1, H1.out.2.2.2.2.2.2, H1.out.2.2.2.1, H1.out.2.2.2.2.1⟩) (Nat.zero_le _) (World.ownsRow_nil _ _ _ _) rfl (by simp) H1.out.1 (Keeps.refl [] w1) (by rw [hB]; exact hn) (by rw [hgE, hB]; exact hn.1.size) rfl (by rw [hw4, hgE]; exact (Keeps.refl _ _).alloc _) (by rw [hw4, hgE]; exact heap_alloc_new _ _))
    have HB := Lib.hid (show Keeps [] w w1 ∧ (∀ es ∈ Ls, Srt es) from ⟨H1.out.1, H1.out.2.1⟩)
    have HW := Lib.hid (And.intro hw4 hgE)
    clear hn hB hgE hw4 H1
    unfold En.val
    go_upto_region 6 with fail
    rw [← HW.out.1, ← HW.out.2]
    have HST := Lib.hid (show AllR w gR g B drop Ls M (.slice none 0 0) (.pointer (some ⟨gE, 0, none⟩)) (.bool b) w4 M.length from ⟨0, gE, 0, x, none, 0, rfl, rfl, by rw [HA.out.1], HA.out.2, rfl⟩)
    clear HW HA
    go_loopw [8, 9, 10] (fun s8 s9 s10 wr => ∃ K, AllR w gR g B drop Ls M s8 s9 s10 wr K) (fun s8 s9 s10 wr => leastN (AllR w gR g B drop Ls M s8 s9 s10 wr))
    case atStart => exact ⟨_, HST.out⟩
    case round =>
      clear HST
      obtain ⟨K0, hK0⟩ := hrel
      obtain ⟨K, hK⟩ : ∃ K, K = leastN (AllR w gR g B drop Ls M u8 u9 u10 wr) := ⟨_, rfl⟩
      have hKI := (leastN_is hK0).1
      rw [← hK] at hKI
      clear hK0
      obtain ⟨j, gE, N, ev, A1, c1, rfl, rfl, rfl, D, hKj⟩ := hKI
      replace D := Lib.hid D
      have HK := Lib.hid (And.intro hK hKj)
      clear hKj hK
      have y0 : wr.cell? ⟨gE, 0, none⟩ = some (.string (strB ev.k)) := by rw [cell_of_row _ _ _ _ _ _ D.out.e]; rfl
      have y1 : wr.cell? ⟨gE, 1, none⟩ = some (.string (strB ev.v)) := by rw [cell_of_row _ _ _ _ _ _ D.out.e]; rfl
      have y2 : wr.cell? ⟨gE, 2, none⟩ = some (.bool ev.g) := by rw [cell_of_row _ _ _ _ _ _ D.out.e]; rfl
      by_cases hj : j < M.length
      · have HJ := Lib.hid (show j + 1 ≤ M.length from hj)
        have hd : decide (j < M.length) = true := by simp [hj]
        have HN1 := Lib.hid (show N ≤ 100000 from by rw [D.out.len]; exact Nat.le_trans (keepE_len _ _) (by have := HML.out; rw [List.length_take]; omega))
        have hN1 : N ≤ 100000 := HN1.out
        rw [hd]
        clear hj hd
        cases drop with
        | false =>
          have hkp0 : (!false || !ev.g) = true := rfl
          have hkp : (!false || !ev.g) = true := hkp0
          have HKP := Lib.hid hkp
          clear hkp
          go_wp2_with (refine wpList_appendV rfl (.tmp 37) (.tmp 39) 26 39 rfl Tryd.underlying26 _ 3 40 infoEn rfl (by decide) A1 c1 N (encEn (keepE false (M.take j))) rfl (ownsRow_keeps D.out.own ((Keeps.refl [] wr).alloc _) (fun _ _ => by simp)) (some ⟨wr.heap.size, 0, none⟩) 1 1 ev.cells rfl (rd_rowN (xs := ev.cells) (heap_alloc_new _ _) rfl) (cells_one ev) (by unfold maxLen; omega) (by omega) ?_; intro A2 c2 W1 ho hk hb; have D1 := Lib.hid (all_keep1 D.out HJ.out HKP.out ((Keeps.refl [] wr).alloc _) ho hk hb); clear y0 y1 y2 ho hk hb; obtain ⟨y0, y1, y2⟩ := all_cells D1.out.1; obtain ⟨N2, hN2⟩ : ∃ N2, N2 = N + 1 := ⟨_, rfl⟩; rw [← hN2] at D1 ⊢; clear hN2)
          obtain ⟨gF, hgF⟩ : ∃ gF, gF = W1.heap.size := ⟨_, rfl⟩
          obtain ⟨W2, hW2⟩ : ∃ W2, W2 = W1.alloc (.cells #[.string (strB ev.k), .string (strB ev.v), .bool ev.g] 39) := ⟨_, rfl⟩
          have HW2 := Lib.hid (show Keeps [] W1 W2 ∧ W2.heap[gF]? = some (.cells #[.string (strB ev.k), .string (strB ev.v), .bool ev.g] 39 (0, 0)) ∧ B ≤ gF ∧ (∀ a, A2 = some a → a.block < gF) from by
            refine ⟨by rw [hW2]; exact (Keeps.refl _ _).alloc _, by rw [hW2, hgF]; exact heap_alloc_new _ _, by rw [hgF]; exact D1.out.2.2.2.2.2.2.2, fun a e => by rw [hgF]; exact D1.out.2.2.2.2.2.1 a e⟩)
          have HF := Lib.hid (And.intro hW2 hgF)
          clear hW2 hgF
          rw [← HF.out.1, ← HF.out.2]
          clear y0 y1 y2
          refine (next_any Ls M gR g B (j + 1) W2 HMI.out HB.out.2 (Nat.le_trans D1.out.2.2.2.2.2.2.2 HW2.out.1.size) (D1.out.2.1.keeps0 HW2.out.1)).mono ?_
          rintro r w3 hn
          obtain ⟨x, b, rfl⟩ := hn.val
          have HNX := Lib.hid hn
          have H3 := Lib.hid (show w3.heap[gF]? = some (.cells #[.string (strB ev.k), .string (strB ev.v), .bool ev.g] 39 (0, 0)) from (hn.1.block gF (lt_of_block HW2.out.2.1) (by have := HW2.out.2.2.1; have := D.out.fr; simp; omega)).trans HW2.out.2.1)
          clear hn
          have fz : ∀ j, w3.frozen? ⟨gF, j, none⟩ = false := fun j => frozen_of_row w3 _ j _ _ H3.out
          have z0 : w3.cell? ⟨gF, 0, none⟩ = some (.string (strB ev.k)) := by rw [cell_of_row _ _ _ _ _ _ H3.out]; rfl
          have z1 : w3.cell? ⟨gF, 1, none⟩ = some (.string (strB ev.v)) := by rw [cell_of_row _ _ _ _ _ _ H3.out]; rfl
          have z2 : w3.cell? ⟨gF, 2, none⟩ = some (.bool ev.g) := by rw [cell_of_row _ _ _ _ _ _ H3.out]; rfl
          unfold En.val
          have hs := set3 H3.out (.string (strB x.k)) (.string (strB x.v)) (.bool x.g)
          obtain ⟨w4, hw4⟩ : ∃ w4, w4 = ((w3.setCell ⟨gF, 0, none⟩ (.string (strB x.k))).setCell ⟨gF, 1, none⟩ (.string (strB x.v))).setCell ⟨gF, 2, none⟩ (.bool x.g) := ⟨_, rfl⟩
          rw [← hw4] at hs
          have D4 := Lib.hid (AllI.next (w := w) (w1 := W1) (w2 := W2) (w3 := w3) (w4 := w4) (gE := gF) (drop := false) (Ls := Ls) (x := x) (b := b) ⟨D.out.fr.1, D.out.fr.2.2⟩ HJ.out D1.out.2.2.1 D1.out.2.2.2.1 (fun a e => ⟨D1.out.2.2.2.2.1 a e, HW2.out.2.2.2 a e⟩) D1.out.2.2.2.2.2.2.1 HW2.out.1 HNX.out HW2.out.2.2.1 rfl hs.2 hs.1)
          have HW4 := Lib.hid hw4
          clear hs hw4
          go_wp2_with fail
          rw [← HW4.out]
          clear fz z0 z1 z2
          go_wp2_with fail
          go_roundw
          case rel => exact ⟨_, j + 1, gF, N2, x, A2, c2, rfl, rfl, by rw [D4.out.1], D4.out.2, rfl⟩
          case measure =>
            have h8 := (leastN_is (P := AllR w gR g B false Ls M (.slice A2 N2 c2) (.pointer (some ⟨gF, 0, none⟩)) (.bool b) w4) (n := M.length - (j + 1)) ⟨j + 1, gF, N2, x, A2, c2, rfl, rfl, by rw [D4.out.1], D4.out.2, rfl⟩).2
            refine Nat.lt_of_le_of_lt h8 ?_
            have h10 := HJ.out
            have h9 := HK.out
            rw [show decide (j < M.length) = true from by simp; omega] at h9
            rw [← h9.1, h9.2]
            omega
        | true =>
          cases hg : ev.g with
          | false =>
            have hkp0 : (!true || !ev.g) = true := by rw [hg]; rfl
            have HG := Lib.hid hg
            rw [hg] at y2
            clear hg
            have hkp : (!true || !ev.g) = true := hkp0
            have HKP := Lib.hid hkp
            clear hkp
            go_wp2_with (refine wpList_appendV rfl (.tmp 37) (.tmp 39) 26 39 rfl Tryd.underlying26 _ 3 40 infoEn rfl (by decide) A1 c1 N (encEn (keepE true (M.take j))) rfl (ownsRow_keeps D.out.own ((Keeps.refl [] wr).alloc _) (fun _ _ => by simp)) (some ⟨wr.heap.size, 0, none⟩) 1 1 ev.cells rfl (rd_rowN (xs := ev.cells) (by rw [show ev.cells = [.string (strB ev.k), .string (strB ev.v), .bool false] from by unfold En.cells; rw [HG.out]]; exact heap_alloc_new _ _) rfl) (cells_one ev) (by unfold maxLen; omega) (by omega) ?_; intro A2 c2 W1 ho hk hb; have D1 := Lib.hid (all_keep1 D.out HJ.out HKP.out ((Keeps.refl [] wr).alloc _) ho hk hb); clear y0 y1 y2 ho hk hb; obtain ⟨y0, y1, y2⟩ := all_cells D1.out.1; obtain ⟨N2, hN2⟩ : ∃ N2, N2 = N + 1 := ⟨_, rfl⟩; rw [← hN2] at D1 ⊢; clear hN2)
            obtain ⟨gF, hgF⟩ : ∃ gF, gF = W1.heap.size := ⟨_, rfl⟩
            obtain ⟨W2, hW2⟩ : ∃ W2, W2 = W1.alloc (.cells #[.string (strB ev.k), .string (strB ev.v), .bool ev.g] 39) := ⟨_, rfl⟩
            have HW2 := Lib.hid (show Keeps [] W1 W2 ∧ W2.heap[gF]? = some (.cells #[.string (strB ev.k), .string (strB ev.v), .bool ev.g] 39 (0, 0)) ∧ B ≤ gF ∧ (∀ a, A2 = some a → a.block < gF) from by
              refine ⟨by rw [hW2]; exact (Keeps.refl _ _).alloc _, by rw [hW2, hgF]; exact heap_alloc_new _ _, by rw [hgF]; exact D1.out.2.2.2.2.2.2.2, fun a e => by rw [hgF]; exact D1.out.2.2.2.2.2.1 a e⟩)
            have HF := Lib.hid (And.intro hW2 hgF)
            clear hW2 hgF
            rw [← HF.out.1, ← HF.out.2]
            clear y0 y1 y2
            refine (next_any Ls M gR g B (j + 1) W2 HMI.out HB.out.2 (Nat.le_trans D1.out.2.2.2.2.2.2.2 HW2.out.1.size) (D1.out.2.1.keeps0 HW2.out.1)).mono ?_
            rintro r w3 hn
            obtain ⟨x, b, rfl⟩ := hn.val
            have HNX := Lib.hid hn
            have H3 := Lib.hid (show w3.heap[gF]? = some (.cells #[.string (strB ev.k), .string (strB ev.v), .bool ev.g] 39 (0, 0)) from (hn.1.block gF (lt_of_block HW2.out.2.1) (by have := HW2.out.2.2.1; have := D.out.fr; simp; omega)).trans HW2.out.2.1)
            clear hn
            have fz : ∀ j, w3.frozen? ⟨gF, j, none⟩ = false := fun j => frozen_of_row w3 _ j _ _ H3.out
            have z0 : w3.cell? ⟨gF, 0, none⟩ = some (.string (strB ev.k)) := by rw [cell_of_row _ _ _ _ _ _ H3.out]; rfl
            have z1 : w3.cell? ⟨gF, 1, none⟩ = some (.string (strB ev.v)) := by rw [cell_of_row _ _ _ _ _ _ H3.out]; rfl
            have z2 : w3.cell? ⟨gF, 2, none⟩ = some (.bool ev.g) := by rw [cell_of_row _ _ _ _ _ _ H3.out]; rfl
            unfold En.val
            have hs := set3 H3.out (.string (strB x.k)) (.string (strB x.v)) (.bool x.g)
            obtain ⟨w4, hw4⟩ : ∃ w4, w4 = ((w3.setCell ⟨gF, 0, none⟩ (.string (strB x.k))).setCell ⟨gF, 1, none⟩ (.string (strB x.v))).setCell ⟨gF, 2, none⟩ (.bool x.g) := ⟨_, rfl⟩
            rw [← hw4] at hs
            have D4 := Lib.hid (AllI.next (w := w) (w1 := W1) (w2 := W2) (w3 := w3) (w4 := w4) (gE := gF) (drop := true) (Ls := Ls) (x := x) (b := b) ⟨D.out.fr.1, D.out.fr.2.2⟩ HJ.out D1.out.2.2.1 D1.out.2.2.2.1 (fun a e => ⟨D1.out.2.2.2.2.1 a e, HW2.out.2.2.2 a e⟩) D1.out.2.2.2.2.2.2.1 HW2.out.1 HNX.out HW2.out.2.2.1 rfl hs.2 hs.1)
            have HW4 := Lib.hid hw4
            clear hs hw4
            go_wp2_with fail
            rw [← HW4.out]
            clear fz z0 z1 z2
            go_wp2_with fail
            go_roundw
            case rel => exact ⟨_, j + 1, gF, N2, x, A2, c2, rfl, rfl, by rw [D4.out.1], D4.out.2, rfl⟩
            case measure =>
              have h8 := (leastN_is (P := AllR w gR g B true Ls M (.slice A2 N2 c2) (.pointer (some ⟨gF, 0, none⟩)) (.bool b) w4) (n := M.length - (j + 1)) ⟨j + 1, gF, N2, x, A2, c2, rfl, rfl, by rw [D4.out.1], D4.out.2, rfl⟩).2
              refine Nat.lt_of_le_of_lt h8 ?_
              have h10 := HJ.out
              have h9 := HK.out
              rw [show decide (j < M.length) = true from by simp; omega] at h9
              rw [← h9.1, h9.2]
              omega
          | true =>
            have HG := Lib.hid hg
            have y3 := y2
            rw [hg] at y2
            clear hg
            have D1 := Lib.hid (show wr.heap[gE]? = some (.cells #[.string (strB ev.k), .string (strB ev.v), .bool ev.g] 39 (0, 0)) ∧ RM Ls M gR g B wr (j + 1) ∧ wr.ownsRow 0 39 3 (.slice A1 N c1) N (encEn (keepE true (M.take (j + 1)))) ∧ N = (keepE true (M.take (j + 1))).length ∧ (∀ a, A1 = some a → B ≤ a.block) ∧ (∀ a, A1 = some a → a.block < wr.heap.size) ∧ Keeps [] w wr ∧ B ≤ wr.heap.size from all_skip D.out HJ.out HG.out)
            have HY := Lib.hid y3
            clear y3
            go_upto_region 10 with fail
            clear y2
            have y2 := HY.out
            go_wp2_with fail
            obtain ⟨gF, hgF⟩ : ∃ gF, gF = wr.heap.size := ⟨_, rfl⟩
            obtain ⟨W2, hW2⟩ : ∃ W2, W2 = wr.alloc (.cells #[.string (strB ev.k), .string (strB ev.v), .bool ev.g] 39) := ⟨_, rfl⟩
            have HW2 := Lib.hid (show Keeps [] wr W2 ∧ W2.heap[gF]? = some (.cells #[.string (strB ev.k), .string (strB ev.v), .bool ev.g] 39 (0, 0)) ∧ B ≤ gF ∧ (∀ a, A1 = some a → a.block < gF) from by
              refine ⟨by rw [hW2]; exact (Keeps.refl _ _).alloc _, by rw [hW2, hgF]; exact heap_alloc_new _ _, by rw [hgF]; exact D1.out.2.2.2.2.2.2.2, fun a e => by rw [hgF]; exact D1.out.2.2.2.2.2.1 a e⟩)
            have HF := Lib.hid (And.intro hW2 hgF)
            clear hW2 hgF
            rw [← HF.out.1, ← HF.out.2]
            clear y0 y1 y2
            refine (next_any Ls M gR g B (j + 1) W2 HMI.out HB.out.2 (Nat.le_trans D1.out.2.2.2.2.2.2.2 HW2.out.1.size) (D1.out.2.1.keeps0 HW2.out.1)).mono ?_
            rintro r w3 hn
            obtain ⟨x, b, rfl⟩ := hn.val
            have HNX := Lib.hid hn
            have H3 := Lib.hid (show w3.heap[gF]? = some (.cells #[.string (strB ev.k), .string (strB ev.v), .bool ev.g] 39 (0, 0)) from (hn.1.block gF (lt_of_block HW2.out.2.1) (by have := HW2.out.2.2.1; have := D.out.fr; simp; omega)).trans HW2.out.2.1)
            clear hn
            have fz : ∀ j, w3.frozen? ⟨gF, j, none⟩ = false := fun j => frozen_of_row w3 _ j _ _ H3.out
            have z0 : w3.cell? ⟨gF, 0, none⟩ = some (.string (strB ev.k)) := by rw [cell_of_row _ _ _ _ _ _ H3.out]; rfl
            have z1 : w3.cell? ⟨gF, 1, none⟩ = some (.string (strB ev.v)) := by rw [cell_of_row _ _ _ _ _ _ H3.out]; rfl
            have z2 : w3.cell? ⟨gF, 2, none⟩ = some (.bool ev.g) := by rw [cell_of_row _ _ _ _ _ _ H3.out]; rfl
            unfold En.val
            have hs := set3 H3.out (.string (strB x.k)) (.string (strB x.v)) (.bool x.g)
            obtain ⟨w4, hw4⟩ : ∃ w4, w4 = ((w3.setCell ⟨gF, 0, none⟩ (.string (strB x.k))).setCell ⟨gF, 1, none⟩ (.string (strB x.v))).setCell ⟨gF, 2, none⟩ (.bool x.g) := ⟨_, rfl⟩
            rw [← hw4] at hs
            have D4 := Lib.hid (AllI.next (w := w) (w1 := wr) (w2 := W2) (w3 := w3) (w4 := w4) (gE := gF) (drop := true) (Ls := Ls) (x := x) (b := b) ⟨D.out.fr.1, D.out.fr.2.2⟩ HJ.out D1.out.2.2.1 D1.out.2.2.2.1 (fun a e => ⟨D1.out.2.2.2.2.1 a e, HW2.out.2.2.2 a e⟩) D1.out.2.2.2.2.2.2.1 HW2.out.1 HNX.out HW2.out.2.2.1 rfl hs.2 hs.1)
            have HW4 := Lib.hid hw4
            clear hs hw4
            go_wp2_with fail
            rw [← HW4.out]
            clear fz z0 z1 z2
            go_wp2_with fail
            go_roundw
            case rel => exact ⟨_, j + 1, gF, N, x, A1, c1, rfl, rfl, by rw [D4.out.1], D4.out.2, rfl⟩
            case measure =>
              have h8 := (leastN_is (P := AllR w gR g B true Ls M (.slice A1 N c1) (.pointer (some ⟨gF, 0, none⟩)) (.bool b) w4) (n := M.length - (j + 1)) ⟨j + 1, gF, N, x, A1, c1, rfl, rfl, by rw [D4.out.1], D4.out.2, rfl⟩).2
              refine Nat.lt_of_le_of_lt h8 ?_
              have h10 := HJ.out
              have h9 := HK.out
              rw [show decide (j < M.length) = true from by simp; omega] at h9
              rw [← h9.1, h9.2]
              omega
      · have hd : decide (j < M.length) = false := by simp [hj]
        have HJ := Lib.hid hj
        rw [hd]
        clear hj hd
        go_wp2_with fail
        go_ret2
        have e : keepE drop (M.take j) = keepE drop M := by rw [List.take_of_length_le (by have := HJ.out; omega)]
        have h1 := D.out.own
        have h2 := D.out.len
        rw [e] at h1 h2
        rw [h2] at h1
        exact ⟨D.out.kp, .inl ⟨HB.out.2, A1, c1, by rw [h2]; rfl, h1, fun a ha => by have := (D.out.ap a ha).1; have := D.out.fr.1; omega⟩⟩
  · go_wp2_with fail
    go_ret2
    exact ⟨hk, .inr ⟨hS, rfl⟩⟩
end Go.Proofs.YtaedmafmflohiaaDoor
namespace Go.Proofs.YtaedmafmflohiaaDoor
open Go.RowKit

/-- The oldest row first, put one behind the other. -/
def refM (Ls : List (List En)) : List En := Ls.foldr (fun es m => es.foldl putE m) []
theorem foldl_srt : ∀ (es m : List En), Srt m → Srt (es.foldl putE m)
  | [], _, h => h
  | e :: es, _, h => foldl_srt es _ (putE_srt h e)
theorem refM_srt (Ls : List (List En)) : Srt (refM Ls) := by
  induction Ls with
  | nil => exact List.Pairwise.nil
  | cons es Ls ih => exact foldl_srt es _ ih
theorem foldl_mem : ∀ (es m : List En), Srt es → Srt m → ∀ x, x ∈ es.foldl putE m ↔ (∃ e ∈ es, x = e.norm) ∨ (x ∈ m ∧ ∀ e ∈ es, e.k ≠ x.k)
  | [], m, _, _, x => by simp
  | e :: es, m, hs, hm, x => by
    rw [List.foldl_cons, foldl_mem es _ hs.tail (putE_srt hm e) x, mem_putE hm]
    constructor
    · rintro (⟨f, hf, rfl⟩ | ⟨rfl | ⟨h1, h2⟩, h3⟩)
      · exact .inl ⟨f, by simp [hf], rfl⟩
      · exact .inl ⟨e, by simp, rfl⟩
      · exact .inr ⟨h1, fun f hf => by
          rcases List.mem_cons.1 hf with rfl | hf
          · exact fun h => h2 h.symm
          · exact h3 f hf⟩
    · rintro (⟨f, hf, rfl⟩ | ⟨h1, h2⟩)
      · rcases List.mem_cons.1 hf with rfl | hf
        · refine .inr ⟨.inl rfl, fun g hg h => ?_⟩
          rw [En.norm_k] at h
          have := hs.head hg
          rw [h, bl_same] at this
          cases this
        · exact .inl ⟨f, hf, rfl⟩
      · exact .inr ⟨.inr ⟨h1, fun h => h2 e (by simp) h.symm⟩, fun f hf => h2 f (by simp [hf])⟩
theorem refM_is : ∀ (Ls : List (List En)), (∀ es ∈ Ls, Srt es) → IsM Ls (refM Ls)
  | [], _ => ⟨List.Pairwise.nil, fun x => ⟨fun h => (by cases h), fun h => (by obtain ⟨r, es, e, h, _⟩ := h; simp at h)⟩⟩
  | es :: Ls, hS => by
    have ih := refM_is Ls (fun x hx => hS x (by simp [hx]))
    refine ⟨refM_srt _, fun x => ?_⟩
    show x ∈ es.foldl putE (refM Ls) ↔ _
    rw [foldl_mem es _ (hS es (by simp)) (refM_srt Ls), ih.2]
    constructor
    · rintro (⟨e, he, rfl⟩ | ⟨⟨r, es', e, h1, h2, rfl, h3⟩, h4⟩)
      · exact ⟨0, es, e, rfl, he, rfl, fun r' es' e' hr _ _ => by omega⟩
      · refine ⟨r + 1, es', e, h1, h2, rfl, fun r' es'' e' hr h5 h6 => ?_⟩
        cases r' with
        | zero =>
          have : es = es'' := by simpa using h5
          subst this
          have := h4 e' h6
          rwa [En.norm_k] at this
        | succ r' => exact h3 r' es'' e' (by omega) h5 h6
    · rintro ⟨r, es', e, h1, h2, rfl, h3⟩
      cases r with
      | zero =>
        have : es = es' := by simpa using h1
        subst this
        exact .inl ⟨e, h2, rfl⟩
      | succ r =>
        refine .inr ⟨⟨r, es', e, h1, h2, rfl, fun r' es'' e' hr h5 h6 => h3 (r' + 1) es'' e' (by omega) h5 h6⟩, fun e' he' => ?_⟩
        rw [En.norm_k]
        exact h3 0 es e' (by omega) rfl he'
theorem refM_len (Ls : List (List En)) : (refM Ls).length ≤ (Ls.map List.length).sum := by
  have h1 : ∀ (es m : List En), (es.foldl putE m).length ≤ es.length + m.length := fun es => by
    induction es with
    | nil => intro m; simp
    | cons e es ih =>
      intro m
      have := ih (putE m e)
      rw [putE_len] at this
      rw [List.foldl_cons, List.length_cons]
      split at this <;> omega
  induction Ls with
  | nil => simp [refM]
  | cons es Ls ih =>
    have := h1 es (refM Ls)
    rw [List.map_cons, List.sum_cons]
    show (es.foldl putE (refM Ls)).length ≤ _
    omega
end Go.Proofs.YtaedmafmflohiaaDoor
