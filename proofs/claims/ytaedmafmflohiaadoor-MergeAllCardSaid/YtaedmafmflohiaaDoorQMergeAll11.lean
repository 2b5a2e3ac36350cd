/- How a law on package merge begins. A row of rows of one's own. What comes of rows that were put: plain lists. No program is named here. Rows that are put beside a row of rows of one's own. -/
import Derived.Test.YtaedmafmflohiaaDoorQMergeAll10
import Derived.Test.YtaedmafmflohiaaDoorQMergeAll4
namespace Go.Proofs.YtaedmafmflohiaaDoor
open Go.RowKit

set_option maxHeartbeats 4000000 in
theorem entries_same4 (l : List En) (A1 A2 : Option Addr) (c1 c2 : Nat) (w : World) (h1 : Rd w A1 l.length 3 (encEn l)) (h2 : Rd w A2 l.length 3 (encEn l)) (hl : l.length ≤ 1000000) :
    Calls Tryd.prog 11 #[.slice A1 l.length c1, .slice A2 l.length c2] w fun r w' => r = .returned (.bool true) ∧ Keeps [] w w' := by
  have H1 := Lib.hid h1
  have H2 := Lib.hid h2
  obtain ⟨n, hn⟩ : ∃ n, n = l.length := ⟨_, rfl⟩
  have HN := Lib.hid hn
  have INV := Lib.hid (Keeps.refl [] w)
  rw [← hn] at hl ⊢
  clear h1 h2 hn
  go_enter Tryd.func11, Tryd.ntmps11
  go_wp2_with fail
  go_loopw [5] (fun si wr => ∃ i : Nat, i ≤ n ∧ si = .int .i64 i ∧ Hid (Keeps [] w wr)) (fun si _ => n - (intOf si).toNat)
  case atStart => exact ⟨0, Nat.zero_le _, rfl, INV.out⟩
  case round =>
    clear INV
    obtain ⟨i, hi, rfl, hinv⟩ := hrel
    by_cases hlt : i < n
    · have hik : (i : Int) < (n : Int) := by omega
      have HIL := Lib.hid (show i < l.length by have := HN.out; omega)
      obtain ⟨g1, o1, rfl, k0, k1, k2⟩ := en_cells (H1.out.keeps0 hinv.out) (i := i) HIL.out
      obtain ⟨g2, o2, rfl, m0, m1, m2⟩ := en_cells (H2.out.keeps0 hinv.out) (i := i) HIL.out
      obtain ⟨e, he⟩ : ∃ e, e = l[i]'(HIL.out) := ⟨_, rfl⟩
      rw [← he] at k0 k1 k2 m0 m1 m2
      have HKK := Lib.hid (And.intro (And.intro k0 (And.intro k1 k2)) (And.intro m0 (And.intro m1 m2)))
      clear k0 k1 k2 m0 m1 m2 he hlt
      go_upto_region 6 with fail
      have qa : ∀ z : World, Keeps [] wr z → z.cell? ⟨g1, o1 + i * 3, none⟩ = some (.string (strB e.k)) := fun z hz => hz.cell HKK.out.1.1 (by simp)
      have qb : ∀ z : World, Keeps [] wr z → z.cell? ⟨g1, o1 + i * 3 + 1, none⟩ = some (.string (strB e.v)) := fun z hz => hz.cell HKK.out.1.2.1 (by simp)
      have qc : ∀ z : World, Keeps [] wr z → z.cell? ⟨g1, o1 + i * 3 + 2, none⟩ = some (.bool e.g) := fun z hz => hz.cell HKK.out.1.2.2 (by simp)
      have qd : ∀ z : World, Keeps [] wr z → z.cell? ⟨g2, o2 + i * 3, none⟩ = some (.string (strB e.k)) := fun z hz => hz.cell HKK.out.2.1 (by simp)
      have qe : ∀ z : World, Keeps [] wr z → z.cell? ⟨g2, o2 + i * 3 + 1, none⟩ = some (.string (strB e.v)) := fun z hz => hz.cell HKK.out.2.2.1 (by simp)
      have qf : ∀ z : World, Keeps [] wr z → z.cell? ⟨g2, o2 + i * 3 + 2, none⟩ = some (.bool e.g) := fun z hz => hz.cell HKK.out.2.2.2 (by simp)
      refine seq_start (by kernel_rfl) (fun z => Keeps [] wr z) 9 [0, 1, 2, 3, 4, 5, 6, 7, 8] rfl ((Keeps.refl [] wr).drew) (fun hS => ?_)
      refine seq_take (v := ?_) rfl (by kernel_rfl) (by kernel_rfl) (by kernel_rfl) (Or.inl ⟨by rfl, fun w' hSw => ?_⟩) (by assumption) ?_
      rotate_left
      · go_simp
        with_reducible rfl
      simp only [Act.put, List.setIfInBounds_toArray, List.set_cons_zero, List.set_cons_succ]
      refine seq_take (v := ?_) rfl (by kernel_rfl) (by kernel_rfl) (by kernel_rfl) (Or.inl ⟨by rfl, fun w' hSw => ?_⟩) (by assumption) ?_
      rotate_left
      · go_simp
        with_reducible rfl
      simp only [Act.put, List.setIfInBounds_toArray, List.set_cons_zero, List.set_cons_succ]
      refine seq_take (v := ?_) rfl (by kernel_rfl) (by kernel_rfl) (by kernel_rfl) (Or.inl ⟨by rfl, fun w' hSw => ?_⟩) (by assumption) ?_
      rotate_left
      · go_simp
        with_reducible rfl
      simp only [Act.put, List.setIfInBounds_toArray, List.set_cons_zero, List.set_cons_succ]
      refine seq_take (v := ?_) rfl (by kernel_rfl) (by kernel_rfl) (by kernel_rfl) (Or.inl ⟨by rfl, fun w' hSw => ?_⟩) (by assumption) ?_
      rotate_left
      · go_simp
        with_reducible rfl
      simp only [Act.put, List.setIfInBounds_toArray, List.set_cons_zero, List.set_cons_succ]
      refine seq_take (v := ?_) rfl (by kernel_rfl) (by kernel_rfl) (by kernel_rfl) (Or.inl ⟨by rfl, fun w' hSw => ?_⟩) (by assumption) ?_
      rotate_left
      · go_simp
        with_reducible rfl
      simp only [Act.put, List.setIfInBounds_toArray, List.set_cons_zero, List.set_cons_succ]
      refine seq_take (v := ?_) rfl (by kernel_rfl) (by kernel_rfl) (by kernel_rfl) (Or.inl ⟨by rfl, fun w' hSw => ?_⟩) (by assumption) ?_
      rotate_left
      · go_simp
        with_reducible rfl
      simp only [Act.put, List.setIfInBounds_toArray, List.set_cons_zero, List.set_cons_succ]
      refine seq_take (v := ?_) rfl (by kernel_rfl) (by kernel_rfl) (by kernel_rfl) (Or.inl ⟨by rfl, fun w' hSw => ?_⟩) (by assumption) ?_
      rotate_left
      · go_simp
        with_reducible rfl
      simp only [Act.put, List.setIfInBounds_toArray, List.set_cons_zero, List.set_cons_succ]
      refine seq_take (v := ?_) rfl (by kernel_rfl) (by kernel_rfl) (by kernel_rfl) (Or.inl ⟨by rfl, fun w' hSw => ?_⟩) (by assumption) ?_
      rotate_left
      · go_simp
        with_reducible rfl
      simp only [Act.put, List.setIfInBounds_toArray, List.set_cons_zero, List.set_cons_succ]
      refine seq_take (v := ?_) rfl (by kernel_rfl) (by kernel_rfl) (by kernel_rfl) (Or.inl ⟨by rfl, fun w' hSw => ?_⟩) (by assumption) ?_
      rotate_left
      · go_simp
        with_reducible rfl
      simp only [Act.put, List.setIfInBounds_toArray, List.set_cons_zero, List.set_cons_succ]
      refine seq_done (by kernel_rfl) ?_
      all_goals skip
      have HI := Lib.hid hinv.out.drew
      clear qa qb qc qd qe qf hS hinv HKK
      generalize wr.drew = V at HI ⊢
      go_wp2_with fail
      go_roundw
      case rel => exact ⟨i + 1, by omega, by go_num, HI.out⟩
      case measure => simp [intOf]; omega
    · have hik : ¬ (i : Int) < (n : Int) := by omega
      clear hlt
      go_wp2_with fail
      go_ret
      exact ⟨rfl, hinv.out⟩
theorem own_en4 (A : Option Addr) (c : Nat) (l : List En) (w : World) (h : Rd w A l.length 3 (encEn l)) (hl : l.length ≤ 1000000000) :
    Calls Tryd.prog 14 #[.slice A l.length c] w (NewEn l w) := by
  have HR := Lib.hid h
  obtain ⟨n, hn⟩ : ∃ n, n = l.length := ⟨_, rfl⟩
  have HN := Lib.hid hn
  have HB := Lib.hid (show 0 + n ≤ maxLen ∧ (0 + n) * 40 ≤ 140737488355328 from by unfold maxLen; omega)
  rw [← hn] at hl HR ⊢
  clear h hn
  go_enter Tryd.func14, Tryd.ntmps14
  go_wp2_with (at_builtin; refine wpList_appendV rfl (.tmp 4) (.tmp 5) 26 39 rfl Tryd.underlying26 _ 3 40 infoEn rfl (by decide) none 0 0 [] rfl (World.ownsRow_nil _ 0 _ _) A n c (encEn l) rfl HR.out (encEn_one l) HB.out.1 HB.out.2 ?_; intro A' c' w' ho hk hb; rw [Nat.zero_add, List.nil_append] at ho; have HO := Lib.hid ho; have HK := Lib.hid hk; have HBB := Lib.hid hb; clear ho hk hb)
  go_ret
  have hnl := HN.out
  subst hnl
  refine ⟨A', c', by simp, HO.out, HK.out.mono (by simp [blk]), fun a ha => ?_⟩
  rcases HBB.out a ha with h | h
  · simp [blk] at h
  · exact h
/-- Rows in a row: of any number. -/
def RdL0 (w : World) (A : Option Addr) (rs : List Ro) : Prop := Rd w A rs.length 1 (rs.map Ro.cell) ∧ ∀ r ∈ rs, Rd w r.A r.es.length 3 (encEn r.es) ∧ EnOk r.es ∧ r.es.length ≤ 140737488351232 ∧ r.es.length ≤ r.c
theorem RdL0.keeps0 {w w' : World} {A : Option Addr} {rs : List Ro} (h : RdL0 w A rs) (hk : Keeps [] w w') : RdL0 w' A rs := ⟨h.1.keeps0 hk, fun r hr => ⟨(h.2 r hr).1.keeps0 hk, (h.2 r hr).2⟩⟩
theorem RdL0.at_ {w : World} {A : Option Addr} {rs : List Ro} (h : RdL0 w A rs) {i : Nat} (hi : i < rs.length) : ∃ g o, A = some ⟨g, o, none⟩ ∧ w.cell? ⟨g, o + i, none⟩ = some (.slice rs[i].A rs[i].es.length rs[i].c) := by
  obtain ⟨g, o, e, hc⟩ := Rd.form h.1 (by simp; omega)
  exact ⟨g, o, e, hc i _ (by rw [List.getElem?_map, List.getElem?_eq_getElem hi]; rfl)⟩
abbrev KL : K := K.slice 24 (K.slice 40 KE)
def roOf (x : (Option Addr × Nat) × List (ByteArray × ByteArray × Bool × Unit)) : Ro := ⟨x.1.1, x.1.2, x.2.map enOf⟩
theorem read_rows {w : World} {A : Option Addr} {c : Nat} {xs : List ((Option Addr × Nat) × List (ByteArray × ByteArray × Bool × Unit))} (h : KL.ok w ((A, c), xs)) :
    RdL0 w A (xs.map roOf) ∧ xs.length ≤ 140737488351232 := by
  obtain ⟨h1, h2, h3, h4⟩ := h
  have h2' : xs.length * 24 ≤ 140737488351232 := h2
  refine ⟨⟨?_, fun r hr => ?_⟩, by omega⟩
  · have e : (xs.map roOf).map Ro.cell = List.flatMap (α := (K.slice 40 KE).V) (K.slice 40 KE).cells xs := by
      clear h1 h2 h3 h4 h2'
      induction xs with
      | nil => rfl
      | cons y ys ih =>
        have e1 : Ro.cell (roOf y) = Value.slice y.1.1 (List.length y.2) y.1.2 := by
          show Value.slice y.1.1 (y.2.map enOf).length y.1.2 = _
          rw [List.length_map]
        have e2 : Ro.cell (roOf y) :: List.map Ro.cell (List.map roOf ys) = Value.slice y.1.1 (List.length y.2) y.1.2 :: List.flatMap (α := (K.slice 40 KE).V) (K.slice 40 KE).cells ys := by rw [e1, ih]
        exact e2
    rw [e, List.length_map]
    exact h3
  · obtain ⟨⟨⟨B, d⟩, ys⟩, hx, rfl⟩ := List.mem_map.1 hr
    have h5 := h4 _ hx
    obtain ⟨h6, h7, h8, h9⟩ := read_en h5
    obtain ⟨h10, _⟩ := h5
    refine ⟨h7, h8, ?_, ?_⟩
    · show (ys.map enOf).length ≤ _
      rw [h6]; exact h9
    · show (ys.map enOf).length ≤ d
      rw [h6]; exact h10
def totR (rs : List Ro) : Nat := (rs.map fun r => r.es.length).sum
theorem totR_take {rs : List Ro} {i : Nat} (hi : i < rs.length) : totR (rs.take (i + 1)) = totR (rs.take i) + rs[i].es.length := by
  unfold totR
  rw [List.take_succ_eq_append_getElem hi, List.map_append, List.sum_append]
  simp only [List.map_cons, List.map_nil, List.sum_cons, List.sum_nil, Nat.add_zero]
def ManyP (rs : List Ro) (w : World) (r : Ending) (w' : World) : Prop := ∃ b, r = .returned (.bool b) ∧ w' = w ∧ (b = false → rs.length ≤ 51 ∧ totR rs ≤ 400)
set_option maxHeartbeats 4000000 in
theorem many_any (A : Option Addr) (c : Nat) (rs : List Ro) (w : World) (h : RdL0 w A rs) :
    Calls Tryd.prog 5 #[.slice A rs.length c] w (ManyP rs w) := by
  have HR := Lib.hid h
  obtain ⟨n, hn⟩ : ∃ n, n = rs.length := ⟨_, rfl⟩
  have HN := Lib.hid hn
  rw [← hn]
  clear h hn
  go_enter Tryd.func5, Tryd.ntmps5
  go_wp2_with fail
  go_loop [3, 4] (fun sn si => ∃ i t : Nat, sn = .int .i64 t ∧ si = .int .i64 i ∧ i ≤ n ∧ t ≤ 400 ∧ i ≤ 51 ∧ Hid (t = totR (rs.take i))) (fun _ si => n - (intOf si).toNat)
  case atStart => exact ⟨0, 0, rfl, rfl, Nat.zero_le _, by omega, by omega, Lib.hid rfl⟩
  case round =>
    obtain ⟨i, t, rfl, rfl, hi, ht, hi51, htt⟩ := hrel
    by_cases hlt : i < n
    · have hik : (i : Int) < (n : Int) := by omega
      have HIL := Lib.hid (show i < rs.length by have := HN.out; omega)
      obtain ⟨g, o, rfl, k0⟩ := HR.out.at_ HIL.out
      obtain ⟨m, hm⟩ : ∃ m, m = (rs[i]'(HIL.out)).es.length := ⟨_, rfl⟩
      obtain ⟨B, hB⟩ : ∃ B, B = (rs[i]'(HIL.out)).A := ⟨_, rfl⟩
      obtain ⟨d, hd⟩ : ∃ d, d = (rs[i]'(HIL.out)).c := ⟨_, rfl⟩
      rw [← hm, ← hB, ← hd] at k0
      have hm2 : m ≤ 140737488351232 := by rw [hm]; exact (HR.out.2 _ (List.getElem_mem HIL.out)).2.2.1
      have HT := Lib.hid (show t + m = totR (rs.take (i + 1)) from by rw [totR_take HIL.out, htt.out, hm])
      have HII := Lib.hid (show i ≤ 51 ∧ i < n from ⟨hi51, hlt⟩)
      clear hm hB hd htt hlt hi
      by_cases h4 : 400 < t + m
      · have h4i : (400 : Int) < (t : Int) + (m : Int) := by omega
        go_wp2_with fail
        go_ret
        exact ⟨true, rfl, rfl, fun h => by cases h⟩
      · have h4i : ¬ (400 : Int) < (t : Int) + (m : Int) := by omega
        by_cases h5 : 50 < i
        · have h5i : (50 : Int) < (i : Int) := by omega
          go_wp2_with fail
          go_ret
          exact ⟨true, rfl, rfl, fun h => by cases h⟩
        · have h5i : ¬ (50 : Int) < (i : Int) := by omega
          have H45 := Lib.hid (And.intro h4 h5)
          clear h4 h5
          go_wp2_with fail
          go_round
          case rel => exact ⟨i + 1, t + m, by go_num, by go_num, by have := HII.out; omega, by have := H45.out; omega, by have := H45.out; omega, HT⟩
          case measure => have := HII.out; simp [intOf]; omega
    · have hik : ¬ (i : Int) < (n : Int) := by omega
      have HII := Lib.hid (show i = rs.length ∧ i ≤ 51 ∧ t ≤ 400 from ⟨by have := HN.out; omega, hi51, ht⟩)
      clear hlt
      go_wp2_with fail
      go_ret
      refine ⟨false, rfl, rfl, fun _ => ⟨by have := HII.out; omega, ?_⟩⟩
      have h1 := htt.out
      rw [List.take_of_length_le (by have := HII.out; omega)] at h1
      have := HII.out
      omega
end Go.Proofs.YtaedmafmflohiaaDoor
namespace Go.Proofs.YtaedmafmflohiaaDoor
open Go.RowKit

theorem infoRow : (Tryd.prog.info? 26).map (fun i => (i.zero, i.size, i.bytes)) = some (some (.slice none 0 0), 1, 24) := by kernel_rfl
/-- A row of rows of one's own, as it grows. -/
structure RB (w wr : World) (A : Option Addr) (c : Nat) (rs : List Ro) : Prop where
  own : wr.ownsRow 0 26 1 (.slice A rs.length c) rs.length (rs.map Ro.cell)
  fr : ∀ a, A = some a → w.heap.size ≤ a.block
  rd : ∀ r ∈ rs, Rd wr r.A r.es.length 3 (encEn r.es) ∧ (∀ a, r.A = some a → w.heap.size ≤ a.block ∧ a.block < wr.heap.size ∧ a.block ∉ blk A) ∧ r.es.length ≤ r.c
  kp : Keeps [] w wr
theorem RB.nil (w : World) : RB w w none 0 [] := ⟨World.ownsRow_nil _ _ _ _, by simp, by simp, Keeps.refl [] w⟩
theorem RB.keeps0 {w wr wr' : World} {A : Option Addr} {c : Nat} {rs : List Ro} (h : RB w wr A c rs) (hk : Keeps [] wr wr') : RB w wr' A c rs :=
  ⟨ownsRow_keeps h.own hk (by simp), h.fr, fun r hr => ⟨(h.rd r hr).1.keeps0 hk, fun a ha => ⟨((h.rd r hr).2.1 a ha).1, Nat.lt_of_lt_of_le ((h.rd r hr).2.1 a ha).2.1 hk.size, ((h.rd r hr).2.1 a ha).2.2⟩, (h.rd r hr).2.2⟩, h.kp.trans hk (by simp)⟩
theorem RB.since {w0 w wr : World} {A : Option Addr} {c : Nat} {rs : List Ro} (h : RB w wr A c rs) (hk : Keeps [] w0 w) : RB w0 wr A c rs :=
  ⟨h.own, fun a ha => Nat.le_trans hk.size (h.fr a ha), fun r hr => ⟨(h.rd r hr).1, fun a ha => ⟨Nat.le_trans hk.size ((h.rd r hr).2.1 a ha).1, ((h.rd r hr).2.1 a ha).2⟩, (h.rd r hr).2.2⟩, hk.trans h.kp (by simp)⟩
theorem RB.rows {w wr : World} {A : Option Addr} {c : Nat} {rs : List Ro} (h : RB w wr A c rs) : Rd wr A rs.length 1 (rs.map Ro.cell) := Rd.of_own h.own
theorem RB.rdl {w wr : World} {A : Option Addr} {c : Nat} {rs : List Ro} (h : RB w wr A c rs) (hl : ∀ r ∈ rs, r.es.length ≤ 1000) : RdL wr A rs := ⟨h.rows, fun r hr => ⟨(h.rd r hr).1, hl r hr⟩⟩
theorem RB.lt {w wr : World} {A : Option Addr} {c : Nat} {rs : List Ro} (h : RB w wr A c rs) : ∀ a, A = some a → a.block < wr.heap.size := fun a ha => by
  rcases h.own.2 with ⟨e2, _⟩ | ⟨g, cap, cur, hv, hb, hh, _⟩
  · rw [ha] at e2; cases e2
  · rw [ha] at hv
    injection hv with e3 _ _
    injection e3 with e3
    rw [e3]
    exact lt_of_block hh
theorem RB.add {w w2 w3 w4 : World} {A A2 A4 : Option Addr} {c c2 c4 : Nat} {rs : List Ro} {es : List En} {n : Nat} (h : RB w w2 A c rs) (h2 : Rd w2 A2 es.length 3 (encEn es)) (hc : es.length ≤ c2) (hf2 : ∀ a, A2 = some a → w.heap.size ≤ a.block ∧ a.block < w2.heap.size ∧ a.block ∉ blk A)
    (hk3 : Keeps [] w2 w3) (hn : n = rs.length) (h4 : w4.ownsRow 0 26 1 (.slice A4 (n + 1) c4) (n + 1) (rs.map Ro.cell ++ [.slice A2 es.length c2])) (hk4 : Keeps (blk A) w3 w4) (hf4 : ∀ a, A4 = some a → a.block ∈ blk A ∨ w3.heap.size ≤ a.block) :
    RB w w4 A4 c4 (rs ++ [⟨A2, c2, es⟩]) := by
  subst hn
  have s3 := hk3.size
  have s0 := h.kp.size
  have k24 : Keeps (blk A) w2 w4 := (hk3.mono (by simp)).trans hk4 (fun t ht => .inl ht)
  have hA : ∀ a, A = some a → w.heap.size ≤ a.block := h.fr
  have hin : ∀ {a b : Addr}, a.block < w2.heap.size → a.block ∉ blk A → A4 = some b → a.block ≠ b.block := fun {a b} h1 h2 h3 e => by
    rcases hf4 b h3 with h4 | h4
    · rw [← e] at h4; exact h2 h4
    · omega
  have hin2 : ∀ {a : Addr}, a.block < w2.heap.size → a.block ∉ blk A → a.block ∉ blk A4 := fun {a} h1 h2 hm => by
    obtain ⟨b, e1, e2⟩ := mem_blk.1 hm
    exact hin h1 h2 e1 e2.symm
  refine ⟨?_, fun a ha => ?_, fun r hr => ?_, h.kp.trans k24 (fun t ht => .inr ?_)⟩
  · simpa [Ro.cell] using h4
  · rcases hf4 a ha with h5 | h5
    · obtain ⟨b, e1, e2⟩ := mem_blk.1 h5
      rw [← e2]; exact hA b e1
    · omega
  · rcases List.mem_append.1 hr with h6 | h6
    · obtain ⟨h7, h8, h9⟩ := h.rd r h6
      exact ⟨h7.keeps k24 (fun a ha hp => (h8 a ha).2.2), fun a ha => ⟨(h8 a ha).1, Nat.lt_of_lt_of_le (h8 a ha).2.1 k24.size, hin2 (h8 a ha).2.1 (h8 a ha).2.2⟩, h9⟩
    · obtain rfl := List.mem_singleton.1 h6
      exact ⟨h2.keeps k24 (fun a ha hp => (hf2 a ha).2.2), fun a ha => ⟨(hf2 a ha).1, Nat.lt_of_lt_of_le (hf2 a ha).2.1 k24.size, hin2 (hf2 a ha).2.1 (hf2 a ha).2.2⟩, hc⟩
  · obtain ⟨b, e1, e2⟩ := mem_blk.1 ht
    rw [← e2]; exact hA b e1
theorem rd_row1 {w : World} {g n : Nat} {T : TypeId} {xs : List Value} {fr : Nat × Nat} (h : w.heap[g]? = some (.cells xs.toArray T fr)) (hn : xs.length = n) : Rd w (some ⟨g, 0, none⟩) n 1 xs :=
  ⟨by simp [hn], fun _ => ⟨_, rfl, fun j u hu => by rw [Addr.add_lit, Nat.zero_add, cell_of_row _ _ _ _ _ _ h, List.getElem?_toArray]; exact hu⟩⟩
set_option maxHeartbeats 4000000 in
theorem owns_any (A : Option Addr) (c : Nat) (rs : List Ro) (w : World) (h : RdL w A rs) (hl : rs.length ≤ 1000) :
    Calls Tryd.prog 7 #[.slice A rs.length c] w fun r w' => ∃ A' c' rs', r = .returned (.slice A' rs'.length c') ∧ RB w w' A' c' rs' ∧ rs'.map Ro.es = rs.map Ro.es := by
  have HR := Lib.hid h
  obtain ⟨n, hn⟩ : ∃ n, n = rs.length := ⟨_, rfl⟩
  have HN := Lib.hid hn
  rw [← hn] at hl ⊢
  clear h hn
  go_enter Tryd.func7, Tryd.ntmps7
  go_wp2_with fail
  go_loopw [3, 4] (fun so si wr => ∃ (i : Nat) (A' : Option Addr) (c' : Nat), si = .int .i64 i ∧ so = .slice A' i c' ∧ i ≤ n ∧ Hid (∃ rs', rs'.map Ro.es = (rs.map Ro.es).take i ∧ RB w wr A' c' rs')) (fun _ si _ => n - (intOf si).toNat)
  case atStart => exact ⟨0, none, 0, rfl, rfl, Nat.zero_le _, ⟨[], rfl, RB.nil w⟩⟩
  case round =>
    obtain ⟨i, A1, c1, rfl, rfl, hi, D⟩ := hrel
    by_cases hin : i < n
    · have hini : (i : Int) < (n : Int) := by omega
      have HIL := Lib.hid (show i < rs.length from by have := HN.out; omega)
      obtain ⟨rs1, hrs1⟩ := D.out
      have D1 := Lib.hid hrs1
      clear hrs1 D
      obtain ⟨gl, ol, rfl, x0⟩ := (HR.out.keeps0 D1.out.2.kp).at_ HIL.out
      obtain ⟨ro, hro⟩ : ∃ ro, ro = rs[i]'(HIL.out) := ⟨_, rfl⟩
      rw [← hro] at x0
      have HRO := Lib.hid (show ro ∈ rs ∧ (rs.map Ro.es)[i]? = some ro.es from by rw [hro]; exact ⟨List.getElem_mem _, by rw [List.getElem?_map, List.getElem?_eq_getElem HIL.out]; rfl⟩)
      clear hro hin
      go_wp2_with fail
      refine (own_en4 ro.A ro.c ro.es wr ((HR.out.2 ro HRO.out.1).1.keeps0 D1.out.2.kp) (by have := (HR.out.2 ro HRO.out.1).2; omega)).mono ?_
      rintro r w2 ⟨A2, c2, rfl, ho2, hk2, hf2⟩
      have HB2 := Lib.hid (show RB w w2 A1 c1 rs1 ∧ Rd w2 A2 ro.es.length 3 (encEn ro.es) ∧ ro.es.length ≤ c2 ∧ (∀ a, A2 = some a → w.heap.size ≤ a.block ∧ a.block < w2.heap.size ∧ a.block ∉ blk A1) ∧ rs1.length = i from
        ⟨D1.out.2.keeps0 hk2, Rd.of_own ho2, own_cap3 ho2, fun a ha => ⟨Nat.le_trans D1.out.2.kp.size (hf2 a ha), ownsRow_lt ho2 a ha, fun hm => by
          obtain ⟨b, e1, e2⟩ := mem_blk.1 hm
          have := D1.out.2.lt b e1
          have := hf2 a ha
          omega⟩, by have h1 := congrArg List.length D1.out.1; rw [List.length_map, List.length_take, List.length_map] at h1; have := HIL.out; omega⟩)
      have HT := Lib.hid (show rs1.map Ro.es ++ [ro.es] = (rs.map Ro.es).take (i + 1) from by
        rw [D1.out.1, List.take_succ_eq_append_getElem (by rw [List.length_map]; exact HIL.out)]
        congr 2
        have := HRO.out.2
        rw [List.getElem?_eq_getElem (by rw [List.length_map]; exact HIL.out)] at this
        injection this with this
        exact this.symm)
      have hown := HB2.out.1.own
      rw [HB2.out.2.2.2.2] at hown
      have HO := Lib.hid hown
      clear ho2 hk2 hf2 D1 x0 hown
      go_wp2_with (at_builtin; refine wpList_appendV rfl (.tmp 11) (.tmp 17) 22 26 rfl Tryd.underlying22 _ 1 24 infoRow rfl (by decide) A1 c1 i (rs1.map Ro.cell) rfl (ownsRow_keeps HO.out ((Keeps.refl [] w2).alloc _) (by simp)) (some ⟨w2.heap.size, 0, none⟩) 1 1 [.slice A2 ro.es.length c2] rfl (rd_row1 (xs := [.slice A2 ro.es.length c2]) (heap_alloc_new _ _) rfl) (by intro u hu; rw [List.mem_singleton] at hu; subst hu; rfl) (by unfold maxLen; omega) (by omega) ?_; intro A4 c4 w4 ho hk hb; have D4 := Lib.hid (RB.add HB2.out.1 HB2.out.2.1 HB2.out.2.2.1 HB2.out.2.2.2.1 ((Keeps.refl [] w2).alloc _) HB2.out.2.2.2.2.symm ho hk hb); clear ho hk hb)
      go_roundw
      case rel => exact ⟨i + 1, A4, c4, by go_num, rfl, by have := HIL.out; have := HN.out; omega, ⟨_, by rw [List.map_append]; exact HT.out, D4.out⟩⟩
      case measure => have := HIL.out; have := HN.out; simp [intOf]; omega
    · have hini : ¬ (i : Int) < (n : Int) := by omega
      have HIN := Lib.hid (show i = rs.length from by have := HN.out; omega)
      clear hin
      go_wp2_with fail
      go_ret
      obtain ⟨rs1, h1, h2⟩ := D.out
      have h3 : rs1.map Ro.es = rs.map Ro.es := by rw [h1, List.take_of_length_le (by rw [List.length_map, HIN.out]; exact Nat.le_refl _)]
      have h4 : rs1.length = i := by rw [HIN.out]; have := congrArg List.length h3; simpa using this
      exact ⟨A1, c1, rs1, by rw [h4]; rfl, h2, h3⟩
end Go.Proofs.YtaedmafmflohiaaDoor
namespace Go.Proofs.YtaedmafmflohiaaDoor
open Go.RowKit

def rowE (es : List En) : List En := es.foldl putE []
theorem putE_keys {m : List En} (hm : Srt m) (e : En) (key : List UInt8) : (∃ x ∈ putE m e, x.k = key) ↔ e.k = key ∨ ∃ x ∈ m, x.k = key := by
  constructor
  · rintro ⟨x, hx, rfl⟩
    rcases (mem_putE hm e x).1 hx with rfl | ⟨h1, _⟩
    · exact .inl (En.norm_k e).symm
    · exact .inr ⟨x, h1, rfl⟩
  · rintro (h | ⟨x, h1, h2⟩)
    · exact ⟨e.norm, (mem_putE hm e _).2 (.inl rfl), by rw [En.norm_k]; exact h⟩
    · by_cases hk : x.k = e.k
      · exact ⟨e.norm, (mem_putE hm e _).2 (.inl rfl), by rw [En.norm_k, ← hk]; exact h2⟩
      · exact ⟨x, (mem_putE hm e _).2 (.inr ⟨h1, hk⟩), h2⟩
theorem foldl_keys (key : List UInt8) : ∀ (es m : List En), Srt m → ((∃ x ∈ es.foldl putE m, x.k = key) ↔ (∃ x ∈ es, x.k = key) ∨ ∃ x ∈ m, x.k = key)
  | [], m, _ => by simp
  | e :: es, m, hm => by
    rw [List.foldl_cons, foldl_keys key es _ (putE_srt hm e), putE_keys hm e key]
    simp only [List.mem_cons, exists_eq_or_imp]
    constructor
    · rintro (h | h | h)
      · exact .inl (.inr h)
      · exact .inl (.inl h)
      · exact .inr h
    · rintro ((h | h) | h)
      · exact .inr (.inl h)
      · exact .inl h
      · exact .inr (.inr h)
theorem srt_nodup {a : List En} (ha : Srt a) : (a.map En.k).Nodup := by
  unfold List.Nodup
  rw [List.pairwise_map]
  exact List.Pairwise.imp (fun h e => by rw [e, bl_same] at h; cases h) ha
theorem same_len {a b : List En} (ha : Srt a) (hb : Srt b) (h : ∀ key, (∃ x ∈ a, x.k = key) ↔ ∃ x ∈ b, x.k = key) : a.length = b.length := by
  have hp : (a.map En.k).Perm (b.map En.k) := (List.perm_ext_iff_of_nodup (srt_nodup ha) (srt_nodup hb)).2 (fun key => by simpa using h key)
  simpa using hp.length_eq
theorem refM_keys (key : List UInt8) : ∀ (Ls : List (List En)), (∃ x ∈ refM Ls, x.k = key) ↔ ∃ es ∈ Ls, ∃ x ∈ es, x.k = key
  | [] => by simp [refM]
  | es :: Ls => by
    show (∃ x ∈ es.foldl putE (refM Ls), x.k = key) ↔ _
    rw [foldl_keys key es _ (refM_srt Ls), refM_keys key Ls]
    simp only [List.mem_cons, exists_eq_or_imp]
theorem rowE_srt (es : List En) : Srt (rowE es) := foldl_srt es _ List.Pairwise.nil
theorem newest_len (Ls : List (List En)) : (refM (Ls.map rowE)).length = (rowE Ls.flatten).length := by
  refine same_len (refM_srt _) (rowE_srt _) (fun key => ?_)
  rw [refM_keys, rowE, foldl_keys key _ _ List.Pairwise.nil]
  simp only [List.not_mem_nil, false_and, exists_false, or_false, List.mem_flatten]
  constructor
  · rintro ⟨es', h1, h2⟩
    obtain ⟨es, h0, rfl⟩ := List.mem_map.1 h1
    rw [rowE, foldl_keys key _ _ List.Pairwise.nil] at h2
    simp only [List.not_mem_nil, false_and, exists_false, or_false] at h2
    obtain ⟨x, h3, h4⟩ := h2
    exact ⟨x, ⟨es, h0, h3⟩, h4⟩
  · rintro ⟨x, ⟨es, h1, h3⟩, h4⟩
    refine ⟨rowE es, List.mem_map_of_mem h1, ?_⟩
    rw [rowE, foldl_keys key _ _ List.Pairwise.nil]
    exact .inl ⟨x, h3, h4⟩
theorem norm_norm (e : En) : e.norm.norm = e.norm := by
  unfold En.norm
  by_cases h : e.g = true
  · simp [h]
  · simp [h]
theorem foldl_norm : ∀ (es m : List En), Srt m → (∀ x ∈ m, x.norm = x) → ∀ x ∈ es.foldl putE m, x.norm = x
  | [], _, _, h => h
  | e :: es, m, hm, h => foldl_norm es _ (putE_srt hm e) (fun x hx => by
    rcases (mem_putE hm e x).1 hx with rfl | ⟨h1, _⟩
    · exact norm_norm e
    · exact h x h1)
theorem rowE_norm (es : List En) : ∀ x ∈ rowE es, x.norm = x := foldl_norm es [] List.Pairwise.nil (by simp)
/-- The first row that has its key has it. -/
theorem newest_first {Ls : List (List En)} {M : List En} (h : IsM (Ls.map rowE) M) {x : En} (hx : x ∈ M) : ∃ r, r < Ls.length ∧ (∀ es, Ls[r]? = some es → getE (rowE es) x.k = some x) ∧ ∀ r', r' < r → ∀ es, Ls[r']? = some es → getE (rowE es) x.k = none := by
  obtain ⟨r, es, e, h1, h2, h3, h4⟩ := (h.2 x).1 hx
  rw [List.getElem?_map] at h1
  obtain ⟨es0, h5, rfl⟩ := Option.map_eq_some_iff.1 h1
  have hxe : x = e := by rw [h3]; exact rowE_norm es0 e h2
  subst hxe
  refine ⟨r, (List.getElem?_eq_some_iff.1 h5).1, fun es h6 => ?_, fun r' hr es h6 => ?_⟩
  · rw [h5] at h6
    injection h6 with h6
    subst h6
    exact (getE_mem (rowE_srt _) _ _).2 ⟨h2, rfl⟩
  · rw [getE_none]
    intro y hy
    exact h4 r' (rowE es) y hr (by rw [List.getElem?_map, h6]; rfl) hy
theorem foldl_step (m : List En) {es : List En} {k : Nat} (h : k < es.length) : (es.take (k + 1)).foldl putE m = putE ((es.take k).foldl putE m) es[k] := by
  rw [List.take_succ_eq_append_getElem h, List.foldl_append]
  rfl
theorem rowE_step {es : List En} {k : Nat} (h : k < es.length) : rowE (es.take (k + 1)) = putE (rowE (es.take k)) es[k] := foldl_step [] h
theorem rowE_len (es : List En) : (rowE es).length ≤ es.length := by
  have h1 : ∀ (es m : List En), (es.foldl putE m).length ≤ es.length + m.length := fun es => by
    induction es with
    | nil => intro m; simp
    | cons e es ih =>
      intro m
      have := ih (putE m e)
      rw [putE_len] at this
      rw [List.foldl_cons, List.length_cons]
      split at this <;> omega
  exact h1 es []
end Go.Proofs.YtaedmafmflohiaaDoor
namespace Go.Proofs.YtaedmafmflohiaaDoor
open Go.RowKit

/-- A row of entries apart from a row of rows. -/
structure ApR (w wr : World) (A : Option Addr) (X : Option Addr) (c : Nat) (l : List En) : Prop where
  rd : Rd wr X l.length 3 (encEn l)
  cap : l.length ≤ c
  ap : ∀ a, X = some a → w.heap.size ≤ a.block ∧ a.block < wr.heap.size ∧ a.block ∉ blk A
theorem ApR.nil (w wr : World) (A : Option Addr) : ApR w wr A none 0 [] := ⟨Rd.of_own (World.ownsRow_nil _ 0 39 3), Nat.le_refl _, by simp⟩
theorem ApR.keeps0 {w wr wr' : World} {A X : Option Addr} {c : Nat} {l : List En} (h : ApR w wr A X c l) (hk : Keeps [] wr wr') : ApR w wr' A X c l :=
  ⟨h.rd.keeps0 hk, h.cap, fun a ha => ⟨(h.ap a ha).1, Nat.lt_of_lt_of_le (h.ap a ha).2.1 hk.size, (h.ap a ha).2.2⟩⟩
theorem RB.new {w wr w' : World} {A : Option Addr} {c : Nat} {rs : List Ro} {l : List En} {r : Ending} (h : RB w wr A c rs) (hn : NewEn l wr r w') : ∃ X d, r = .returned (.slice X l.length d) ∧ ApR w w' A X d l ∧ Keeps [] wr w' := by
  obtain ⟨X, d, h1, h2, h3, h4⟩ := hn
  refine ⟨X, d, h1, ⟨Rd.of_own h2, own_cap3 h2, fun a ha => ⟨Nat.le_trans h.kp.size (h4 a ha), ownsRow_lt h2 a ha, fun hm => ?_⟩⟩, h3⟩
  obtain ⟨b, e1, e2⟩ := mem_blk.1 hm
  have := h.lt b e1
  have := h4 a ha
  omega
theorem ApR.add {w w2 w3 w4 : World} {A A4 X : Option Addr} {c : Nat} {l : List En} (h : ApR w w2 A X c l) (hk3 : Keeps [] w2 w3) (hk4 : Keeps (blk A) w3 w4) (hf4 : ∀ a, A4 = some a → a.block ∈ blk A ∨ w3.heap.size ≤ a.block) : ApR w w4 A4 X c l := by
  have s3 := hk3.size
  have k24 : Keeps (blk A) w2 w4 := (hk3.mono (by simp)).trans hk4 (fun t ht => .inl ht)
  refine ⟨h.rd.keeps k24 (fun a ha _ => (h.ap a ha).2.2), h.cap, fun a ha => ⟨(h.ap a ha).1, Nat.lt_of_lt_of_le (h.ap a ha).2.1 k24.size, fun hm => ?_⟩⟩
  obtain ⟨b, e1, e2⟩ := mem_blk.1 hm
  rcases hf4 b e1 with h4 | h4
  · rw [e2] at h4; exact (h.ap a ha).2.2 h4
  · have := (h.ap a ha).2.1
    omega
/-- Rows put so far, what was seen, the row at hand. -/
structure NX (w wr : World) (A : Option Addr) (c : Nat) (rs : List Ro) (S : Option Addr) (sc : Nat) (sl : List En) (X : Option Addr) (xc : Nat) (xl : List En) : Prop where
  rb : RB w wr A c rs
  s : ApR w wr A S sc sl
  x : ApR w wr A X xc xl
theorem NX.keeps0 {w wr wr' : World} {A : Option Addr} {c : Nat} {rs : List Ro} {S : Option Addr} {sc : Nat} {sl : List En} {X : Option Addr} {xc : Nat} {xl : List En} (h : NX w wr A c rs S sc sl X xc xl) (hk : Keeps [] wr wr') : NX w wr' A c rs S sc sl X xc xl := ⟨h.rb.keeps0 hk, h.s.keeps0 hk, h.x.keeps0 hk⟩
theorem NX.putx {w wr w' : World} {A : Option Addr} {c : Nat} {rs : List Ro} {S : Option Addr} {sc : Nat} {sl : List En} {X : Option Addr} {xc : Nat} {xl l : List En} {r : Ending} (h : NX w wr A c rs S sc sl X xc xl) (hn : NewEn l wr r w') : ∃ X' xc', r = .returned (.slice X' l.length xc') ∧ NX w w' A c rs S sc sl X' xc' l := by
  obtain ⟨X', d, h1, h2, h3⟩ := h.rb.new hn
  exact ⟨X', d, h1, h.rb.keeps0 h3, h.s.keeps0 h3, h2⟩
theorem NX.puts {w wr w' : World} {A : Option Addr} {c : Nat} {rs : List Ro} {S : Option Addr} {sc : Nat} {sl : List En} {X : Option Addr} {xc : Nat} {xl l : List En} {r : Ending} (h : NX w wr A c rs S sc sl X xc xl) (hn : NewEn l wr r w') : ∃ S' sc', r = .returned (.slice S' l.length sc') ∧ NX w w' A c rs S' sc' l X xc xl := by
  obtain ⟨X', d, h1, h2, h3⟩ := h.rb.new hn
  exact ⟨X', d, h1, h.rb.keeps0 h3, h2, h.x.keeps0 h3⟩
theorem NX.add {w w2 w3 w4 : World} {A A4 : Option Addr} {c c4 : Nat} {rs : List Ro} {S : Option Addr} {sc : Nat} {sl : List En} {X : Option Addr} {xc : Nat} {xl : List En} {n m : Nat} (h : NX w w2 A c rs S sc sl X xc xl)
    (hk3 : Keeps [] w2 w3) (hn : n = rs.length) (hm : m = xl.length) (h4 : w4.ownsRow 0 26 1 (.slice A4 (n + 1) c4) (n + 1) (rs.map Ro.cell ++ [.slice X m xc])) (hk4 : Keeps (blk A) w3 w4) (hf4 : ∀ a, A4 = some a → a.block ∈ blk A ∨ w3.heap.size ≤ a.block) :
    RB w w4 A4 c4 (rs ++ [⟨X, xc, xl⟩]) ∧ ApR w w4 A4 S sc sl :=
  ⟨h.rb.add h.x.rd h.x.cap h.x.ap hk3 hn (by rw [← hm]; exact h4) hk4 hf4, h.s.add hk3 hk4 hf4⟩
theorem flat_le {Ls : List (List En)} {i k : Nat} (h : i < Ls.length) : ((Ls.take i).flatten ++ Ls[i].take k).length ≤ (Ls.map List.length).sum := by
  have h1 : Ls.flatten = (Ls.take i).flatten ++ (Ls[i] ++ (Ls.drop (i + 1)).flatten) := by
    conv => lhs; rw [← List.take_append_drop i Ls, List.flatten_append, List.drop_eq_getElem_cons h, List.flatten_cons]
  have h2 : (Ls[i].take k).length ≤ Ls[i].length := by rw [List.length_take]; omega
  rw [← List.length_flatten, h1]
  simp only [List.length_append]
  omega
theorem flat_take_le (Ls : List (List En)) (i : Nat) : ((Ls.take i).flatten).length ≤ (Ls.map List.length).sum := by
  rw [← List.length_flatten]
  conv => rhs; rw [← List.take_append_drop i Ls, List.flatten_append, List.length_append]
  omega
theorem keepE_false (l : List En) : keepE false l = l := by
  unfold keepE
  simp
end Go.Proofs.YtaedmafmflohiaaDoor
