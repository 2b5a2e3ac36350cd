/- The parts that tell a block by another one: the walk. DERIVED: THE SHELF's CONTRACTS AT THIS DUMP, IN PLAIN WORDS (tools/lay-plain.mjs out of 'TrydShelf.lean', which tools/lay-shelf.mjs wrote): THE SAME DECLARATIONS UNDER THE SAME NAMES: 'import', 'namespace', 'open', 'def', 'theorem' AND NOTHING ELSE: no command of the shelf's: FOR A HAND-IN. Each laying: the table of numbers ('.._ren') and one theorem, a field a fact of the dump's own or the kernel's comparison; each contract: ONE APPLICATION. Numbers as bytes whose first one tells how many: plain numbers, no program is named here. -/
import Derived.Test.YtljinghhalcnnaaDoorQDeltaReads5
import Derived.Deep.DeepCutAuto
import Derived.Shelf.Small.Bits
import Derived.Shelf.Strconv.Itoa0
import Derived.Test.YtljinghhalcnnaaDoorProg
import Derived.Test.YtljinghhalcnnaaDoorQDeltaReads1
import Derived.Lib.ItoaNum
namespace Go.Proofs.YtljinghhalcnnaaDoor
open Go.RowKit

theorem Rd.lit4 {w : World} {g : Nat} {T : TypeId} {xs : List Value} {fr : Nat × Nat} (h : w.heap[g]? = some (.cells xs.toArray T fr)) (hn : xs.length = 4 := by rfl) : Rd w (some ⟨g, 0, none⟩) 1 4 xs :=
  ⟨by simp [hn], fun _ => ⟨_, rfl, fun j u hu => by rw [Addr.add_lit, Nat.zero_add, cell_of_row _ _ _ _ _ _ h, List.getElem?_toArray]; exact hu⟩⟩
theorem OpI.cpAt {w wr : World} {gA c : Nat} {us : List Pt} {t : Pt} (x : OpI w wr (some ⟨gA, 0, none⟩) c (us ++ [t])) : wr.cell? ⟨gA, us.length * 4, none⟩ = some (.bool t.p.cp) := by
  rw [World.ownsRow.cellAt x.own _ (by rw [List.length_append, List.length_singleton]; omega), encPt_append, List.getElem?_append_right (by rw [encPt_len]; omega), encPt_len, show us.length * 4 - us.length * 4 = 0 from by omega]
  rfl
theorem OgI.after {w wr w6 : World} {g h : Nat} {base target : List UInt8} {a gA c : Nat} {l : List Pa} {ts : List Pt} {t : Pt} (o : OgI w wr g h base target a gA c l ts t) (hk : Keeps (blk t.A) wr w6) :
    (∀ j v, wr.cell? ⟨gA, j, none⟩ = some v → w6.cell? ⟨gA, j, none⟩ = some v) ∧ (∀ j v, wr.cell? ⟨h, j, none⟩ = some v → w6.cell? ⟨h, j, none⟩ = some v) ∧ ∀ j, w6.frozen? ⟨gA, j, none⟩ = false := by
  have hgt : gA ∉ blk t.A := fun hm => by
    obtain ⟨x, e1, e2⟩ := mem_blk.1 hm
    have := ((o.op.rd t (by simp)).2 x e1).2
    simp [blk] at this
    exact this e2
  have hgh : h ∉ blk t.A := fun hm => by
    obtain ⟨x, e1, e2⟩ := mem_blk.1 hm
    exact (o.ap.2 t (by simp) x e1).2 e2
  exact ⟨fun j v hc => hk.cell hc (by simpa using hgt), fun j v hc => hk.cell hc (by simpa using hgh), fun j => World.ownsRow.frozenAt (ownsRow_keeps o.op.own hk (fun x hx => by cases hx; exact hgt)) j⟩
theorem infoBlk : (Tryd.prog.info? 23).map (·.size) = some 64 := by kernel_rfl
set_option maxRecDepth 100000 in
set_option maxHeartbeats 8000000 in
theorem ops_any (base target : List UInt8) (hb : base.length = 64) (ht : target.length = 64) (w : World) :
    Calls Tryd.prog 17 #[.agg (encB base).toArray, .agg (encB target).toArray] w (OpsP base target w) := by
  have HL := Lib.hid (And.intro hb ht)
  obtain ⟨bs, hbs⟩ : ∃ bs, bs = (encB base).toArray := ⟨_, rfl⟩
  obtain ⟨ts0, hts⟩ : ∃ ts, ts = (encB target).toArray := ⟨_, rfl⟩
  obtain ⟨g, hg⟩ : ∃ g, g = w.heap.size := ⟨_, rfl⟩
  obtain ⟨gh, hh⟩ : ∃ gh, gh = w.heap.size + 1 := ⟨_, rfl⟩
  obtain ⟨W, hW⟩ : ∃ W, W = (w.alloc (.cells bs 23)).alloc (.cells ts0 23) := ⟨_, rfl⟩
  have HB := Lib.hid (show Bx w W g gh base target from by
    refine ⟨?_, ?_, ?_⟩
    · rw [hW, hg, hbs]; exact heap_alloc2_old _ _ _
    · rw [hW, hh, hts]; exact heap_alloc2_new _ _ _
    · rw [hW]; exact ((Keeps.refl [] w).alloc _).alloc _)
  have HW := Lib.hid (show W = (w.alloc (.cells bs 23)).alloc (.cells ts0 23) ∧ gh = w.heap.size + 1 ∧ g = w.heap.size from ⟨hW, hh, hg⟩)
  have HBS := Lib.hid (show bs = (encB base).toArray ∧ ts0 = (encB target).toArray from ⟨hbs, hts⟩)
  have HIA := Lib.hid (show (Tryd.prog.info? 23).map (·.size) = some bs.size from by rw [hbs, List.size_toArray, length_encB, hb]; exact infoBlk)
  have HIB := Lib.hid (show (Tryd.prog.info? 23).map (·.size) = some ts0.size from by rw [hts, List.size_toArray, length_encB, ht]; exact infoBlk)
  rw [← hbs, ← hts]
  clear hb ht hbs hts hg hh hW
  go_enter Tryd.func17, Tryd.ntmps17
  go_upto_region 1 with fail
  rw [← HW.out.1, ← HW.out.2.1, ← HW.out.2.2]
  go_wp2_with fail
  go_loopw [5, 6] (fun s5 s6 wr => ∃ (a : Nat) (A : Option Addr) (c : Nat) (ts : List Pt), s6 = .int .i64 a ∧ s5 = .slice A ts.length c ∧ Hid (OsI w wr g gh base target a A c ts)) (fun _ s6 _ => 64 - (intOf s6).toNat)
  case atStart => exact ⟨0, none, 0, [], rfl, rfl, ⟨OpI.nil w W HB.out.kp, HB.out, ⟨by omega, by simp, by simp⟩, ⟨64, by omega, rfl⟩, by simp, by simp⟩⟩
  case round =>
    obtain ⟨a, A, c, ts, rfl, rfl, D⟩ := hrel
    by_cases ha : a < 64
    · have hai : (a : Int) < 64 := by omega
      have HA := Lib.hid ha
      obtain ⟨m1, hm1⟩ : ∃ m1, m1 = (mat base target a).1 := ⟨_, rfl⟩
      obtain ⟨m2, hm2⟩ : ∃ m2, m2 = (mat base target a).2 := ⟨_, rfl⟩
      have HM := Lib.hid (show m1 = (mat base target a).1 ∧ m2 = (mat base target a).2 ∧ m1 ≤ 64 ∧ a + m2 ≤ 64 from ⟨hm1, hm2, by rw [hm1]; exact (mat_len base target HL.out.1 HL.out.2 a (by omega)).1, by rw [hm2]; exact (mat_len base target HL.out.1 HL.out.2 a (by omega)).2⟩)
      have HMI := Lib.hid (show matI base target (a : Int) = (m1, m2) from by unfold matI; rw [if_neg (by omega), hm1, hm2]; rfl)
      clear ha hm1 hm2
      go_wp2_with (first
        | (refine wpList_load_row rfl 23 (.tmp 2) rfl g rfl 23 bs (0, 0) _ (by rw [HBS.out.1]; exact D.out.bx.b) Tryd.underlying23 rfl HIA.out ?_)
        | (refine wpList_load_row rfl 23 (.tmp 3) rfl gh rfl 23 ts0 (0, 0) _ (by rw [HBS.out.2]; exact D.out.bx.t) Tryd.underlying23 rfl HIB.out ?_))
      have HC := match_any base target HL.out.1 HL.out.2 (a : Int) wr
      rw [HMI.out, ← HBS.out.1, ← HBS.out.2] at HC
      refine HC.mono ?_
      clear HC
      rintro r w1 ⟨rfl, hk1⟩
      have D1 := Lib.hid (D.out.keeps0 hk1)
      clear hk1 D HMI
      by_cases h4 : 4 ≤ m2
      · have h4i : (4 : Int) ≤ (m2 : Int) := by omega
        have H4 := Lib.hid h4
        obtain ⟨n, hn⟩ : ∃ n, n = ts.length := ⟨_, rfl⟩
        have HN := Lib.hid (show n = ts.length ∧ n ≤ 64 ∧ m2 ≤ 64 from ⟨hn, by have := D1.out.le; omega, by have := HM.out; omega⟩)
        rw [← hn]
        clear h4 hn
        go_wp2_with (at_builtin; refine wpList_appendV rfl (.tmp 21) (.tmp 25) 27 50 rfl Tryd.underlying27 _ 4 48 infoOp rfl (by decide) A c n (encPt ts) rfl (by rw [HN.out.1]; exact ownsRow_keeps D1.out.op.own ((Keeps.refl [] w1).alloc _) (by simp)) (some ⟨w1.heap.size, 0, none⟩) 1 1 (Pt.cells ⟨⟨true, m1, m2, []⟩, none, 0⟩) rfl (Rd.lit4 (heap_alloc_new _ _)) (Pt.one _) (by have := HN.out; unfold maxLen; omega) (by have := HN.out; omega) ?_; intro A4 c4 w4 ho hk hf; have D4 := Lib.hid (OsI.add (t := ⟨⟨true, m1, m2, []⟩, none, 0⟩) D1.out rfl rfl rfl ((Keeps.refl [] w1).alloc _) HN.out.1 ho hk hf); clear ho hk hf)
        have D5 := Lib.hid (show OsI w w4 g gh base target (a + m2) A4 c4 (ts ++ [⟨⟨true, m1, m2, []⟩, none, 0⟩]) from by
          have h1 := D1.out.le
          have h2 := HM.out
          have h3 := H4.out
          have h4 := HA.out
          refine ⟨D4.out.1, D4.out.2.1, ⟨h2.2.2.2, by rw [List.length_append, List.length_singleton]; omega, fun t ht => ?_⟩, ?_, D4.out.2.2⟩
          · rcases List.mem_append.1 ht with h5 | h5
            · have := h1.2.2 t h5; omega
            · obtain rfl := List.mem_singleton.1 h5
              exact Nat.zero_le _
          · obtain ⟨f, hf1, hf2⟩ := D1.out.run
            cases f with
            | zero => omega
            | succ f =>
              refine ⟨f, by omega, ?_⟩
              unfold opsF at hf2
              rw [← h2.1, ← h2.2.1, if_neg (by omega), if_pos h3] at hf2
              rw [← hf2, List.map_append]
              rfl)
        have e1 : wrap64 ((a : Int) + (m2 : Int)) = ((a + m2 : Nat) : Int) := by have := HM.out; unfold wrap64; omega
        rw [e1]
        go_roundw
        case rel => exact ⟨a + m2, A4, c4, _, rfl, by rw [List.length_append, HN.out.1]; rfl, D5⟩
        case measure => have := HA.out; have := H4.out; simp [intOf]; omega
      · have h4i : ¬ (4 : Int) ≤ (m2 : Int) := by omega
        have H4 := Lib.hid (show ¬ 4 ≤ (mat base target a).2 from by rw [← HM.out.2.1]; exact h4)
        have HTS : ts = [] ∨ (∃ us t, ts = us ++ [t] ∧ t.p.cp = true) ∨ (∃ us t, ts = us ++ [t] ∧ t.p.cp = false) := by
          rcases List.eq_nil_or_concat ts with h5 | ⟨us, t, h5⟩
          · exact .inl h5
          · rw [List.concat_eq_append] at h5
            cases hq : t.p.cp with
            | true => exact .inr (.inl ⟨us, t, h5, hq⟩)
            | false => exact .inr (.inr ⟨us, t, h5, hq⟩)
        have HRUN := Lib.hid D1.out.run
        obtain ⟨l, hl⟩ : ∃ l, l = ts.map Pt.p := ⟨_, rfl⟩
        rw [← hl] at HRUN
        have ha64 : a ≤ 64 := by have := HA.out; omega
        clear h4
        rcases HTS with h5 | ⟨us, t, h5, hq⟩ | ⟨us, t, h5, hq⟩
        case' inl =>
          subst h5
          have hlen : ([] : List Pt).length = 0 := rfl
          rw [hlen]
          clear hlen
          go_wp2_with (at_builtin; refine wpList_appendV rfl (.tmp 42) (.tmp 44) 27 50 rfl Tryd.underlying27 _ 4 48 infoOp rfl (by decide) A c 0 [] rfl (ownsRow_keeps D1.out.op.own ((Keeps.refl [] w1).alloc _) (by simp)) (some ⟨w1.heap.size, 0, none⟩) 1 1 (Pt.cells ⟨⟨false, 0, 0, []⟩, none, 0⟩) rfl (Rd.lit4 (heap_alloc_new _ _)) (Pt.one _) (by unfold maxLen; omega) (by omega) ?_; intro A4 c4 w4 ho hk hf; obtain ⟨gA, hgA⟩ := own_some ho (Nat.succ_pos _); subst hgA; have D4 := OsI.add (n := 0) (t := ⟨⟨false, 0, 0, []⟩, none, 0⟩) D1.out rfl rfl rfl ((Keeps.refl [] w1).alloc _) (rfl) ho hk hf; obtain ⟨m, hm⟩ : ∃ m : Nat, m = 0 := ⟨_, rfl⟩; obtain ⟨vs, hvs⟩ : ∃ vs : List Pt, vs = [] := ⟨_, rfl⟩; obtain ⟨z, hz⟩ : ∃ z : Pt, z = ⟨⟨false, 0, 0, []⟩, none, 0⟩ := ⟨_, rfl⟩; have O := Lib.hid (show OgI w w4 g gh base target a gA c4 l vs z ∧ m = vs.length from ⟨⟨by rw [hz, hvs]; exact D4.1, D4.2.1, ⟨D4.2.2.1 _ rfl, by rw [hz, hvs]; exact D4.2.2.2⟩, ⟨by have := D1.out.le; rw [List.length_append, List.length_singleton, hvs]; simp, fun s hs => by rw [hvs] at hs; exact D1.out.le.2.2 s hs, by rw [hz]; exact Nat.zero_le _⟩, fun x => by rw [hl, hz, hvs]; exact tell_nil x⟩, by rw [hm, hvs]; rfl⟩); have hm64 : m ≤ 64 := (by omega); rw [show (0 + 1 : Nat) = m + 1 from by rw [hm]]; clear ho hk hf D4 hm hvs hz)
        rotate_left
        case' inr.inl =>
          subst h5
          obtain ⟨k, hk⟩ : ∃ k, k = us.length := ⟨_, rfl⟩
          have HK := Lib.hid (show k = us.length ∧ k + 1 ≤ 64 from ⟨hk, by have := D1.out.le; rw [List.length_append, List.length_singleton] at this; omega⟩)
          obtain ⟨g0, hg0⟩ := own_some D1.out.op.own (by rw [List.length_append, List.length_singleton]; omega)
          subst hg0
          have k0 := D1.out.op.cpAt
          rw [hq, ← hk] at k0
          have hown := D1.out.op.own
          have hlen : (us ++ [t]).length = k + 1 := by rw [List.length_append, List.length_singleton, hk]
          rw [hlen] at hown ⊢
          have HOWN := Lib.hid hown
          have HLEN := Lib.hid hlen
          have HQ := Lib.hid hq
          have e0 : ((k : Int) + 1 == 0) = false := by rw [beq_eq_false_iff_ne]; omega
          have e1 : ¬ (k : Int) + 1 = 0 := by omega
          have hk64 : k + 1 ≤ 64 := HK.out.2
          clear hk hown hlen hq
          go_wp2_with (at_builtin; refine wpList_appendV rfl (.tmp 42) (.tmp 44) 27 50 rfl Tryd.underlying27 _ 4 48 infoOp rfl (by decide) (some ⟨g0, 0, none⟩) c (k + 1) (encPt (us ++ [t])) rfl (ownsRow_keeps HOWN.out ((Keeps.refl [] w1).alloc _) (by simp)) (some ⟨w1.heap.size, 0, none⟩) 1 1 (Pt.cells ⟨⟨false, 0, 0, []⟩, none, 0⟩) rfl (Rd.lit4 (heap_alloc_new _ _)) (Pt.one _) (by unfold maxLen; omega) (by omega) ?_; intro A4 c4 w4 ho hk hf; obtain ⟨gA, hgA⟩ := own_some ho (Nat.succ_pos _); subst hgA; have D4 := OsI.add (n := (k + 1)) (t := ⟨⟨false, 0, 0, []⟩, none, 0⟩) D1.out rfl rfl rfl ((Keeps.refl [] w1).alloc _) (HLEN.out.symm) ho hk hf; obtain ⟨m, hm⟩ : ∃ m : Nat, m = (k + 1) := ⟨_, rfl⟩; obtain ⟨vs, hvs⟩ : ∃ vs : List Pt, vs = us ++ [t] := ⟨_, rfl⟩; obtain ⟨z, hz⟩ : ∃ z : Pt, z = ⟨⟨false, 0, 0, []⟩, none, 0⟩ := ⟨_, rfl⟩; have O := Lib.hid (show OgI w w4 g gh base target a gA c4 l vs z ∧ m = vs.length from ⟨⟨by rw [hz, hvs]; exact D4.1, D4.2.1, ⟨D4.2.2.1 _ rfl, by rw [hz, hvs]; exact D4.2.2.2⟩, ⟨by have := D1.out.le; rw [List.length_append, List.length_singleton, hvs]; omega, fun s hs => by rw [hvs] at hs; exact D1.out.le.2.2 s hs, by rw [hz]; exact Nat.zero_le _⟩, fun x => by rw [hl, hz, hvs]; rw [List.map_append]; exact tell_cp _ _ _ HQ.out⟩, by rw [hm, hvs]; exact HLEN.out.symm⟩); have hm64 : m ≤ 64 := (by have h7 := HK.out.2; rw [hm]; exact h7); rw [show ((k + 1) + 1 : Nat) = m + 1 from by rw [hm]]; clear ho hk hf D4 hm hvs hz)
        rotate_left
        case' inr.inr =>
          subst h5
          obtain ⟨m, hm⟩ : ∃ m, m = us.length := ⟨_, rfl⟩
          obtain ⟨gA, hgA⟩ := own_some D1.out.op.own (by rw [List.length_append, List.length_singleton]; omega)
          subst hgA
          have k0 := D1.out.op.cpAt
          rw [hq, ← hm] at k0
          have hlen : (us ++ [t]).length = m + 1 := by rw [List.length_append, List.length_singleton, hm]
          rw [hlen]
          obtain ⟨vs, hvs⟩ : ∃ vs, vs = us := ⟨_, rfl⟩
          obtain ⟨z, hz⟩ : ∃ z, z = t := ⟨_, rfl⟩
          have O := Lib.hid (show OgI w w1 g gh base target a gA c l vs z ∧ m = vs.length from ⟨⟨by rw [hvs, hz]; exact D1.out.op, D1.out.bx, ⟨D1.out.ap.1 _ rfl, by rw [hvs, hz]; exact D1.out.ap.2⟩, ⟨by have := D1.out.le; rw [hvs, hz]; omega, fun s hs => D1.out.le.2.2 s (by rw [hvs] at hs; simp [hs]), D1.out.le.2.2 z (by rw [hz]; simp)⟩, fun x => by rw [hl, hvs, hz, List.map_append]; exact tell_told _ _ _ hq⟩, by rw [hvs, hm]⟩)
          have hm64 : m ≤ 64 := by have := D1.out.le; omega
          have e0 : ((m : Int) + 1 == 0) = false := by rw [beq_eq_false_iff_ne]; omega
          have e1 : ¬ (m : Int) + 1 = 0 := by omega
          obtain ⟨w4, hw4⟩ : ∃ w4, w4 = w1 := ⟨_, rfl⟩
          subst hw4
          obtain ⟨c4, hc4⟩ : ∃ c4, c4 = c := ⟨_, rfl⟩
          subst hc4
          clear hm hlen hvs hz hq D1
          go_wp2_with fail
        all_goals
          have HX : ∃ x : UInt8, x = target.getD a 0 := ⟨_, rfl⟩
          obtain ⟨x, hx⟩ := HX
          have hxc : w4.cell? ⟨gh, a, none⟩ = some (.int .u8 (x.toNat : Int)) := by
            have h1 := rdb_at (rdb_row O.out.1.bx.t) (n := a) (by rw [HL.out.2]; exact HA.out)
            obtain ⟨g', o', e1, e2⟩ := h1
            injection e1 with e1
            injection e1 with e3 e4
            subst e3 e4
            rw [Nat.zero_add] at e2
            rw [e2, hx, List.getD_eq_getElem?_getD, List.getElem?_eq_getElem (by rw [HL.out.2]; exact HA.out)]
            rfl
          have hcell := O.out.1.cell
          rw [← O.out.2] at hcell
          obtain ⟨tA, htA⟩ : ∃ tA, tA = z.A := ⟨_, rfl⟩
          obtain ⟨tc, htc⟩ : ∃ tc, tc = z.c := ⟨_, rfl⟩
          obtain ⟨tb, htb⟩ : ∃ tb, tb = z.p.b := ⟨_, rfl⟩
          have HZ := Lib.hid (show OwnB 5 w4 tA tc tb ∧ tA = z.A ∧ tb = z.p.b ∧ tb.length ≤ 64 from ⟨by rw [htA, htc, htb]; exact (O.out.1.op.rd z (by simp)).1, htA, htb, by rw [htb]; have := O.out.1.le.2.2; omega⟩)
          rw [← htA, ← htc, ← htb] at hcell
          have HC := Lib.hid (And.intro hcell.1 hxc)
          have HX := Lib.hid hx
          clear hcell hxc htA htc htb hx hl
          have qa : ∀ u : World, (u.cell? ⟨gA, m * 4 + 3, none⟩ = some (.slice tA tb.length tc) ∧ u.cell? ⟨gh, a, none⟩ = some (.int .u8 (x.toNat : Int))) → u.cell? ⟨gA, m * 4 + 3, none⟩ = some (.slice tA tb.length tc) := fun u hu => hu.1
          have qb : ∀ u : World, (u.cell? ⟨gA, m * 4 + 3, none⟩ = some (.slice tA tb.length tc) ∧ u.cell? ⟨gh, a, none⟩ = some (.int .u8 (x.toNat : Int))) → u.cell? ⟨gh, a, none⟩ = some (.int .u8 (x.toNat : Int)) := fun u hu => hu.2
          refine seqz_start (by kernel_rfl) (fun u => (u.cell? ⟨gA, m * 4 + 3, none⟩ = some (.slice tA tb.length tc) ∧ u.cell? ⟨gh, a, none⟩ = some (.int .u8 (x.toNat : Int)))) 12 13 [0, 1, 2, 3, 4, 5, 6, 7, 8, 9, 10, 11, 12] rfl (HC.out) (fun hS => ?_)
          refine seqz_take (v := ?_) rfl (by kernel_rfl) (by kernel_rfl) (by kernel_rfl) (by kernel_rfl) (by kernel_rfl) (by decide) (Or.inl ⟨by rfl, fun w' hSw => ?_⟩) (by assumption) ?_
          rotate_left
          · go_simp
            with_reducible rfl
          simp only [Act.put, List.setIfInBounds_toArray, List.set_cons_zero, List.set_cons_succ]
          refine seqz_take (v := ?_) rfl (by kernel_rfl) (by kernel_rfl) (by kernel_rfl) (by kernel_rfl) (by kernel_rfl) (by decide) (Or.inl ⟨by rfl, fun w' hSw => ?_⟩) (by assumption) ?_
          rotate_left
          · go_simp
            with_reducible rfl
          simp only [Act.put, List.setIfInBounds_toArray, List.set_cons_zero, List.set_cons_succ]
          refine seqz_take (v := ?_) rfl (by kernel_rfl) (by kernel_rfl) (by kernel_rfl) (by kernel_rfl) (by kernel_rfl) (by decide) (Or.inl ⟨by rfl, fun w' hSw => ?_⟩) (by assumption) ?_
          rotate_left
          · go_simp
            with_reducible rfl
          simp only [Act.put, List.setIfInBounds_toArray, List.set_cons_zero, List.set_cons_succ]
          refine seqz_take (v := ?_) rfl (by kernel_rfl) (by kernel_rfl) (by kernel_rfl) (by kernel_rfl) (by kernel_rfl) (by decide) (Or.inl ⟨by rfl, fun w' hSw => ?_⟩) (by assumption) ?_
          rotate_left
          · go_simp
            with_reducible rfl
          simp only [Act.put, List.setIfInBounds_toArray, List.set_cons_zero, List.set_cons_succ]
          refine seqz_take (v := ?_) rfl (by kernel_rfl) (by kernel_rfl) (by kernel_rfl) (by kernel_rfl) (by kernel_rfl) (by decide) (Or.inl ⟨by rfl, fun w' hSw => ?_⟩) (by assumption) ?_
          rotate_left
          · go_simp
            with_reducible rfl
          simp only [Act.put, List.setIfInBounds_toArray, List.set_cons_zero, List.set_cons_succ]
          refine seqz_take (v := ?_) rfl (by kernel_rfl) (by kernel_rfl) (by kernel_rfl) (by kernel_rfl) (by kernel_rfl) (by decide) (Or.inl ⟨by rfl, fun w' hSw => ?_⟩) (by assumption) ?_
          rotate_left
          · go_simp
            with_reducible rfl
          simp only [Act.put, List.setIfInBounds_toArray, List.set_cons_zero, List.set_cons_succ]
          refine seqz_take (v := ?_) rfl (by kernel_rfl) (by kernel_rfl) (by kernel_rfl) (by kernel_rfl) (by kernel_rfl) (by decide) (Or.inl ⟨by rfl, fun w' hSw => ?_⟩) (by assumption) ?_
          rotate_left
          · go_simp
            with_reducible rfl
          simp only [Act.put, List.setIfInBounds_toArray, List.set_cons_zero, List.set_cons_succ]
          refine seqz_take (v := ?_) rfl (by kernel_rfl) (by kernel_rfl) (by kernel_rfl) (by kernel_rfl) (by kernel_rfl) (by decide) (Or.inl ⟨by rfl, fun w' hSw => ?_⟩) (by assumption) ?_
          rotate_left
          · go_simp
            with_reducible rfl
          simp only [Act.put, List.setIfInBounds_toArray, List.set_cons_zero, List.set_cons_succ]
          refine seqz_do rfl (by kernel_rfl) (by rfl) (fun K hK => ?_)
          go_simp
          obtain ⟨gb, hgb⟩ : ∃ gb, gb = w4.heap.size := ⟨_, rfl⟩
          obtain ⟨w5, hw5⟩ : ∃ w5, w5 = (w4.alloc (.cells #[.int .u8 (x.toNat : Int)] 5)).drew := ⟨_, rfl⟩
          have H5 := Lib.hid (show Keeps [] w4 w5 ∧ RdB w5 (some ⟨gb, 0, none⟩) [x] from ⟨by rw [hw5]; exact ((Keeps.refl [] w4).alloc _).drew, by rw [hw5, hgb]; exact rdb_row (l := [x]) (heap_alloc_new _ _)⟩)
          rw [← hw5, ← hgb]
          clear hw5 hgb
          refine hK.out (fun u => (u.cell? ⟨gA, m * 4 + 3, none⟩ = some (.slice tA tb.length tc) ∧ u.cell? ⟨gh, a, none⟩ = some (.int .u8 (x.toNat : Int)))) _ _ (fun _ h => h) ⟨H5.out.1.cell HC.out.1 (by simp), H5.out.1.cell HC.out.2 (by simp)⟩ (fun hS => ?_)
          refine seqz_do rfl (by kernel_rfl) (by rfl) (fun K hK => ?_)
          refine op_appendB (.tmp 55) (.tmp 59) 25 5 rfl Tryd.underlying25 infoB tA tc tb rfl (HZ.out.1.keeps0 H5.out.1) (some ⟨gb, 0, none⟩) 1 [x] rfl H5.out.2 (by have := HZ.out.2.2.2; simp; omega) ?_
          intro A2 c2 w6 b' hb' ho hk hf
          have hbt : blk tA = blk z.A := by rw [HZ.out.2.1]
          have hk46 : Keeps (blk z.A) w4 w6 := (H5.out.1.mono (by simp)).trans (by rw [← hbt]; exact hk) (fun t ht => .inl ht)
          have HAF := Lib.hid (O.out.1.after hk46)
          have y3 : w6.cell? ⟨gA, m * 4 + 3, none⟩ = some (.slice tA tb.length tc) := HAF.out.1 _ _ HC.out.1
          have y4 : w6.cell? ⟨gh, a, none⟩ = some (.int .u8 (x.toNat : Int)) := HAF.out.2.1 _ _ HC.out.2
          have fz : ∀ j, w6.frozen? ⟨gA, j, none⟩ = false := HAF.out.2.2
          have H6 := Lib.hid (show b' = z.p.b ++ [x] ∧ OwnB 5 w6 A2 c2 b' ∧ Keeps (blk z.A) w5 w6 ∧ (∀ a, A2 = some a → a.block ∈ blk z.A ∨ w5.heap.size ≤ a.block) from ⟨by rw [hb'.out, HZ.out.2.2.1], ho, by rw [← hbt]; exact hk, by rw [← hbt]; exact hf⟩)
          clear hb' ho hk hf hbt hk46
          refine hK.out (fun u => (u.cell? ⟨gA, m * 4 + 3, none⟩ = some (.slice tA tb.length tc) ∧ u.cell? ⟨gh, a, none⟩ = some (.int .u8 (x.toNat : Int)))) _ _ (fun _ h => h) ⟨y3, y4⟩ (fun hS => ?_)
          refine seqz_take (v := ?_) rfl (by kernel_rfl) (by kernel_rfl) (by kernel_rfl) (by kernel_rfl) (by kernel_rfl) (by decide) (Or.inl ⟨by rfl, fun w' hSw => ?_⟩) (by assumption) ?_
          rotate_left
          · go_simp
            with_reducible rfl
          simp only [Act.put, List.setIfInBounds_toArray, List.set_cons_zero, List.set_cons_succ]
          refine seqz_take (v := ?_) rfl (by kernel_rfl) (by kernel_rfl) (by kernel_rfl) (by kernel_rfl) (by kernel_rfl) (by decide) (Or.inl ⟨by rfl, fun w' hSw => ?_⟩) (by assumption) ?_
          rotate_left
          · go_simp
            with_reducible rfl
          simp only [Act.put, List.setIfInBounds_toArray, List.set_cons_zero, List.set_cons_succ]
          refine seqz_last rfl (by kernel_rfl) (by rfl) (by kernel_rfl) ?_
          all_goals skip
          go_simp
          have D7 := Lib.hid (O.out.1.grow (w5 := w6.setCell ⟨gA, m * 4 + 3, none⟩ (.slice A2 b'.length c2)) H5.out.1 H6.out.1 H6.out.2.1 H6.out.2.2.1 H6.out.2.2.2 (by rw [O.out.2]) HA.out HX.out H4.out HRUN.out)
          have HVL := Lib.hid O.out.2
          generalize w6.setCell ⟨gA, m * 4 + 3, none⟩ (.slice A2 b'.length c2) = w7 at D7 ⊢
          clear y3 y4 fz HAF H6 H5 hS qa qb HC HZ O
          go_wp2_with fail
          go_roundw
          case rel => exact ⟨a + 1, some ⟨gA, 0, none⟩, c4, _, by go_num, by rw [List.length_append, ← HVL.out]; rfl, D7⟩
          case measure => have := HA.out; simp [intOf]; omega
    · have hai : ¬ (a : Int) < 64 := by omega
      have HE := Lib.hid (show OpI w wr A c ts ∧ ts.map Pt.p = opsE base target ∧ ts.length ≤ 64 ∧ ∀ t ∈ ts, t.p.b.length ≤ 64 from by
        obtain ⟨f, _, h2⟩ := D.out.run
        rw [opsF_end _ _ _ _ _ (by omega)] at h2
        have h3 := D.out.le
        exact ⟨D.out.op, h2, by omega, fun t ht => by have := h3.2.2 t ht; omega⟩)
      clear ha D
      go_wp2_with fail
      go_ret
      exact ⟨A, c, ts, rfl, HE.out.1, HE.out.2.1, HE.out.2.2.1, HE.out.2.2.2⟩
end Go.Proofs.YtljinghhalcnnaaDoor
namespace Go.Proofs
open Go.Shelf
def Tryd.lays126_ren : Go.Shelf.Ren := ⟨fun | 126 => 66 | n => n, fun | 5 => 5 | 3 => 3 | 9 => 9 | n => n, fun | n => n⟩
theorem Tryd.lays126 : Go.Proofs.Lays.n126 Tryd.prog Tryd.lays126_ren := {
  mixed := by kernel_rfl
  f126 := Tryd.func66.trans (congrArg some (by kernel_rfl))
  t3 := Tryd.underlying3
  a3 := Tryd.isAgg3
  z3 := Tryd.sizeOf3
  v3 := Tryd.zeroValue3
  t5 := Tryd.underlying5
  a5 := Tryd.isAgg5
  z5 := Tryd.sizeOf5
  v5 := Tryd.zeroValue5
  t9 := Tryd.underlying9
  a9 := Tryd.isAgg9
  z9 := Tryd.sizeOf9
  v9 := Tryd.zeroValue9 }
/-- bits.Len8: "Len8 returns the minimum number of bits required to represent x; the result is 0 for x == 0.": IT RETURNS 'Lib.bitLen x'; the world is as it was. ('h0', 'h1': x is a uint8.) (LAID: no walk: one application.) -/
theorem Tryd.bits_Len8 (x : Int) (w : World) (h0 : 0 ≤ x) (h1 : x ≤ 255) :
    Calls Tryd.prog 66 #[.int .u8 x] w fun e w' => e = .returned (.int .i64 (Lib.bitLen x.toNat)) ∧ w' = w := Any.bits_Len8 Tryd.lays126 x w h0 h1
def Tryd.lays131_ren : Go.Shelf.Ren := ⟨fun | 131 => 65 | 126 => 66 | n => n, fun | 5 => 5 | 3 => 3 | 9 => 9 | n => n, fun | n => n⟩
theorem Tryd.lays131 : Go.Proofs.Lays.n131 Tryd.prog Tryd.lays131_ren := {
  mixed := by kernel_rfl
  f126 := Tryd.func66.trans (congrArg some (by kernel_rfl))
  f131 := Tryd.func65.trans (congrArg some (by kernel_rfl))
  t3 := Tryd.underlying3
  a3 := Tryd.isAgg3
  z3 := Tryd.sizeOf3
  v3 := Tryd.zeroValue3
  t5 := Tryd.underlying5
  a5 := Tryd.isAgg5
  z5 := Tryd.sizeOf5
  v5 := Tryd.zeroValue5
  t9 := Tryd.underlying9
  a9 := Tryd.isAgg9
  z9 := Tryd.sizeOf9
  v9 := Tryd.zeroValue9 }
/-- bits.LeadingZeros8: "LeadingZeros8 returns the number of leading zero bits in x; the result is 8 for x == 0.": IT RETURNS '8 - Lib.bitLen x'; the world is as it was. ITS CALLEE bits.Len8 IS MET BY ITS OWN CONTRACT OFF THE SHELF (lay that first): ENTERED IN PLACE it sends the kernel out of memory. (LAID: no walk: one application.) -/
theorem Tryd.bits_LeadingZeros8 (x : Int) (w : World) (h0 : 0 ≤ x) (h1 : x ≤ 255) :
    Calls Tryd.prog 65 #[.int .u8 x] w fun e w' => e = .returned (.int .i64 (8 - (Lib.bitLen x.toNat : Int))) ∧ w' = w := Any.bits_LeadingZeros8 Tryd.lays131 x w h0 h1
def Tryd.lays129_ren : Go.Shelf.Ren := ⟨fun | 129 => 60 | n => n, fun | 53 => 54 | 3 => 3 | 4 => 4 | 46 => 131 | 5 => 5 | 9 => 9 | n => n, fun | n => n⟩
theorem Tryd.lays129 : Go.Proofs.Lays.n129 Tryd.prog Tryd.lays129_ren := {
  mixed := by kernel_rfl
  f129 := Tryd.func60.trans (congrArg some (by kernel_rfl))
  t3 := Tryd.underlying3
  a3 := Tryd.isAgg3
  z3 := Tryd.sizeOf3
  v3 := Tryd.zeroValue3
  t4 := Tryd.underlying4
  a4 := Tryd.isAgg4
  z4 := Tryd.sizeOf4
  v4 := Tryd.zeroValue4
  t5 := Tryd.underlying5
  a5 := Tryd.isAgg5
  z5 := Tryd.sizeOf5
  v5 := Tryd.zeroValue5
  t9 := Tryd.underlying9
  a9 := Tryd.isAgg9
  z9 := Tryd.sizeOf9
  v9 := Tryd.zeroValue9
  t46 := Tryd.underlying131
  a46 := Tryd.isAgg131
  z46 := Tryd.sizeOf131
  v46 := Tryd.zeroValue131
  t53 := Tryd.underlying54
  a53 := Tryd.isAgg54
  z53 := Tryd.sizeOf54
  v53 := Tryd.zeroValue54 }
/-- bits.Len64: "Len64 returns the minimum number of bits required to represent x; the result is 0 for x == 0.": IT RETURNS 'Lib.bitLen x'; the world is as it was. ('h0', 'h1': x is a uint64.) (LAID: no walk: one application.) -/
theorem Tryd.bits_Len64 (x : Int) (w : World) (h0 : 0 ≤ x) (h1 : x ≤ 18446744073709551615) :
    Calls Tryd.prog 60 #[.int .u64 x] w fun e w' => e = .returned (.int .i64 (Lib.bitLen x.toNat)) ∧ w' = w := Any.bits_Len64 Tryd.lays129 x w h0 h1
end Go.Proofs
namespace Go.Proofs.YtljinghhalcnnaaDoor
open Go.RowKit

/-- How many bytes a number has behind its first one. -/
def bh (n : Nat) : Nat :=
  if n < 128 then 0 else if n < 16384 then 1 else if n < 2097152 then 2 else if n < 268435456 then 3 else if n < 34359738368 then 4
  else if n < 4398046511104 then 5 else if n < 562949953421312 then 6 else if n < 72057594037927936 then 7 else 8
theorem bh_le (n : Nat) : bh n ≤ 8 := by unfold bh; repeat' split
                                         all_goals omega
/-- A number below 2^(7k+7), and not below 2^(7k). -/
theorem bh_spec (n : Nat) : (bh n < 8 → n < 2 ^ (7 * bh n + 7)) ∧ (0 < bh n → 2 ^ (7 * bh n) ≤ n) := by
  unfold bh
  repeat' split
  all_goals (constructor <;> intro _ <;> simp <;> omega)
theorem bh_unique {n k : Nat} (h8 : k ≤ 8) (h1 : k < 8 → n < 2 ^ (7 * k + 7)) (h2 : 0 < k → 2 ^ (7 * k) ≤ n) : bh n = k := by
  have hs : k = 0 ∨ k = 1 ∨ k = 2 ∨ k = 3 ∨ k = 4 ∨ k = 5 ∨ k = 6 ∨ k = 7 ∨ k = 8 := by omega
  rcases hs with rfl | rfl | rfl | rfl | rfl | rfl | rfl | rfl | rfl <;> simp at h1 h2 <;> unfold bh <;> (repeat' split) <;> omega

theorem bitLen_bounds (x : Nat) (hx : x < 18446744073709551616) (h0 : x ≠ 0) : 1 ≤ Lib.bitLen x ∧ 2 ^ (Lib.bitLen x - 1) ≤ x ∧ x < 2 ^ Lib.bitLen x := Lib.bitLenAux_bounds 64 x hx h0
/-- What behind reckons is that number. -/
theorem bh_bitLen (n : Nat) (hn : n < 18446744073709551616) : min 8 ((max 1 (Lib.bitLen n) - 1) / 7) = bh n := by
  by_cases h0 : n = 0
  · subst h0; rfl
  · obtain ⟨h1, h2, h3⟩ := bitLen_bounds n hn h0
    have h64 : Lib.bitLen n ≤ 64 := Lib.bitLen_le n 64 (by omega) hn
    generalize Lib.bitLen n = b at h1 h2 h3 h64 ⊢
    symm
    refine bh_unique (by omega) (fun h => ?_) (fun h => ?_)
    · refine Nat.lt_of_lt_of_le h3 (Nat.pow_le_pow_right (by omega) (by omega))
    · refine Nat.le_trans (Nat.pow_le_pow_right (by omega) ?_) h2
      omega

/-- The last k bytes of a number, the greatest first. -/
def be (k n : Nat) : List UInt8 := (List.range k).map fun i => UInt8.ofNat (n / 2 ^ (8 * (k - 1 - i)) % 256)
@[simp] theorem length_be (k n : Nat) : (be k n).length = k := by simp [be]
theorem be_take (k n i : Nat) (h : i < k) : (be k n).take (i + 1) = (be k n).take i ++ [UInt8.ofNat (n / 2 ^ (8 * (k - 1 - i)) % 256)] := by
  rw [List.take_succ_eq_append_getElem (by simpa using h)]
  simp [be]
/-- A number as bytes. -/
def uintB (n : Nat) : List UInt8 := UInt8.ofNat (256 - 2 ^ (8 - bh n) + n / 2 ^ (8 * bh n)) :: be (bh n) n
@[simp] theorem length_uintB (n : Nat) : (uintB n).length = bh n + 1 := by simp [uintB]
theorem length_uintB_le (n : Nat) : (uintB n).length ≤ 9 := by have := bh_le n; simp; omega
/-- The first byte's part of the number is small. -/
theorem bh_top (n : Nat) : bh n < 8 → n / 2 ^ (8 * bh n) < 2 ^ (7 - bh n) := by
  intro h
  have h1 := (bh_spec n).1 h
  rw [Nat.div_lt_iff_lt_mul (Nat.two_pow_pos _), ← Nat.pow_add]
  refine Nat.lt_of_lt_of_le h1 (Nat.pow_le_pow_right (by omega) (by omega))
theorem bh_top8 (n : Nat) (hn : n < 18446744073709551616) (h : bh n = 8) : n / 2 ^ (8 * bh n) = 0 := by
  rw [h]; exact Nat.div_eq_of_lt (by simpa using hn)
end Go.Proofs.YtljinghhalcnnaaDoor
