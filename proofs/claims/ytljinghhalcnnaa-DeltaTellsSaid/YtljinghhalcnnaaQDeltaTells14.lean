/- The document's parts that tell a block: the walk. The document's parts that tell a block: the walk. Powers, and how many bytes a number has, by the document: contracts. 'append(xs, s...)' of a text onto bytes of one's own. No program is named here. What the document's writer does: contracts. -/
import Derived.Test.YtljinghhalcnnaaQDeltaTells13
import Derived.Test.YtljinghhalcnnaaQDeltaTells6
import Derived.Deep.DeepCutAuto
import Derived.Test.YtljinghhalcnnaaQDeltaTells9
import Derived.Test.YtljinghhalcnnaaProg
import Derived.Test.YtljinghhalcnnaaQDeltaTells2
import Derived.Lib.AppendStr
import Derived.Test.YtljinghhalcnnaaQDeltaTells11
namespace Go.Proofs.Ytljinghhalcnnaa
open Go.RowKit

/-- What is told is laid behind the parts. -/
def flushE (l : List Pa) (t : List UInt8) : List Pa := if t = [] then l else l ++ [⟨false, 0, 0, t⟩]
/-- No part at the end that tells. -/
def LastCp (l : List Pa) : Prop := l.getLast?.map Pa.cp ≠ some false
theorem flush_tell {l : List Pa} (h : LastCp l) (t : List UInt8) (x : UInt8) : tell (flushE l t) x = flushE l (t ++ [x]) := by
  unfold flushE
  rw [if_neg (show ¬ t ++ [x] = [] by simp)]
  by_cases ht : t = []
  · subst ht
    rw [if_pos rfl]
    rcases List.eq_nil_or_concat l with h1 | ⟨us, p, h1⟩
    · subst h1; rfl
    · rw [List.concat_eq_append] at h1
      subst h1
      unfold LastCp at h
      rw [List.getLast?_concat] at h
      exact tell_cp _ _ _ (by cases hc : p.cp with | true => rfl | false => exact absurd (by rw [Option.map_some, hc]) h)
  · rw [if_neg ht]
    exact tell_told l _ x rfl
/-- The parts, and what is told since. -/
structure RoI (w wr : World) (g h : Nat) (base target : List UInt8) (a : Nat) (A : Option Addr) (c : Nat) (ts : List Pt) (TA : Option Addr) (tc : Nat) (td : List UInt8) : Prop where
  op : OpR w wr A c ts
  bx : Bx w wr g h base target
  own : OwnB 5 wr TA tc td
  ap : ∀ b, TA = some b → w.heap.size ≤ b.block ∧ b.block ∉ blk A ∧ b.block ≠ g ∧ b.block ≠ h ∧ ∀ s ∈ ts, ∀ x, s.A = some x → x.block ≠ b.block
  gA : g ∉ blk A ∧ h ∉ blk A
  le : a ≤ 64 ∧ ts.length + td.length ≤ a ∧ (∀ t ∈ ts, t.p.b.length ≤ 64)
  run : LastCp (ts.map Pt.p) ∧ ∃ f, 64 - a ≤ f ∧ opsF base target f a (flushE (ts.map Pt.p) td) = opsE base target
theorem RoI.keeps0 {w wr wr' : World} {g h : Nat} {base target : List UInt8} {a : Nat} {A : Option Addr} {c : Nat} {ts : List Pt} {TA : Option Addr} {tc : Nat} {td : List UInt8} (x : RoI w wr g h base target a A c ts TA tc td) (hk : Keeps [] wr wr') : RoI w wr' g h base target a A c ts TA tc td :=
  ⟨x.op.keeps0 hk, x.bx.keeps0 hk, x.own.keeps0 hk, x.ap, x.gA, x.le, x.run⟩
/-- One byte more is told. -/
theorem RoI.told {w wr wa w4 : World} {g h : Nat} {base target : List UInt8} {a : Nat} {A : Option Addr} {c : Nat} {ts : List Pt} {TA T4 : Option Addr} {tc c4 : Nat} {td t4 : List UInt8} (x : RoI w wr g h base target a A c ts TA tc td)
    (ha : a < 64) (h4 : ¬ 4 ≤ (mat base target a).2) (hka : Keeps [] wr wa) (ht : t4 = td ++ [target.getD a 0]) (ho : OwnB 5 w4 T4 c4 t4) (hk : Keeps (blk TA) wa w4) (hf : ∀ b, T4 = some b → b.block ∈ blk TA ∨ wa.heap.size ≤ b.block) : RoI w w4 g h base target (a + 1) A c ts T4 c4 t4 := by
  have s1 := hka.size
  have s2 := x.bx.kp.size
  have k14 : Keeps (blk TA) wr w4 := (hka.mono (by simp)).trans hk (fun t ht => .inl ht)
  have hn : ∀ q, (∀ b, TA = some b → b.block ≠ q) → q ∉ blk TA := fun q h1 hm => by
    obtain ⟨b, e1, e2⟩ := mem_blk.1 hm
    exact h1 b e1 e2
  have lg := lt_of_block x.bx.b
  have lh := lt_of_block x.bx.t
  have kw : Keeps [] w w4 := x.op.kp.fresh k14 (fun b hb => (x.ap b hb).1)
  refine ⟨⟨ownsRow_keeps x.op.own k14 (fun b hb => hn _ (fun b' hb' e => (x.ap b' hb').2.1 (by rw [e]; exact mem_blk.2 ⟨b, hb, rfl⟩))), x.op.fr, fun s hs => ⟨(x.op.rd s hs).1.keeps k14 (fun b hb => hn _ (fun b' hb' e => (x.ap b' hb').2.2.2.2 s hs b hb e.symm)), (x.op.rd s hs).2⟩, x.op.dj, kw⟩,
    ⟨(k14.block g lg (hn g fun b hb => (x.ap b hb).2.2.1)).trans x.bx.b, (k14.block h lh (hn h fun b hb => (x.ap b hb).2.2.2.1)).trans x.bx.t, kw⟩, ho, fun b hb => ?_, x.gA, ⟨by omega, by have := x.le; rw [ht, List.length_append, List.length_singleton]; omega, x.le.2.2⟩, x.run.1, ?_⟩
  · rcases hf b hb with h1 | h1
    · obtain ⟨b', e1, e2⟩ := mem_blk.1 h1
      rw [← e2]; exact x.ap b' e1
    · refine ⟨by omega, fun hm => ?_, by omega, by omega, fun s hs y hy => ?_⟩
      · obtain ⟨b', e1, e2⟩ := mem_blk.1 hm
        have := ownsRow_lt x.op.own b' e1
        omega
      · have := (x.op.rd s hs).1.lt y hy
        omega
  · obtain ⟨f, hf1, hf2⟩ := x.run.2
    cases f with
    | zero => omega
    | succ f =>
      refine ⟨f, by omega, ?_⟩
      unfold opsF at hf2
      rw [if_neg (by omega), if_neg h4, flush_tell x.run.1] at hf2
      rw [ht]
      exact hf2
/-- What is told becomes a part. -/
theorem RoI.flush {w wr wa w4 : World} {g h : Nat} {base target : List UInt8} {a n : Nat} {A A4 : Option Addr} {c c4 : Nat} {ts : List Pt} {TA : Option Addr} {tc : Nat} {td : List UInt8} (x : RoI w wr g h base target a A c ts TA tc td)
    (hka : Keeps [] wr wa) (hn : n = ts.length) (ho : w4.ownsRow 0 46 4 (.slice A4 (n + 1) c4) (n + 1) (encPt ts ++ Pt.cells ⟨⟨false, 0, 0, td⟩, TA, tc⟩)) (hk : Keeps (blk A) wa w4) (hf : ∀ b, A4 = some b → b.block ∈ blk A ∨ wa.heap.size ≤ b.block) :
    OpR w w4 A4 c4 (ts ++ [⟨⟨false, 0, 0, td⟩, TA, tc⟩]) ∧ Bx w w4 g h base target ∧ g ∉ blk A4 ∧ h ∉ blk A4 := by
  have k14 : Keeps (blk A) wr w4 := (hka.mono (by simp)).trans hk (fun t ht => .inl ht)
  have s1 := hka.size
  have lg := lt_of_block x.bx.b
  have lh := lt_of_block x.bx.t
  have op := x.op.addB (t := ⟨⟨false, 0, 0, td⟩, TA, tc⟩) x.own (fun b hb => ⟨(x.ap b hb).1, (x.ap b hb).2.1, (x.ap b hb).2.2.2.2⟩) hka hn ho hk hf
  have nb : ∀ q, q < wr.heap.size → q ∉ blk A → q ∉ blk A4 := fun q h1 h2 hm => by
    obtain ⟨b, e1, e2⟩ := mem_blk.1 hm
    rcases hf b e1 with h3 | h3
    · rw [e2] at h3; exact h2 h3
    · omega
  exact ⟨op, ⟨(k14.block g lg x.gA.1).trans x.bx.b, (k14.block h lh x.gA.2).trans x.bx.t, op.kp⟩, nb g lg x.gA.1, nb h lh x.gA.2⟩
/-- A part that copies. -/
theorem OpR.copy {w wr wa w4 : World} {g h : Nat} {base target : List UInt8} {n : Nat} {A A4 : Option Addr} {c c4 : Nat} {ts : List Pt} {p : Pa} (op : OpR w wr A c ts) (bx : Bx w wr g h base target) (gA : g ∉ blk A ∧ h ∉ blk A) (hp : p.b = [])
    (hka : Keeps [] wr wa) (hn : n = ts.length) (ho : w4.ownsRow 0 46 4 (.slice A4 (n + 1) c4) (n + 1) (encPt ts ++ Pt.cells ⟨p, none, 0⟩)) (hk : Keeps (blk A) wa w4) (hf : ∀ b, A4 = some b → b.block ∈ blk A ∨ wa.heap.size ≤ b.block) :
    OpR w w4 A4 c4 (ts ++ [⟨p, none, 0⟩]) ∧ Bx w w4 g h base target ∧ g ∉ blk A4 ∧ h ∉ blk A4 := by
  have k14 : Keeps (blk A) wr w4 := (hka.mono (by simp)).trans hk (fun t ht => .inl ht)
  have s1 := hka.size
  have lg := lt_of_block bx.b
  have lh := lt_of_block bx.t
  have op4 := op.addB (t := ⟨p, none, 0⟩) (by rw [hp]; exact OwnB.nil _ _) (by simp) hka hn ho hk hf
  have nb : ∀ q, q < wr.heap.size → q ∉ blk A → q ∉ blk A4 := fun q h1 h2 hm => by
    obtain ⟨b, e1, e2⟩ := mem_blk.1 hm
    rcases hf b e1 with h3 | h3
    · rw [e2] at h3; exact h2 h3
    · omega
  exact ⟨op4, ⟨(k14.block g lg gA.1).trans bx.b, (k14.block h lh gA.2).trans bx.t, op4.kp⟩, nb g lg gA.1, nb h lh gA.2⟩
def ROpsP (base target : List UInt8) (w : World) (r : Ending) (w' : World) : Prop :=
  ∃ A c ts, r = .returned (.slice A ts.length c) ∧ OpR w w' A c ts ∧ ts.map Pt.p = opsE base target ∧ ts.length ≤ 64 ∧ ∀ t ∈ ts, t.p.b.length ≤ 64
end Go.Proofs.Ytljinghhalcnnaa
namespace Go.Proofs.Ytljinghhalcnnaa
open Go.RowKit

/-- Behind a part that copies. -/
theorem RoI.copied {w wr w4 : World} {g h : Nat} {base target : List UInt8} {a m1 m2 : Nat} {A A4 TA : Option Addr} {c c4 tc : Nat} {ts us : List Pt} {td : List UInt8} (x : RoI w wr g h base target a A c ts TA tc td) (ha : a < 64) (hm1 : m1 = (mat base target a).1) (hm2 : m2 = (mat base target a).2) (h4 : 4 ≤ m2) (hle : a + m2 ≤ 64)
    (hus : us.map Pt.p = flushE (ts.map Pt.p) td ++ [⟨true, m1, m2, []⟩]) (hub : ∀ t ∈ us, t.p.b.length ≤ 64) (hul : us.length ≤ ts.length + td.length + 1) (o : OpR w w4 A4 c4 us) (b : Bx w w4 g h base target) (hg : g ∉ blk A4 ∧ h ∉ blk A4) : RoI w w4 g h base target (a + m2) A4 c4 us none 0 [] := by
  refine ⟨o, b, OwnB.nil _ _, by simp, hg, ⟨hle, by have := x.le; simp only [List.length_nil]; omega, hub⟩, ?_, ?_⟩
  · rw [hus]
    unfold LastCp
    rw [List.getLast?_concat]
    simp
  · obtain ⟨f, hf1, hf2⟩ := x.run.2
    cases f with
    | zero => omega
    | succ f =>
      refine ⟨f, by omega, ?_⟩
      unfold opsF at hf2
      rw [if_neg (by omega), ← hm1, ← hm2, if_pos h4] at hf2
      rw [hus]
      unfold flushE at hf2 ⊢
      rw [if_pos rfl]
      exact hf2
set_option maxRecDepth 100000 in
set_option maxHeartbeats 16000000 in
theorem rops_any (base target : List UInt8) (hb : base.length = 64) (ht : target.length = 64) (w : World) :
    Calls Try.prog 10 #[.agg (encB base).toArray, .agg (encB target).toArray] w (ROpsP base target w) := by
  have HL := Lib.hid (And.intro hb ht)
  obtain ⟨bs, hbs⟩ : ∃ bs, bs = (encB base).toArray := ⟨_, rfl⟩
  obtain ⟨ts0, hts⟩ : ∃ ts, ts = (encB target).toArray := ⟨_, rfl⟩
  obtain ⟨g, hg⟩ : ∃ g, g = w.heap.size := ⟨_, rfl⟩
  obtain ⟨gh, hh⟩ : ∃ gh, gh = w.heap.size + 1 := ⟨_, rfl⟩
  obtain ⟨W, hW⟩ : ∃ W, W = (w.alloc (.cells bs 23)).alloc (.cells ts0 23) := ⟨_, rfl⟩
  have HB := Lib.hid (show Bx w W g gh base target from by
    refine ⟨?_, ?_, ?_⟩
    · rw [hW, hg, hbs]; exact heap_alloc2_old _ _ _
    · rw [hW, hh, hts]; exact heap_alloc2_new _ _ _
    · rw [hW]; exact ((Keeps.refl [] w).alloc _).alloc _)
  have HW := Lib.hid (show W = (w.alloc (.cells bs 23)).alloc (.cells ts0 23) ∧ gh = w.heap.size + 1 ∧ g = w.heap.size from ⟨hW, hh, hg⟩)
  have HBS := Lib.hid (show bs = (encB base).toArray ∧ ts0 = (encB target).toArray from ⟨hbs, hts⟩)
  have HIA := Lib.hid (show (Try.prog.info? 23).map (·.size) = some bs.size from by rw [hbs, List.size_toArray, length_encB, hb]; exact infoBlk)
  have HIB := Lib.hid (show (Try.prog.info? 23).map (·.size) = some ts0.size from by rw [hts, List.size_toArray, length_encB, ht]; exact infoBlk)
  rw [← hbs, ← hts]
  clear hb ht hbs hts hg hh hW
  go_enter Try.func10, Try.ntmps10
  go_upto_region 1 with fail
  rw [← HW.out.1, ← HW.out.2.1, ← HW.out.2.2]
  go_wp2_with fail
  go_loopw [5, 6, 7] (fun s5 s6 s7 wr => ∃ (a : Nat) (A : Option Addr) (c : Nat) (ts : List Pt) (TA : Option Addr) (tc : Nat) (td : List UInt8), s7 = .int .i64 a ∧ s5 = .slice A ts.length c ∧ s6 = .slice TA td.length tc ∧ Hid (RoI w wr g gh base target a A c ts TA tc td)) (fun _ _ s7 _ => 64 - (intOf s7).toNat)
  case atStart => exact ⟨0, none, 0, [], none, 0, [], rfl, rfl, rfl, ⟨OpR.nil w W HB.out.kp, HB.out, OwnB.nil _ _, by simp, ⟨by simp [blk], by simp [blk]⟩, ⟨by omega, by simp, by simp⟩, by simp [LastCp], 64, by omega, rfl⟩⟩
  case round =>
    obtain ⟨a, A, c, ts, TA, tc, td, rfl, rfl, rfl, D⟩ := hrel
    obtain ⟨n, hn⟩ : ∃ n, n = ts.length := ⟨_, rfl⟩
    have HN := Lib.hid hn
    have hn64 : n ≤ 64 := by have := D.out.le; omega
    have htd64 : td.length ≤ 64 := by have := D.out.le; omega
    have ha64 : a ≤ 64 := D.out.le.1
    rw [← hn]
    clear hn
    by_cases ha : a < 64
    · have hai : (a : Int) < 64 := by omega
      have HA := Lib.hid ha
      obtain ⟨m1, hm1⟩ : ∃ m1, m1 = (mat base target a).1 := ⟨_, rfl⟩
      obtain ⟨m2, hm2⟩ : ∃ m2, m2 = (mat base target a).2 := ⟨_, rfl⟩
      have HM := Lib.hid (show m1 = (mat base target a).1 ∧ m2 = (mat base target a).2 ∧ m1 ≤ 64 ∧ a + m2 ≤ 64 from ⟨hm1, hm2, by rw [hm1]; exact (mat_len base target HL.out.1 HL.out.2 a (by omega)).1, by rw [hm2]; exact (mat_len base target HL.out.1 HL.out.2 a (by omega)).2⟩)
      have HMI := Lib.hid (show matI base target (a : Int) = (m1, m2) from by unfold matI; rw [if_neg (by omega), hm1, hm2]; rfl)
      clear ha hm1 hm2
      go_wp2_with (first
        | (refine wpList_load_row rfl 23 (.tmp 2) rfl g rfl 23 bs (0, 0) _ (by rw [HBS.out.1]; exact D.out.bx.b) Try.underlying23 rfl HIA.out ?_)
        | (refine wpList_load_row rfl 23 (.tmp 3) rfl gh rfl 23 ts0 (0, 0) _ (by rw [HBS.out.2]; exact D.out.bx.t) Try.underlying23 rfl HIB.out ?_))
      have HC := rmatch_any base target HL.out.1 HL.out.2 (a : Int) wr
      rw [HMI.out, ← HBS.out.1, ← HBS.out.2] at HC
      refine HC.mono ?_
      clear HC
      rintro r w1 ⟨rfl, hk1⟩
      have D1 := Lib.hid (D.out.keeps0 hk1)
      clear hk1 D HMI
      have hm64 : m2 ≤ 64 := by have := HM.out; omega
      by_cases h4 : 4 ≤ m2
      · have h4i : ¬ (m2 : Int) < 4 := by omega
        have H4 := Lib.hid h4
        have e1 : wrap64 ((a : Int) + (m2 : Int)) = ((a + m2 : Nat) : Int) := by have := HM.out; unfold wrap64; omega
        clear h4
        by_cases htd : td = []
        · subst htd
          have h0 : ¬ (0 : Int) < (([] : List UInt8).length : Int) := by simp
          go_wp2_with (at_builtin; refine wpList_appendV rfl (.tmp 37) (.tmp 41) 26 46 rfl Try.underlying26 _ 4 48 infoOpR rfl (by decide) A c n (encPt ts) rfl (by rw [HN.out]; exact ownsRow_keeps D1.out.op.own ((Keeps.refl [] w1).alloc _) (by simp)) (some ⟨w1.heap.size, 0, none⟩) 1 1 (Pt.cells ⟨⟨true, m1, m2, []⟩, none, 0⟩) rfl (Rd.lit4 (heap_alloc_new _ _)) (Pt.one _) (by unfold maxLen; omega) (by omega) ?_; intro A4 c4 w4 ho hk hf; have C4 := OpR.copy (p := ⟨true, m1, m2, []⟩) D1.out.op D1.out.bx D1.out.gA rfl ((Keeps.refl [] w1).alloc _) HN.out ho hk hf; have D4 := Lib.hid (D1.out.copied HA.out HM.out.1 HM.out.2.1 H4.out HM.out.2.2.2 (by rw [List.map_append]; rfl) (fun t ht => by rcases List.mem_append.1 ht with h5 | h5; exact D1.out.le.2.2 t h5; obtain rfl := List.mem_singleton.1 h5; exact Nat.zero_le _) (by rw [List.length_append, List.length_singleton]; simp) C4.1 C4.2.1 C4.2.2); clear ho hk hf C4)
          go_roundw
          case rel => exact ⟨a + m2, A4, c4, _, none, 0, [], by go_num, by rw [List.length_append, HN.out]; rfl, rfl, D4⟩
          case measure => have := HA.out; have := H4.out; simp [intOf]; omega
        · have htl : 0 < td.length := List.length_pos_iff.2 htd
          have h0 : (0 : Int) < (td.length : Int) := by omega
          have HTD := Lib.hid htd
          clear htd
          go_wp2_with (first
            | (at_builtin; refine wpList_appendV rfl (.tmp 32) (.tmp 35) 26 46 rfl Try.underlying26 _ 4 48 infoOpR rfl (by decide) A c n (encPt ts) rfl (by rw [HN.out]; exact ownsRow_keeps D1.out.op.own ((Keeps.refl [] w1).alloc _) (by simp)) (some ⟨w1.heap.size, 0, none⟩) 1 1 (Pt.cells ⟨⟨false, 0, 0, td⟩, TA, tc⟩) rfl (Rd.lit4 (heap_alloc_new _ _)) (Pt.one _) (by unfold maxLen; omega) (by omega) ?_; intro A3 c3 w3 ho hk hf; have D3 := Lib.hid (D1.out.flush ((Keeps.refl [] w1).alloc _) HN.out ho hk hf); clear ho hk hf)
            | (at_builtin; refine wpList_appendV rfl (.tmp 37) (.tmp 41) 26 46 rfl Try.underlying26 _ 4 48 infoOpR rfl (by decide) A3 c3 (n + 1) (encPt (ts ++ [⟨⟨false, 0, 0, td⟩, TA, tc⟩])) rfl (by have h := D3.out.1.own; rw [List.length_append, List.length_singleton, ← HN.out] at h; exact ownsRow_keeps h ((Keeps.refl [] w3).alloc _) (by simp)) (some ⟨w3.heap.size, 0, none⟩) 1 1 (Pt.cells ⟨⟨true, m1, m2, []⟩, none, 0⟩) rfl (Rd.lit4 (heap_alloc_new _ _)) (Pt.one _) (by unfold maxLen; omega) (by omega) ?_; intro A4 c4 w4 ho hk hf; have C4 := OpR.copy (p := ⟨true, m1, m2, []⟩) D3.out.1 D3.out.2.1 D3.out.2.2 rfl ((Keeps.refl [] w3).alloc _) (by rw [List.length_append, HN.out]; rfl) ho hk hf; have D4 := Lib.hid (D1.out.copied HA.out HM.out.1 HM.out.2.1 H4.out HM.out.2.2.2 (by unfold flushE; rw [if_neg HTD.out, List.map_append, List.map_append]; rfl) (fun t ht => by rcases List.mem_append.1 ht with h5 | h5; (rcases List.mem_append.1 h5 with h5 | h5; exact D1.out.le.2.2 t h5; obtain rfl := List.mem_singleton.1 h5; exact htd64); obtain rfl := List.mem_singleton.1 h5; exact Nat.zero_le _) (by rw [List.length_append, List.length_append, List.length_singleton, List.length_singleton]; omega) C4.1 C4.2.1 C4.2.2); clear ho hk hf C4))
          go_roundw
          case rel => exact ⟨a + m2, A4, c4, _, none, 0, [], by go_num, by rw [List.length_append, List.length_append, HN.out]; rfl, rfl, D4⟩
          case measure => have := HA.out; have := H4.out; simp [intOf]; omega
      · have h4i : (m2 : Int) < 4 := by omega
        have H4 := Lib.hid (show ¬ 4 ≤ (mat base target a).2 from by rw [← HM.out.2.1]; exact h4)
        clear h4
        obtain ⟨x, hx⟩ : ∃ x : UInt8, x = target.getD a 0 := ⟨_, rfl⟩
        have hxc : w1.cell? ⟨gh, a, none⟩ = some (.int .u8 (x.toNat : Int)) := by
          have h1 := rdb_at (rdb_row D1.out.bx.t) (n := a) (by rw [HL.out.2]; exact HA.out)
          obtain ⟨g', o', e1, e2⟩ := h1
          injection e1 with e1
          injection e1 with e3 e4
          subst e3 e4
          rw [Nat.zero_add] at e2
          rw [e2, hx, List.getD_eq_getElem?_getD, List.getElem?_eq_getElem (by rw [HL.out.2]; exact HA.out)]
          rfl
        have HX := Lib.hid hx
        clear hx
        go_wp2_with (at_builtin; refine wpList_appendB rfl (.tmp 21) (.tmp 25) 31 5 rfl Try.underlying31 infoB TA tc td rfl (D1.out.own.keeps0 ((Keeps.refl [] w1).alloc _)) (some ⟨w1.heap.size, 0, none⟩) 1 [x] rfl (rdb_row (l := [x]) (heap_alloc_new _ _)) (by simp; omega) ?_; intro T4 t4c w4 l4 hl4 ho hk hf; have D4 := Lib.hid (D1.out.told HA.out H4.out ((Keeps.refl [] w1).alloc _) (by rw [← HX.out]; exact hl4.out) ho hk hf); clear hl4 ho hk hf)
        go_roundw
        case rel => exact ⟨a + 1, A, c, ts, T4, t4c, l4, by go_num, by rw [HN.out], rfl, D4⟩
        case measure => have := HA.out; simp [intOf]; omega
    · have hai : ¬ (a : Int) < 64 := by omega
      have HE := Lib.hid (show flushE (ts.map Pt.p) td = opsE base target from by
        obtain ⟨f, _, h2⟩ := D.out.run.2
        rw [opsF_end _ _ _ _ _ (by omega)] at h2
        exact h2)
      clear ha
      by_cases htd : td = []
      · subst htd
        have h0 : ¬ (0 : Int) < (([] : List UInt8).length : Int) := by simp
        have HF := Lib.hid (show ts.map Pt.p = opsE base target from by have h1 := HE.out; unfold flushE at h1; rw [if_pos rfl] at h1; exact h1)
        go_wp2_with fail
        go_ret
        exact ⟨A, c, ts, by rw [HN.out]; rfl, D.out.op, HF.out, by have := D.out.le; omega, D.out.le.2.2⟩
      · have htl : 0 < td.length := List.length_pos_iff.2 htd
        have h0 : (0 : Int) < (td.length : Int) := by omega
        have HF := Lib.hid (show ts.map Pt.p ++ [⟨false, 0, 0, td⟩] = opsE base target from by have h1 := HE.out; unfold flushE at h1; rw [if_neg htd] at h1; exact h1)
        clear htd
        go_wp2_with (at_builtin; refine wpList_appendV rfl (.tmp 49) (.tmp 52) 26 46 rfl Try.underlying26 _ 4 48 infoOpR rfl (by decide) A c n (encPt ts) rfl (by rw [HN.out]; exact ownsRow_keeps D.out.op.own ((Keeps.refl [] wr).alloc _) (by simp)) (some ⟨wr.heap.size, 0, none⟩) 1 1 (Pt.cells ⟨⟨false, 0, 0, td⟩, TA, tc⟩) rfl (Rd.lit4 (heap_alloc_new _ _)) (Pt.one _) (by unfold maxLen; omega) (by omega) ?_; intro A3 c3 w3 ho hk hf; have D3 := Lib.hid (D.out.flush ((Keeps.refl [] wr).alloc _) HN.out ho hk hf); clear ho hk hf)
        go_ret
        refine ⟨A3, c3, _, by rw [List.length_append, HN.out]; rfl, D3.out.1, by rw [List.map_append]; exact HF.out, by have := D.out.le; rw [List.length_append, List.length_singleton]; omega, fun t ht => ?_⟩
        rcases List.mem_append.1 ht with h5 | h5
        · exact D.out.le.2.2 t h5
        · obtain rfl := List.mem_singleton.1 h5
          exact htd64
end Go.Proofs.Ytljinghhalcnnaa
namespace Go.Proofs.Ytljinghhalcnnaa
open Go.RowKit

theorem pkpower_any (n : Nat) (w : World) (hn : n ≤ 63) : Calls Try.prog 43 #[.int .i64 n] w fun e w' => e = .returned (.int .u64 ((2 ^ n : Nat) : Int)) ∧ w = w' := by
  go_enter Try.func43, Try.ntmps43
  go_wp2_with fail
  go_loop [3, 4] (fun p i => ∃ j : Nat, j ≤ n ∧ i = .int .i64 j ∧ p = .int .u64 ((2 ^ j : Nat) : Int)) (fun _ i => n - (intOf i).toNat)
  case atStart => exact ⟨0, Nat.zero_le _, rfl, rfl⟩
  case round =>
    obtain ⟨j, hj, rfl, rfl⟩ := hrel
    by_cases hlt : j < n
    · have hp : (2 : Nat) ^ j ≤ 2 ^ 62 := Nat.pow_le_pow_right (by omega) (by omega)
      obtain ⟨P, hP⟩ : ∃ P, P = (2 : Nat) ^ j := ⟨_, rfl⟩
      rw [← hP] at hp ⊢
      have hp2 : (P : Int) ≤ 4611686018427387904 := by omega
      have HP := Lib.hid (show P * 2 = 2 ^ (j + 1) by rw [hP, Nat.pow_succ])
      clear hP hp
      go_wp2_with fail
      go_round
      case rel => exact ⟨j + 1, by omega, by go_num, by rw [← HP.out, Int.natCast_mul, Int.mul_comm]; rfl⟩
      case measure => simp [intOf]; omega
    · obtain rfl : j = n := by omega
      go_wp2_with fail
      go_ret
      exact ⟨rfl, rfl⟩

theorem pkmore_any (n : Nat) (w : World) : Calls Try.prog 29 #[.int .u64 n] w fun e w' => e = .returned (.int .i64 (bh n : Nat)) ∧ w = w' := by
  go_enter Try.func29, Try.ntmps29
  go_wp2_with fail
  go_loop [3] (fun i => ∃ k : Nat, k ≤ 8 ∧ i = .int .i64 k ∧ Hid (0 < k → 2 ^ (7 * k) ≤ n)) (fun i => 8 - (intOf i).toNat)
  case atStart => exact ⟨0, by omega, rfl, fun h => absurd h (by omega)⟩
  case round =>
    obtain ⟨k, hk, rfl, hH⟩ := hrel
    by_cases hlt : k < 8
    · have hk3 : (k : Int) ≤ 7 := by omega
      go_wp2_with fail
      have := pkpower_any (7 * k + 7) w (by omega)
      rw [show ((7 * k + 7 : Nat) : Int) = 7 * (k : Int) + 7 by omega] at this
      refine this.mono ?_
      rintro e w' ⟨rfl, rfl⟩
      obtain ⟨P, hP⟩ : ∃ P, P = (2 : Nat) ^ (7 * k + 7) := ⟨_, rfl⟩
      rw [← hP]
      have HP := Lib.hid hP
      clear hP this
      by_cases hnp : n < P
      · have hnp' : (n : Int) < (P : Int) := by omega
        have HN := Lib.hid hnp
        clear hnp
        go_wp2_with fail
        go_ret
        exact ⟨ret_int (by rw [bh_unique (n := n) (k := k) (by omega) (fun _ => by rw [← HP.out]; exact HN.out) hH.out]), rfl⟩
      · have hnp' : ¬ (n : Int) < (P : Int) := by omega
        have HN := Lib.hid hnp
        clear hnp
        go_wp2_with fail
        go_round
        case rel => exact ⟨k + 1, by omega, by go_num, fun _ => by have := HN.out; rw [HP.out] at this; rw [show 7 * (k + 1) = 7 * k + 7 by omega]; omega⟩
        case measure => simp [intOf]; omega
    · obtain rfl : k = 8 := by omega
      go_wp2_with fail
      go_ret
      exact ⟨ret_int (by rw [bh_unique (n := n) (k := 8) (by omega) (fun h => absurd h (by omega)) hH.out]; rfl), rfl⟩

theorem pkones_any (k : Nat) (w : World) (hk : k ≤ 8) : Calls Try.prog 31 #[.int .i64 k] w fun e w' => e = .returned (.int .u8 ((256 - 2 ^ (8 - k) : Nat) : Int)) ∧ w = w' := by
  go_enter Try.func31, Try.ntmps31
  go_wp2_with fail
  have := pkpower_any (8 - k) w (by omega)
  rw [show ((8 - k : Nat) : Int) = 8 - (k : Int) by omega] at this
  refine this.mono ?_
  rintro e w' ⟨rfl, rfl⟩
  have h1 : (1 : Nat) ≤ 2 ^ (8 - k) := Nat.one_le_two_pow
  have h2 : (2 : Nat) ^ (8 - k) ≤ 2 ^ 8 := Nat.pow_le_pow_right (by omega) (by omega)
  obtain ⟨P, hP⟩ : ∃ P, P = (2 : Nat) ^ (8 - k) := ⟨_, rfl⟩
  rw [← hP] at h1 h2 ⊢
  have hp1 : (1 : Int) ≤ (P : Int) := by omega
  have hp2 : (P : Int) ≤ 256 := by omega
  have HP := Lib.hid hP
  clear hP this h2
  go_wp2_with fail
  go_ret
  refine ⟨ret_int ?_, rfl⟩
  rw [← HP.out]
  omega

end Go.Proofs.Ytljinghhalcnnaa
namespace Go.Proofs.Ytljinghhalcnnaa
open Go.RowKit

theorem strCells_strB (l : List UInt8) : Lib.strCells (strB l) = encB l := by
  simp [Lib.strCells, strB, encB]
theorem wpList_appendS {P : Program} {w : World} {ops : Array Oper} {rest : List Oper} {o : Oper} {a : Act} {Q : Exit → Act → World → Prop} (hgd : o.guard = none) (s x : Operand) (t u E : TypeId)
    (ho : o.op = .call { callee := .builtin .append, args := #[s, x], argTypes := #[t, u] }) (ht : P.underlying t = some (.slice E)) (hu : P.underlying u = some .string)
    (hinfo : (P.info? E).map (fun i => (i.zero, i.size, i.bytes)) = some (some (.int .u8 0), 1, 1))
    (A : Option Addr) (cv : Nat) (l : List UInt8) (hs : a.eval s = .slice A l.length cv) (hown : OwnB E w A cv l)
    (l2 : List UInt8) (hx : a.eval x = .string (strB l2)) (hb : l.length + l2.length ≤ 140737488355328)
    (h : ∀ A' c' w' l', Hid (l' = l ++ l2) → OwnB E w' A' c' l' → Keeps (blk A) w w' → (∀ a, A' = some a → a.block ∈ blk A ∨ w.heap.size ≤ a.block) → wpList P ops Q rest (a.put o.dst (.slice A' l'.length c')) w') :
    wpList P ops Q (o :: rest) a w := by
  refine wpList_plain hgd fun K hK => ?_
  obtain ⟨i, hi, hz0, hz1, hz2⟩ := info_parts hinfo
  obtain ⟨v', w', hr, hown', hg, hn⟩ := Lib.run_append_own_string (P := P) w 0 t u o.type E i ht hu hi hz0 hz1 hz2 (.slice A l.length cv) l.length (encB l) hown (strB l2) (by show l.length + l2.length ≤ _; unfold maxLen; omega) hb (Nat.zero_le _)
  have hsz : (strB l2).size = l2.length := rfl
  rw [strCells_strB, ← encB_append, hsz] at hown'
  have hll : l.length + l2.length = (l ++ l2).length := by simp
  rw [hll] at hown'
  have hb' : ∀ A' m c', v' = .slice A' m c' → ∀ a, A' = some a → a.block ∈ blk A ∨ w.heap.size ≤ a.block := by
    intro A' m c' hv a ha
    subst hv ha
    rcases hown.2 with ⟨h1, h0⟩ | ⟨g, cap, cur, h1, _, hh, hnc, hcm, hcs, _⟩
    · injection h1 with e1 e2 e3
      subst e1 e3
      rw [h0] at hr
      have h2 : 0 < (strB l2).size := by
        rcases Nat.eq_zero_or_pos (strB l2).size with h | h
        · exact absurd (hn.2 ⟨by rw [h0], h⟩) (by simp)
        · exact h
      have hr2 := run_append_nil_string (P := P) w t u o.type E i (.int .u8 0) ht hu hi hz0 (strB l2) h2 (by rw [hsz]; omega) (by rw [hsz, hz2]; omega)
      rw [hr] at hr2
      injection hr2 with e4 _
      injection e4 with e5 _ _
      obtain rfl := Option.some.inj e5
      exact .inr (Nat.le_refl _)
    · injection h1 with e1 e2 e3
      subst e1 e3
      by_cases hroom : l.length + (strB l2).size ≤ cv
      · have hr2 := Lib.run_append_room_string (P := P) w t u o.type E i ht hu hi hz1 g l.length cv cur hh (strB l2) hroom (by simpa [hcs] using hroom)
        rw [hr] at hr2
        injection hr2 with e4 _
        injection e4 with e5 _ _
        obtain rfl := Option.some.inj e5
        exact .inl (by simp [blk])
      · have hr2 := Lib.run_append_grow_string (P := P) w t u o.type E i (.int .u8 0) ht hu hi hz0 ⟨g, 0, none⟩ l.length cv (encB l) (by rw [hz1]; simp) (World.ownsRow.cells hown (g := g) rfl) (strB l2) (by omega) (by rw [hsz]; omega) (by rw [hz2]; exact growslice_fits (by omega) (by rw [hsz]; omega))
        rw [hr] at hr2
        injection hr2 with e4 _
        injection e4 with e5 _ _
        obtain rfl := Option.some.inj e5
        exact .inr (Nat.le_refl _)
  have hshape : ∃ A' c', v' = .slice A' (l ++ l2).length c' := by
    rcases hown'.2 with ⟨h1, h0⟩ | ⟨g, cap, cur, h1, _⟩
    · exact ⟨none, 0, by rw [h1, h0]⟩
    · exact ⟨_, cap, h1⟩
  obtain ⟨A', c', rfl⟩ := hshape
  unfold Oper.wp execOp
  simp only [ho, resolve, invoke, builtin, Sem.run_bind, Sem.run_pure, Result.andThen_ok, List.map_toArray, List.map_cons, List.map_nil, hs, hx, hr]
  refine hK _ _ (h A' c' w' (l ++ l2) rfl hown' ⟨hg.os, hg.tape, hg.output, hg.size, fun k hk hnm => hg.block k hk (fun e => hnm ?_)⟩ (hb' A' _ c' rfl))
  cases A with
  | none => simp [Value.ownBlock] at e
  | some a0 => simp only [Value.ownBlock, Option.some.injEq] at e; exact mem_blk.2 ⟨a0, rfl, e.symm⟩
end Go.Proofs.Ytljinghhalcnnaa
namespace Go.Proofs.Ytljinghhalcnnaa
open Go.RowKit

theorem own02_any (A : Option Addr) (l : List UInt8) (c : Nat) (w : World) (hl : l.length ≤ 140737488355328) (hr : RdB w A l) :
    Calls Try.prog 30 #[.slice A l.length c] w (NewB 5 l w) := by
  have HR := Lib.hid hr
  clear hr
  go_enter Try.func30, Try.ntmps30
  go_wp2_with (at_builtin; refine wpList_appendB rfl (.tmp 4) (.tmp 5) 31 5 rfl Try.underlying31 infoB none 0 [] rfl (OwnB.nil _ _) A c l rfl HR.out (by simp <;> omega) ?_; intro A' c' w' l' hl' ho hk hb)
  go_ret
  refine ⟨A', c', l', hl', rfl, ho, fun a ha => ?_, hk⟩
  rcases hb a ha with h | h
  · simp [blk] at h
  · exact h

theorem be_drop (k n j : Nat) (hj : j < k) : (be k n).drop (k - (j + 1)) = UInt8.ofNat (n / 2 ^ (8 * j) % 256) :: (be k n).drop (k - j) := by
  have h : k - (j + 1) < (be k n).length := by simp; omega
  rw [List.drop_eq_getElem_cons h, show k - (j + 1) + 1 = k - j by omega]
  congr 1
  simp only [be, List.getElem_map, List.getElem_range]
  rw [show k - 1 - (k - (j + 1)) = j by omega]

set_option maxHeartbeats 1000000 in
theorem refuintw_any (A : Option Addr) (l : List UInt8) (c : Nat) (n : Nat) (w : World) (hl : l.length + 20 ≤ 140737488355328) (hr : RdB w A l) (hn : n < 18446744073709551616) :
    Calls Try.prog 19 #[.slice A l.length c, .int .u64 n] w (NewB 5 (l ++ uintB n) w) := by
  have HR := Lib.hid hr
  have hk8 := bh_le n
  clear hr
  go_enter Try.func19, Try.ntmps19
  go_wp2_with fail
  refine (pkmore_any n _).mono ?_
  rintro e w' ⟨rfl, rfl⟩
  obtain ⟨k, hk⟩ : ∃ k, k = bh n := ⟨_, rfl⟩
  rw [← hk] at hk8 ⊢
  have HK := Lib.hid hk
  clear hk
  go_wp2_with fail
  go_loopw [1, 6, 7] (fun nn d i wr => ∃ j : Nat, ∃ (A' : Option Addr) (c' : Nat) (dl : List UInt8), j ≤ k ∧ i = .int .i64 j ∧ nn = .int .u64 ((n / 2 ^ (8 * j) : Nat) : Int) ∧ d = .slice A' dl.length c' ∧ Hid (dl = (be k n).drop (k - j)) ∧ Hid (OwnB 5 wr A' c' dl) ∧ Hid (∀ a, A' = some a → w.heap.size ≤ a.block) ∧ Hid (Keeps [] w wr)) (fun _ _ i _ => k - (intOf i).toNat)
  case atStart => exact ⟨0, none, 0, [], by omega, rfl, by simp, rfl, by show _ = _; simp, OwnB.nil _ _, by show ∀ a, _; simp, Keeps.refl [] w⟩
  case round =>
    obtain ⟨j, A1, c1, dl, hj, rfl, rfl, rfl, hd, hO, hN, hK⟩ := hrel
    by_cases hlt : j < k
    · obtain ⟨m, hm⟩ : ∃ m, m = n / 2 ^ (8 * j) := ⟨_, rfl⟩
      rw [← hm]
      have hmn : m ≤ n := by rw [hm]; exact Nat.div_le_self _ _
      have hm64 : (m : Int) < 18446744073709551616 := by omega
      have hdl : dl.length ≤ 9 := by rw [hd.out]; simp; omega
      obtain ⟨b, hb⟩ : ∃ b : UInt8, b = UInt8.ofNat (m % 256) := ⟨_, rfl⟩
      have hbi : ((m : Int) % 256) = (b.toNat : Int) := by rw [hb, UInt8.toNat_ofNat', Nat.mod_mod]; simp
      have HM := Lib.hid hm
      have HB := Lib.hid hb
      clear hm hb hmn
      go_wp2_with (at_builtin; first
        | (refine wpList_appendB rfl (.tmp 16) (.tmp 20) 31 5 rfl Try.underlying31 infoB none 0 [] rfl (OwnB.nil _ _) (some ⟨wr.heap.size, 0, none⟩) 1 [b] rfl (RdB.lit wr [b] 5 (0, 0)) (by simp) ?_; intro A2 c2 w2 l2 hl2 ho2 hk2 hb2; have HO2 := Lib.hid ho2; have HK2 := Lib.hid hk2; have HB2 := Lib.hid hb2; have hl2l : l2.length ≤ 1 := by { rw [hl2.out]; simp }; clear ho2 hk2 hb2)
        | (refine wpList_appendB rfl (.tmp 21) (.tmp 22) 31 5 rfl Try.underlying31 infoB A2 c2 l2 rfl HO2.out A1 c1 dl rfl ((hO.out.rd.alloc _).keeps0 HK2.out) (by omega) ?_; intro A3 c3 w3 l3 hl3 ho3 hk3 hb3; have HO3 := Lib.hid ho3; have HK3 := Lib.hid hk3; have HB3 := Lib.hid hb3; clear ho3 hk3 hb3))
      have N2 : ∀ a, A2 = some a → w.heap.size ≤ a.block := fun a ha => by
        rcases HB2.out a ha with h | h
        · simp [blk] at h
        · have := hK.out.size; simp at h; omega
      have K2 : Keeps [] w w2 := (hK.out.alloc _).trans HK2.out (by simp [blk])
      go_roundw
      case rel =>
        refine ⟨j + 1, A3, c3, l3, by omega, by go_num, ?_, rfl, ?_, HO3.out, fresh_append HB3.out N2 K2.size, K2.fresh HK3.out N2⟩
        · have e : n / 2 ^ (8 * (j + 1)) = m / 256 := by rw [HM.out, Nat.div_div_eq_div_mul, show 8 * (j + 1) = 8 * j + 8 by omega, Nat.pow_add]
          rw [e]
          simp
        · show _ = _
          rw [hl3.out, hl2.out, hd.out, be_drop k n j hlt, HB.out, HM.out]
          simp
      case measure => simp [intOf]; omega
    · have hjk : j = k := by omega
      have hji : ¬ (j : Int) < (k : Int) := by omega
      obtain ⟨m, hm⟩ : ∃ m, m = n / 2 ^ (8 * j) := ⟨_, rfl⟩
      rw [← hm]
      obtain ⟨O, hO2⟩ : ∃ O, O = 256 - 2 ^ (8 - k) := ⟨_, rfl⟩
      obtain ⟨f1, _, f3⟩ := first_nat n hn
      rw [← HK.out, ← hjk, ← hm, hjk, ← hO2] at f1 f3
      obtain ⟨f, hf⟩ : ∃ f : UInt8, f = UInt8.ofNat (O + m) := ⟨_, rfl⟩
      rw [← hf] at f1
      have HAW := Lib.hid (show IntKind.u8.wrap ((O : Int) + (m : Int)) = (f.toNat : Int) by rw [IntKind.wrap_u8, f1]; omega)
      have HMW := Lib.hid (show IntKind.u8.wrap (m : Int) = (m : Int) by rw [IntKind.wrap_u8]; omega)
      have HFE := Lib.hid (show uintB n = f :: be k n by unfold uintB; rw [← HK.out, hf, hO2, hm, hjk])
      have HO2 := Lib.hid hO2
      have hdl : dl.length ≤ 9 := by rw [hd.out]; simp; omega
      have HDL := Lib.hid (show dl = be k n by rw [hd.out, hjk]; simp)
      clear hm hO2 f1 f3 hf hlt hjk hj
      go_wp2_with fail
      refine (own02_any A l c _ (by omega) (HR.out.keeps0 hK.out)).mono ?_
      rintro e w2 ⟨A2, c2, l2, hl2, rfl, ho2, hn2, hk2⟩
      obtain rfl : l2 = l := hl2.out
      have HO := Lib.hid ho2
      have N2 := Lib.hid (show ∀ a, A2 = some a → w.heap.size ≤ a.block from fun a ha => Nat.le_trans hK.out.size (hn2 a ha))
      have HD2 := Lib.hid (hO.out.rd.keeps0 hk2)
      have N2w := Lib.hid hn2
      have L1 := Lib.hid hO.out.lt
      have K2 := Lib.hid (hK.out.trans hk2 (by simp))
      clear ho2 hn2 hk2
      go_wp2_with fail
      refine (pkones_any k _ hk8).mono ?_
      rw [← HO2.out]
      rintro e w' ⟨rfl, rfl⟩
      have haw := HAW.out
      have hmw := HMW.out
      go_wp2_with (at_builtin; first
        | (refine wpList_appendB rfl (.tmp 27) (.tmp 33) 31 5 rfl Try.underlying31 infoB A2 c2 l2 rfl (HO.out.alloc _) (some ⟨w2.heap.size, 0, none⟩) 1 [f] rfl (RdB.lit w2 [f] 5 (0, 0)) (by simp; omega) ?_; intro A3 c3 w3 l3 hl3 ho3 hk3 hb3; have HO3 := Lib.hid ho3; have HK3 := Lib.hid hk3; have HB3 := Lib.hid hb3; have hl3b : l3.length ≤ l2.length + 1 := by { rw [hl3.out]; simp }; clear ho3 hk3 hb3)
        | (refine wpList_appendB rfl (.tmp 34) (.tmp 35) 31 5 rfl Try.underlying31 infoB A3 c3 l3 rfl HO3.out A1 c1 dl rfl ((HD2.out.alloc _).keeps HK3.out (fun a ha h hm => by { obtain ⟨a2, e2, e3⟩ := mem_blk.1 hm; have q1 := N2w.out a2 e2; have q2 := L1.out a ha; omega })) (by omega) ?_; intro A4 c4 w4 l4 hl4 ho4 hk4 hb4; have HO4 := Lib.hid ho4; have HK4 := Lib.hid hk4; have HB4 := Lib.hid hb4; clear ho4 hk4 hb4))
      go_ret
      have K3 := (K2.out.alloc (.cells #[.int .u8 (f.toNat : Int)] 5)).fresh HK3.out N2.out
      have N3 := fresh_append HB3.out N2.out (Nat.le_trans K2.out.size (by simp))
      refine ⟨A4, c4, l4, ?_, rfl, HO4.out, fresh_append HB4.out N3 K3.size, K3.fresh HK4.out N3⟩
      show _ = _
      rw [hl4.out, hl3.out, HDL.out, HFE.out]
      simp

theorem refboolw_any (A : Option Addr) (l : List UInt8) (c : Nat) (b : Bool) (w : World) (hl : l.length + 20 ≤ 140737488355328) (hr : RdB w A l) :
    Calls Try.prog 20 #[.slice A l.length c, .bool b] w (NewB 5 (l ++ [if b then 1 else 0]) w) := by
  have HR := Lib.hid hr
  clear hr
  cases b
  · go_enter Try.func20, Try.ntmps20
    go_wp2_with fail
    refine (own02_any A l c _ (by omega) HR.out).mono ?_
    rintro e w2 ⟨A2, c2, l2, hl2, rfl, ho2, hn2, hk2⟩
    obtain rfl : l2 = l := hl2.out
    have HO := Lib.hid ho2
    have N2 := Lib.hid hn2
    have K2 := Lib.hid hk2
    clear ho2 hn2 hk2
    go_wp2_with (at_builtin; refine wpList_appendB rfl (.tmp 11) (.tmp 12) 31 5 rfl Try.underlying31 infoB A2 c2 l2 rfl (HO.out.alloc _) (some ⟨w2.heap.size, 0, none⟩) 1 [0] rfl (RdB.lit w2 [0] 5 (0, 0)) (by simp; omega) ?_; intro A3 c3 w3 l3 hl3 ho3 hk3 hb3; have HO3 := Lib.hid ho3; have HK3 := Lib.hid hk3; have HB3 := Lib.hid hb3; clear ho3 hk3 hb3)
    go_ret
    exact ⟨A3, c3, l3, by show _ = _; rw [hl3.out], rfl, HO3.out, fresh_append HB3.out N2.out (Nat.le_trans K2.out.size (by simp)), (K2.out.alloc _).fresh HK3.out N2.out⟩
  · go_enter Try.func20, Try.ntmps20
    go_wp2_with fail
    refine (own02_any A l c _ (by omega) HR.out).mono ?_
    rintro e w2 ⟨A2, c2, l2, hl2, rfl, ho2, hn2, hk2⟩
    obtain rfl : l2 = l := hl2.out
    have HO := Lib.hid ho2
    have N2 := Lib.hid hn2
    have K2 := Lib.hid hk2
    clear ho2 hn2 hk2
    go_wp2_with (at_builtin; refine wpList_appendB rfl (.tmp 7) (.tmp 8) 31 5 rfl Try.underlying31 infoB A2 c2 l2 rfl (HO.out.alloc _) (some ⟨w2.heap.size, 0, none⟩) 1 [1] rfl (RdB.lit w2 [1] 5 (0, 0)) (by simp; omega) ?_; intro A3 c3 w3 l3 hl3 ho3 hk3 hb3; have HO3 := Lib.hid ho3; have HK3 := Lib.hid hk3; have HB3 := Lib.hid hb3; clear ho3 hk3 hb3)
    go_ret
    exact ⟨A3, c3, l3, by show _ = _; rw [hl3.out], rfl, HO3.out, fresh_append HB3.out N2.out (Nat.le_trans K2.out.size (by simp)), (K2.out.alloc _).fresh HK3.out N2.out⟩
theorem refbytesw_any (A : Option Addr) (l : List UInt8) (c : Nat) (A0 : Option Addr) (x : List UInt8) (c0 : Nat) (w : World) (hl : l.length + x.length + 20 ≤ 140737488355328) (hr : RdB w A l) (hx : RdB w A0 x) :
    Calls Try.prog 21 #[.slice A l.length c, .slice A0 x.length c0] w (NewB 5 (l ++ (uintB x.length ++ x)) w) := by
  have HR := Lib.hid hr
  have HX := Lib.hid hx
  clear hr hx
  go_enter Try.func21, Try.ntmps21
  go_wp2_with fail
  refine (refuintw_any A l c x.length _ (by omega) HR.out (by omega)).mono ?_
  rintro e w2 ⟨A2, c2, l2, hl2, rfl, ho2, hn2, hk2⟩
  have hlen2 : l2.length ≤ l.length + 9 := by rw [hl2.out]; have := length_uintB_le x.length; simp at this ⊢; omega
  have HO := Lib.hid ho2
  have N2 := Lib.hid hn2
  have K2 := Lib.hid hk2
  clear ho2 hn2 hk2
  go_wp2_with (at_builtin; refine wpList_appendB rfl (.tmp 9) (.tmp 10) 31 5 rfl Try.underlying31 infoB A2 c2 l2 rfl HO.out A0 c0 x rfl (HX.out.keeps0 K2.out) (by omega) ?_; intro A3 c3 w3 l3 hl3 ho3 hk3 hb3; have HO3 := Lib.hid ho3; have HK3 := Lib.hid hk3; have HB3 := Lib.hid hb3; clear ho3 hk3 hb3)
  go_ret
  exact ⟨A3, c3, l3, by show _ = _; rw [hl3.out, hl2.out]; simp, rfl, HO3.out, fresh_append HB3.out N2.out K2.out.size, K2.out.fresh HK3.out N2.out⟩

end Go.Proofs.Ytljinghhalcnnaa
