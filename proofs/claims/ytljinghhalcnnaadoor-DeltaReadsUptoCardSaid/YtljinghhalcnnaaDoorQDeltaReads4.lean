/- Parts of slices: the operation x[l:h:m], at any element, and what such a part reads as. No program is named here. Where a base has the longest text that a block goes on with: a contract. Parts of a block: plain lists, and how they lie in memory. Append onto a row of one's own, elements of any kind. No program is named here. -/
import Derived.Test.YtljinghhalcnnaaDoorQDeltaReads1
import Derived.Test.YtljinghhalcnnaaDoorQDeltaReads2
import Derived.Test.YtljinghhalcnnaaDoorQDeltaReads3
import Derived.Deep.DeepCutAuto
namespace Go.Proofs.YtljinghhalcnnaaDoor
open Go.RowKit

/-- Where a part begins: m is where its room ends. -/
def secA (A : Option Addr) (l m size : Nat) : Option Addr := if m = l then A else A.map (·.add (l * size))
theorem secA_block {A : Option Addr} {l m size : Nat} {a : Addr} (h : secA A l m size = some a) : ∃ b, A = some b ∧ a.block = b.block := by
  unfold secA at h
  split at h
  · exact ⟨a, h, rfl⟩
  · cases A with
    | none => cases h
    | some b => simp at h; exact ⟨b, rfl, by rw [← h, add_block]⟩
theorem secA_zero (A : Option Addr) (m size : Nat) : secA A 0 m size = A := by
  unfold secA
  split
  · rfl
  · cases A <;> simp [Addr.add]
theorem secA_none (l m size : Nat) : secA none l m size = none := by unfold secA; split <;> rfl
theorem Rd.sec {w : World} {A : Option Addr} {n size : Nat} {xs : List Value} (h : Rd w A n size xs) (l k m : Nat) (hk : l + k ≤ n) (hm : l + k ≤ m) : Rd w (secA A l m size) k size ((xs.drop (l * size)).take (k * size)) :=
  h.part l k hk (fun h0 ad e => by unfold secA; rw [if_neg (by omega), e]; rfl)
theorem RdB.sec {w : World} {A : Option Addr} {xs : List UInt8} (h : RdB w A xs) (l k m : Nat) (hk : l + k ≤ xs.length) (hm : l + k ≤ m) : RdB w (secA A l m 1) ((xs.drop l).take k) :=
  h.part l k hk (fun h0 ad e => by unfold secA; rw [if_neg (by omega), e]; simp)
theorem RdB.tail {w : World} {A : Option Addr} {xs : List UInt8} (h : RdB w A xs) (l m : Nat) (hk : l ≤ xs.length) (hm : xs.length ≤ m) : RdB w (secA A l m 1) (xs.drop l) := by
  have := h.sec l (xs.length - l) m (by omega) (by omega)
  rwa [List.take_of_length_le (by simp)] at this
theorem RdB.head {w : World} {A : Option Addr} {xs : List UInt8} (h : RdB w A xs) (k : Nat) (hk : k ≤ xs.length) : RdB w A (xs.take k) := by
  have := h.sec 0 k k (by omega) (by omega)
  rwa [secA_zero, List.drop_zero] at this

section
variable {P : Program} {w : World} {ops : Array Oper} {rest : List Oper} {o : Oper} {a : Act} {Q : Exit → Act → World → Prop}
theorem run_sliceBound (i : Int) (k : IntKind) (y : Nat) (code : BoundsCode) (w : World) (h0 : 0 ≤ i) (h1 : i ≤ y) : (Instr.sliceBound (.int k i) y code).run P w = .ok i.toNat w := by
  unfold Instr.sliceBound
  simp [asIntOf, h0, h1]
/-- A bound, as it stands in the text: none, or a number. -/
def Bnd (a : Act) (x : Option Operand) (d : Nat) (n : Nat) : Prop := (x = none ∧ n = d) ∨ ∃ y k, x = some y ∧ a.eval y = .int k (n : Int)
theorem Bnd.no {a : Act} {d : Nat} : Bnd a none d d := .inl ⟨rfl, rfl⟩
theorem Bnd.at_ {a : Act} {y : Operand} {d n : Nat} {k : IntKind} (h : a.eval y = .int k (n : Int)) : Bnd a (some y) d n := .inr ⟨y, k, rfl, h⟩
theorem run_slice_sec {t e : TypeId} {size : Nat} (ht : P.underlying t = some (.slice e)) (hi : (P.info? e).map (·.size) = some size) (lo hi' mx : Option Operand) (A : Option Addr) (len cap l h m : Nat)
    (hl : Bnd a lo 0 l) (hh : Bnd a hi' len h) (hm : Bnd a mx cap m) (h1 : l ≤ h) (h2 : h ≤ m) (h3 : m ≤ cap) (h4 : hi' = none → mx = none) :
    (Instr.slice t (.slice A len cap) (lo.map a.eval) (hi'.map a.eval) (mx.map a.eval)).run P w = .ok (.slice (secA A l m size) (h - l) (m - l)) w := by
  cases hq : P.info? e with
  | none => rw [hq] at hi; cases hi
  | some i =>
    have hs : i.size = size := by rw [hq] at hi; simpa using hi
    have bl : ∀ k code, (Instr.sliceBound (.int k (l : Int)) h code).run P w = .ok l w := fun k code => by simpa using run_sliceBound (P := P) (l : Int) k h code w (by omega) (by omega)
    have bh : ∀ k code, (Instr.sliceBound (.int k (h : Int)) m code).run P w = .ok h w := fun k code => by simpa using run_sliceBound (P := P) (h : Int) k m code w (by omega) (by omega)
    have bm : ∀ k code, (Instr.sliceBound (.int k (m : Int)) cap code).run P w = .ok m w := fun k code => by simpa using run_sliceBound (P := P) (m : Int) k cap code w (by omega) (by omega)
    unfold Instr.slice Instr.sliceBounds
    simp only [Sem.run_bind, run_underlying ht, Result.andThen_ok]
    rcases hm with ⟨rfl, rfl⟩ | ⟨y3, k3, rfl, e3⟩
    · rcases hh with ⟨rfl, rfl⟩ | ⟨y2, k2, rfl, e2⟩
      · rcases hl with ⟨rfl, rfl⟩ | ⟨y1, k1, rfl, e1⟩
        · simp [sizeOf, typeInfo, hq, hs, secA]
        · simp [sizeOf, typeInfo, hq, hs, secA, e1, Sem.run_bind, bl]
      · rcases hl with ⟨rfl, rfl⟩ | ⟨y1, k1, rfl, e1⟩
        · simp [sizeOf, typeInfo, hq, hs, secA, e2, Sem.run_bind, bh]
        · simp [sizeOf, typeInfo, hq, hs, secA, e1, e2, Sem.run_bind, bh, bl]
    · rcases hh with ⟨rfl, rfl⟩ | ⟨y2, k2, rfl, e2⟩
      · exact absurd (h4 rfl) (by simp)
      · rcases hl with ⟨rfl, rfl⟩ | ⟨y1, k1, rfl, e1⟩
        · simp [sizeOf, typeInfo, hq, hs, secA, e2, e3, Sem.run_bind, bm, bh]
        · simp [sizeOf, typeInfo, hq, hs, secA, e1, e2, e3, Sem.run_bind, bm, bh, bl]
theorem wpList_sec (hgd : o.guard = none) (t : TypeId) (x : Operand) (lo hi' mx : Option Operand) (ho : o.op = .slice t x lo hi' mx) {e : TypeId} {size : Nat} (ht : P.underlying t = some (.slice e)) (hi : (P.info? e).map (·.size) = some size)
    (A : Option Addr) (len cap l h m : Nat) (hx : a.eval x = .slice A len cap) (hl : Bnd a lo 0 l) (hh : Bnd a hi' len h) (hm : Bnd a mx cap m) (h1 : l ≤ h) (h2 : h ≤ m) (h3 : m ≤ cap) (h4 : hi' = none → mx = none)
    (hn : wpList P ops Q rest (a.put o.dst (.slice (secA A l m size) (h - l) (m - l))) w) : wpList P ops Q (o :: rest) a w := by
  refine wpList_plain hgd fun K hK => ?_
  have hr := run_slice_sec (P := P) (w := w) (a := a) ht hi lo hi' mx A len cap l h m hl hh hm h1 h2 h3 h4
  have hsl : ∀ v lo hi mx, (Instr.sliceAt t v lo hi mx).run P w = (Instr.slice t v lo hi mx).run P w := fun v lo hi mx => by simp [Instr.sliceAt, run_underlying ht]
  unfold Oper.wp execOp
  simp only [ho, hx, Sem.run_bind, hsl, hr, Result.andThen_ok, Sem.run_pure]
  exact hK _ _ hn
/-- A part of an array behind a pointer. -/
theorem wpList_secArr (hgd : o.guard = none) (t : TypeId) (x : Operand) (lo hi' mx : Option Operand) (ho : o.op = .slice t x lo hi' mx) {e : TypeId} {n size : Nat} (ht : P.underlying t = some (.array n e)) (hi : (P.info? e).map (·.size) = some size)
    (ad : Addr) (l h m : Nat) (hx : a.eval x = .pointer (some ad)) (hl : Bnd a lo 0 l) (hh : Bnd a hi' n h) (hm : Bnd a mx n m) (h1 : l ≤ h) (h2 : h ≤ m) (h3 : m ≤ n) (h4 : hi' = none → mx = none)
    (hn : wpList P ops Q rest (a.put o.dst (.slice (secA (some ad) l m size) (h - l) (m - l))) w) : wpList P ops Q (o :: rest) a w := by
  refine wpList_plain hgd fun K hK => ?_
  have hr : (Instr.sliceAt t (.pointer (some ad)) (lo.map a.eval) (hi'.map a.eval) (mx.map a.eval)).run P w = .ok (.slice (secA (some ad) l m size) (h - l) (m - l)) w := by
    cases hq : P.info? e with
    | none => rw [hq] at hi; cases hi
    | some i =>
      have hs : i.size = size := by rw [hq] at hi; simpa using hi
      have bl : ∀ k code, (Instr.sliceBound (.int k (l : Int)) h code).run P w = .ok l w := fun k code => by simpa using run_sliceBound (P := P) (l : Int) k h code w (by omega) (by omega)
      have bh : ∀ k code, (Instr.sliceBound (.int k (h : Int)) m code).run P w = .ok h w := fun k code => by simpa using run_sliceBound (P := P) (h : Int) k m code w (by omega) (by omega)
      have bm : ∀ k code, (Instr.sliceBound (.int k (m : Int)) n code).run P w = .ok m w := fun k code => by simpa using run_sliceBound (P := P) (m : Int) k n code w (by omega) (by omega)
      unfold Instr.sliceAt Instr.sliceBounds
      simp only [Sem.run_bind, run_underlying ht, Result.andThen_ok, Instr.sureAddr, Sem.run_pure]
      rcases hm with ⟨rfl, rfl⟩ | ⟨y3, k3, rfl, e3⟩
      · rcases hh with ⟨rfl, rfl⟩ | ⟨y2, k2, rfl, e2⟩
        · rcases hl with ⟨rfl, rfl⟩ | ⟨y1, k1, rfl, e1⟩
          · simp [sizeOf, typeInfo, hq, hs]; try (unfold secA; split <;> simp_all)
          · simp [sizeOf, typeInfo, hq, hs, e1, Sem.run_bind, bl]; try (unfold secA; split <;> simp_all)
        · rcases hl with ⟨rfl, rfl⟩ | ⟨y1, k1, rfl, e1⟩
          · simp [sizeOf, typeInfo, hq, hs, e2, Sem.run_bind, bh]; try (unfold secA; split <;> simp_all)
          · simp [sizeOf, typeInfo, hq, hs, e1, e2, Sem.run_bind, bh, bl]; try (unfold secA; split <;> simp_all)
      · rcases hh with ⟨rfl, rfl⟩ | ⟨y2, k2, rfl, e2⟩
        · exact absurd (h4 rfl) (by simp)
        · rcases hl with ⟨rfl, rfl⟩ | ⟨y1, k1, rfl, e1⟩
          · simp [sizeOf, typeInfo, hq, hs, e2, e3, Sem.run_bind, bm, bh]; try (unfold secA; split <;> simp_all)
          · simp [sizeOf, typeInfo, hq, hs, e1, e2, e3, Sem.run_bind, bm, bh, bl]; try (unfold secA; split <;> simp_all)
  unfold Oper.wp execOp
  simp only [ho, hx, Sem.run_bind, hr, Result.andThen_ok, Sem.run_pure]
  exact hK _ _ hn
/-- The same in a region that draws its order. -/
theorem yieldsIf_sec {S : World → Prop} (hw : Region.wanted o (yielded ops a.tmps) = true) (t : TypeId) (x : Operand) (lo hi' mx : Option Operand) (ho : o.op = .slice t x lo hi' mx) {e : TypeId} {size : Nat} (ht : P.underlying t = some (.slice e)) (hi : (P.info? e).map (·.size) = some size)
    (A : Option Addr) (len cap l h m : Nat) (hx : a.eval x = .slice A len cap) (hl : Bnd a lo 0 l) (hh : Bnd a hi' len h) (hm : Bnd a mx cap m) (h1 : l ≤ h) (h2 : h ≤ m) (h3 : m ≤ cap) (h4 : hi' = none → mx = none)
    (v : Value) (hv : v = .slice (secA A l m size) (h - l) (m - l)) : YieldsIf P ops S o v a :=
  .inl ⟨hw, fun w _ => by
    subst hv
    have hr := run_slice_sec (P := P) (w := w) (a := a) ht hi lo hi' mx A len cap l h m hl hh hm h1 h2 h3 h4
    have hsl : ∀ v lo hi mx, (Instr.sliceAt t v lo hi mx).run P w = (Instr.slice t v lo hi mx).run P w := fun v lo hi mx => by simp [Instr.sliceAt, run_underlying ht]
    unfold execOp
    simp only [ho, hx, Sem.run_bind, hsl, hr, Result.andThen_ok, Sem.run_pure]⟩
theorem secA_some {g o l m size : Nat} (h : l < m) : secA (some ⟨g, o, none⟩) l m size = some ⟨g, o + l * size, none⟩ := by
  unfold secA
  rw [if_neg (by omega), Option.map_some, add_new]
end
end Go.Proofs.YtljinghhalcnnaaDoor
namespace Go.Proofs.YtljinghhalcnnaaDoor
open Go.RowKit

theorem infoB1d : (Tryd.prog.info? 5).map (·.size) = some 1 := by kernel_rfl
section
variable {P : Program} {ops : Array Oper} {o : Oper} {a : Act}
/-- A part of an array behind a pointer, in a region that draws its order. -/
theorem yieldsIf_secArr {S : World → Prop} (hw : Region.wanted o (yielded ops a.tmps) = true) (t : TypeId) (x : Operand) (lo : Option Operand) (ho : o.op = .slice t x lo none none) {e : TypeId} {n size : Nat} (ht : P.underlying t = some (.array n e)) (hi : (P.info? e).map (·.size) = some size)
    (ad : Addr) (l : Nat) (hx : a.eval x = .pointer (some ad)) (hl : Bnd a lo 0 l) (h1 : l ≤ n) (v : Value) (hv : v = .slice (secA (some ad) l n size) (n - l) (n - l)) : YieldsIf P ops S o v a :=
  .inl ⟨hw, fun w _ => by
    subst hv
    have hr : (Instr.sliceAt t (.pointer (some ad)) (lo.map a.eval) none none).run P w = .ok (.slice (secA (some ad) l n size) (n - l) (n - l)) w := by
      cases hq : P.info? e with
      | none => rw [hq] at hi; cases hi
      | some i =>
        have hs : i.size = size := by rw [hq] at hi; simpa using hi
        have bl : ∀ k code, (Instr.sliceBound (.int k (l : Int)) n code).run P w = .ok l w := fun k code => by simpa using run_sliceBound (P := P) (l : Int) k n code w (by omega) (by omega)
        unfold Instr.sliceAt Instr.sliceBounds
        simp only [Sem.run_bind, run_underlying ht, Result.andThen_ok, Instr.sureAddr, Sem.run_pure]
        rcases hl with ⟨rfl, rfl⟩ | ⟨y1, k1, rfl, e1⟩
        · simp [sizeOf, typeInfo, hq, hs]; try (unfold secA; split <;> simp_all)
        · simp [sizeOf, typeInfo, hq, hs, e1, Sem.run_bind, bl]; try (unfold secA; split <;> simp_all)
    unfold execOp
    simp only [ho, hx, Sem.run_bind, Option.map_none, hr, Result.andThen_ok, Sem.run_pure]⟩
end
/-- The same at any place. -/
def matI (base target : List UInt8) (at_ : Int) : Nat × Nat := if at_ < 0 ∨ 64 ≤ at_ then (0, 0) else mat base target at_.toNat
/-- Two blocks behind pointers. -/
structure Bx (w z : World) (g h : Nat) (base target : List UInt8) : Prop where
  b : z.heap[g]? = some (.cells (encB base).toArray 23 (0, 0))
  t : z.heap[h]? = some (.cells (encB target).toArray 23 (0, 0))
  kp : Keeps [] w z
theorem Bx.keeps0 {w z z' : World} {g h : Nat} {base target : List UInt8} (x : Bx w z g h base target) (hk : Keeps [] z z') : Bx w z' g h base target :=
  ⟨(hk.block g (lt_of_block x.b) (by simp)).trans x.b, (hk.block h (lt_of_block x.t) (by simp)).trans x.t, x.kp.trans hk (by simp)⟩
theorem rdb_row {w : World} {g : Nat} {T : TypeId} {l : List UInt8} (h : w.heap[g]? = some (.cells (encB l).toArray T (0, 0))) : RdB w (some ⟨g, 0, none⟩) l :=
  ⟨by simp, fun _ => ⟨_, rfl, fun j u hu => by rw [add_new, Nat.zero_add, cell_of_row _ _ _ _ _ _ h, List.getElem?_toArray]; exact hu⟩⟩
set_option maxRecDepth 100000 in
set_option maxHeartbeats 4000000 in
theorem match_any (base target : List UInt8) (hb : base.length = 64) (ht : target.length = 64) (at_ : Int) (w : World) :
    Calls Tryd.prog 40 #[.agg (encB base).toArray, .agg (encB target).toArray, .int .i64 at_] w fun r w' => r = .returned (.tuple #[.int .i64 ((matI base target at_).1 : Nat), .int .i64 ((matI base target at_).2 : Nat)]) ∧ Keeps [] w w' := by
  have HL := Lib.hid (And.intro hb ht)
  obtain ⟨bs, hbs⟩ : ∃ bs, bs = (encB base).toArray := ⟨_, rfl⟩
  obtain ⟨ts, hts⟩ : ∃ ts, ts = (encB target).toArray := ⟨_, rfl⟩
  obtain ⟨g, hg⟩ : ∃ g, g = w.heap.size := ⟨_, rfl⟩
  obtain ⟨h, hh⟩ : ∃ h, h = w.heap.size + 1 := ⟨_, rfl⟩
  obtain ⟨W, hW⟩ : ∃ W, W = (w.alloc (.cells bs 23)).alloc (.cells ts 23) := ⟨_, rfl⟩
  have HB := Lib.hid (show Bx w W g h base target from by
    refine ⟨?_, ?_, ?_⟩
    · rw [hW, hg, hbs]; exact heap_alloc2_old _ _ _
    · rw [hW, hh, hts]; exact heap_alloc2_new _ _ _
    · rw [hW]; exact ((Keeps.refl [] w).alloc _).alloc _)
  have HW := Lib.hid (show W = (w.alloc (.cells bs 23)).alloc (.cells ts 23) ∧ g = w.heap.size ∧ h = w.heap.size + 1 from ⟨hW, hg, hh⟩)
  rw [← hbs, ← hts]
  clear hb ht hbs hts hg hh hW
  rcases (show at_ < 0 ∨ 64 ≤ at_ ∨ (0 ≤ at_ ∧ at_ < 64) from by omega) with ha | ha | ⟨ha, ha2⟩
  · have HM := Lib.hid (show matI base target at_ = (0, 0) from if_pos (.inl ha))
    go_enter Tryd.func40, Tryd.ntmps40
    go_wp2_with fail
    go_ret2
    rw [← HW.out.1]
    exact ⟨by rw [HM.out]; rfl, HB.out.kp⟩
  · have HM := Lib.hid (show matI base target at_ = (0, 0) from if_pos (.inr ha))
    have ha3 : ¬ at_ < 0 := by omega
    go_enter Tryd.func40, Tryd.ntmps40
    go_wp2_with fail
    go_ret2
    rw [← HW.out.1]
    exact ⟨by rw [HM.out]; rfl, HB.out.kp⟩
  · obtain ⟨p, rfl⟩ : ∃ p : Nat, at_ = (p : Int) := ⟨at_.toNat, by omega⟩
    obtain ⟨t, htt⟩ : ∃ t, t = target.drop p := ⟨_, rfl⟩
    have HM := Lib.hid (show matI base target (p : Int) = best base t 64 from by unfold matI; rw [if_neg (by omega)]; unfold mat; rw [HL.out.1, htt]; rfl)
    have HT := Lib.hid (show t = target.drop p ∧ t.length = 64 - p ∧ p < 64 from ⟨htt, by rw [htt, List.length_drop, HL.out.2], by omega⟩)
    have ha3 : ¬ (p : Int) < 0 := by omega
    have ha4 : ¬ (64 : Int) ≤ (p : Int) := by omega
    clear ha ha2 htt
    go_enter Tryd.func40, Tryd.ntmps40
    go_upto_region 3 with fail
    rw [← HW.out.1, ← HW.out.2.2, ← HW.out.2.1]
    go_wp2_with fail
    go_loopw [8, 9, 18] (fun s8 s9 s18 wr => ∃ i f m : Nat, s18 = .int .i64 i ∧ s8 = .int .i64 f ∧ s9 = .int .i64 m ∧ Hid (i ≤ 64 ∧ f = (best base t i).1 ∧ m = (best base t i).2 ∧ Keeps [] W wr)) (fun _ _ s18 _ => 64 - (intOf s18).toNat)
    case atStart => exact ⟨0, 0, 0, rfl, rfl, rfl, ⟨Nat.zero_le _, rfl, rfl, Keeps.refl [] W⟩⟩
    case round =>
      obtain ⟨i, f, m, rfl, rfl, rfl, D⟩ := hrel
      by_cases hi : i < 64
      · have hii : (i : Int) < 64 := by omega
        have HI := Lib.hid hi
        have BX := Lib.hid (HB.out.keeps0 D.out.2.2.2)
        obtain ⟨SA, hSA⟩ : ∃ SA, SA = secA (some ⟨g, 0, none⟩) i 64 1 := ⟨_, rfl⟩
        obtain ⟨SB, hSB⟩ : ∃ SB, SB = secA (some ⟨h, 0, none⟩) p 64 1 := ⟨_, rfl⟩
        have HS := Lib.hid (And.intro hSA hSB)
        have hp64 : p ≤ 64 := by have := HT.out; omega
        have hi64 : i ≤ 64 := by omega
        clear hi hSA hSB
        go_upto_region 7 with fail
        refine seq_start (by kernel_rfl) (fun z => True) 6 [0, 1, 2, 3, 4, 5] rfl (trivial) (fun hS => ?_)
        have BV := Lib.hid (show Bx w wr.drew g h base target ∧ Keeps [] W wr.drew from ⟨BX.out.keeps0 (Keeps.refl [] wr).drew, D.out.2.2.2.drew⟩)
        generalize wr.drew = V at BV hS ⊢
        refine seq_take (v := ?_) rfl (by kernel_rfl) (by kernel_rfl) (by kernel_rfl) (Or.inl ⟨by rfl, fun w' hSw => ?_⟩) (by assumption) ?_
        rotate_left
        · go_simp
          with_reducible rfl
        simp only [Act.put, List.setIfInBounds_toArray, List.set_cons_zero, List.set_cons_succ]
        refine seq_take (v := .slice SA (64 - i) (64 - i)) rfl (by kernel_rfl) (by kernel_rfl) (by kernel_rfl) ?_ (by assumption) ?_
        · exact yieldsIf_secArr (by rfl) 23 (.tmp 3) (some (.tmp 21)) (by rfl) Tryd.underlying23 infoB1d ⟨g, 0, none⟩ i (by rfl) (Bnd.at_ (by rfl)) hi64 _ (by rw [HS.out.1])
        simp only [Act.put, List.setIfInBounds_toArray, List.set_cons_zero, List.set_cons_succ]
        refine seq_take (v := ?_) rfl (by kernel_rfl) (by kernel_rfl) (by kernel_rfl) (Or.inl ⟨by rfl, fun w' hSw => ?_⟩) (by assumption) ?_
        rotate_left
        · go_simp
          with_reducible rfl
        simp only [Act.put, List.setIfInBounds_toArray, List.set_cons_zero, List.set_cons_succ]
        refine seq_take (v := .slice SB (64 - p) (64 - p)) rfl (by kernel_rfl) (by kernel_rfl) (by kernel_rfl) ?_ (by assumption) ?_
        · exact yieldsIf_secArr (by rfl) 23 (.tmp 4) (some (.tmp 23)) (by rfl) Tryd.underlying23 infoB1d ⟨h, 0, none⟩ p (by rfl) (Bnd.at_ (by rfl)) hp64 _ (by rw [HS.out.2])
        simp only [Act.put, List.setIfInBounds_toArray, List.set_cons_zero, List.set_cons_succ]
        refine seq_do rfl (by kernel_rfl) (by rfl) (fun K hK => ?_)
        go_simp
        obtain ⟨n, hn⟩ : ∃ n, n = com (base.drop i) t := ⟨_, rfl⟩
        have HC := common_any SA SB (64 - i) (64 - p) (base.drop i) t V (by rw [HS.out.1]; exact (rdb_row BV.out.1.b).tail i 64 (by rw [HL.out.1]; omega) (by rw [HL.out.1]; exact Nat.le_refl _)) (by rw [HS.out.2, HT.out.1]; exact (rdb_row BV.out.1.t).tail p 64 (by rw [HL.out.2]; omega) (by rw [HL.out.2]; exact Nat.le_refl _)) (by rw [List.length_drop, HL.out.1]; omega)
        rw [← hn, HT.out.2.1, List.length_drop, HL.out.1] at HC
        refine HC.mono ?_
        clear HC
        rintro r w1 ⟨rfl, hk1⟩
        have HN := Lib.hid hn
        have D1 := Lib.hid (show i + 1 ≤ 64 ∧ f = (best base t i).1 ∧ m = (best base t i).2 ∧ Keeps [] W w1 from ⟨HI.out, D.out.2.1, D.out.2.2.1, BV.out.2.trans hk1 (by simp)⟩)
        clear hn hk1
        refine hK.out (fun z => True) _ _ (fun _ h => h) trivial (fun hS => ?_)
        refine seq_take (v := ?_) rfl (by kernel_rfl) (by kernel_rfl) (by kernel_rfl) (Or.inl ⟨by rfl, fun w' hSw => ?_⟩) (by assumption) ?_
        rotate_left
        · go_simp
          with_reducible rfl
        simp only [Act.put, List.setIfInBounds_toArray, List.set_cons_zero, List.set_cons_succ]
        refine seq_done (by kernel_rfl) ?_
        all_goals skip
        clear hS hK BV BX D
        by_cases hmn : m < n
        · have hmni : (m : Int) < (n : Int) := by omega
          have D2 := Lib.hid (show i + 1 ≤ 64 ∧ i = (best base t (i + 1)).1 ∧ n = (best base t (i + 1)).2 ∧ Keeps [] W w1 from by
            have e : best base t (i + 1) = (i, n) := by
              show (if (best base t i).2 < com (base.drop i) t then (i, com (base.drop i) t) else best base t i) = _
              rw [← HN.out, ← D1.out.2.2.1, if_pos hmn]
            exact ⟨D1.out.1, by rw [e], by rw [e], D1.out.2.2.2⟩)
          clear hmn
          go_wp2_with fail
          go_roundw
          case rel => exact ⟨i + 1, i, n, by go_num, rfl, rfl, D2⟩
          case measure => have := HI.out; simp [intOf]; omega
        · have hmni : ¬ (m : Int) < (n : Int) := by omega
          have D2 := Lib.hid (show i + 1 ≤ 64 ∧ f = (best base t (i + 1)).1 ∧ m = (best base t (i + 1)).2 ∧ Keeps [] W w1 from by
            have e : best base t (i + 1) = best base t i := by
              show (if (best base t i).2 < com (base.drop i) t then (i, com (base.drop i) t) else best base t i) = _
              rw [← HN.out, ← D1.out.2.2.1, if_neg hmn]
            exact ⟨D1.out.1, by rw [e]; exact D1.out.2.1, by rw [e]; exact D1.out.2.2.1, D1.out.2.2.2⟩)
          clear hmn
          go_wp2_with fail
          go_roundw
          case rel => exact ⟨i + 1, f, m, by go_num, rfl, rfl, D2⟩
          case measure => have := HI.out; simp [intOf]; omega
      · have hii : ¬ (i : Int) < 64 := by omega
        have HE := Lib.hid (show f = (matI base target (p : Int)).1 ∧ m = (matI base target (p : Int)).2 ∧ Keeps [] w wr from by
          obtain rfl : i = 64 := by have := D.out.1; omega
          rw [HM.out]
          exact ⟨D.out.2.1, D.out.2.2.1, HB.out.kp.trans D.out.2.2.2 (by simp)⟩)
        clear hi D
        go_wp2_with fail
        go_ret2
        exact ⟨by rw [HE.out.1, HE.out.2.1]; rfl, HE.out.2.2⟩
end Go.Proofs.YtljinghhalcnnaaDoor
namespace Go.Proofs.YtljinghhalcnnaaDoor
open Go.RowKit

/-- A part. -/
structure Pa where
  cp : Bool
  fr : Int
  ln : Int
  b : List UInt8
/-- A byte more is told. -/
def tell (l : List Pa) (x : UInt8) : List Pa :=
  match l.getLast? with
  | some p => if p.cp then l ++ [⟨false, 0, 0, [x]⟩] else l.dropLast ++ [⟨p.cp, p.fr, p.ln, p.b ++ [x]⟩]
  | none => [⟨false, 0, 0, [x]⟩]
theorem tell_nil (x : UInt8) : tell [] x = [⟨false, 0, 0, [x]⟩] := rfl
theorem tell_cp (l : List Pa) (p : Pa) (x : UInt8) (h : p.cp = true) : tell (l ++ [p]) x = l ++ [p] ++ [⟨false, 0, 0, [x]⟩] := by
  unfold tell
  rw [List.getLast?_concat]
  simp only [h, if_true]
theorem tell_told (l : List Pa) (p : Pa) (x : UInt8) (h : p.cp = false) : tell (l ++ [p]) x = l ++ [⟨p.cp, p.fr, p.ln, p.b ++ [x]⟩] := by
  unfold tell
  rw [List.getLast?_concat, List.dropLast_concat]
  simp [h]
/-- The parts that tell a block, from a place on. -/
def opsF (base target : List UInt8) : Nat → Nat → List Pa → List Pa
  | 0, _, l => l
  | f + 1, a, l => if 64 ≤ a then l else if 4 ≤ (mat base target a).2 then opsF base target f (a + (mat base target a).2) (l ++ [⟨true, (mat base target a).1, (mat base target a).2, []⟩]) else opsF base target f (a + 1) (tell l (target.getD a 0))
def opsE (base target : List UInt8) : List Pa := opsF base target 64 0 []
theorem opsF_end (base target : List UInt8) (f a : Nat) (l : List Pa) (h : 64 ≤ a) : opsF base target f a l = l := by
  cases f with
  | zero => rfl
  | succ f => unfold opsF; rw [if_pos h]
theorem mat_len (base target : List UInt8) (hb : base.length = 64) (ht : target.length = 64) (a : Nat) (ha : a ≤ 64) : (mat base target a).1 ≤ 64 ∧ a + (mat base target a).2 ≤ 64 := by
  have h := best_len base (target.drop a) base.length (Nat.le_refl _)
  rw [List.length_drop, ht, hb] at h
  unfold mat
  rw [hb]
  omega

/-! ## In memory -/
structure Pt where
  p : Pa
  A : Option Addr
  c : Nat
def Pt.cells (t : Pt) : List Value := [.bool t.p.cp, .int .i64 t.p.fr, .int .i64 t.p.ln, .slice t.A t.p.b.length t.c]
def encPt (l : List Pt) : List Value := l.flatMap Pt.cells
theorem encPt_append (a b : List Pt) : encPt (a ++ b) = encPt a ++ encPt b := List.flatMap_append
theorem encPt_cons (a : Pt) (b : List Pt) : encPt (a :: b) = a.cells ++ encPt b := rfl
theorem encPt_len : ∀ l : List Pt, (encPt l).length = l.length * 4
  | [] => rfl
  | x :: l => by rw [encPt_cons, List.length_append, encPt_len l, List.length_cons]; show 4 + _ = _; omega
theorem Pt.one (t : Pt) : ∀ u ∈ t.cells, u.oneCell' = true := by
  intro u hu
  simp only [Pt.cells, List.mem_cons, List.not_mem_nil, or_false] at hu
  rcases hu with rfl | rfl | rfl | rfl <;> rfl
theorem infoOp : (Tryd.prog.info? 50).map (fun i => (i.zero, i.size, i.bytes)) = some (some (.agg #[.bool false, .int .i64 0, .int .i64 0, .slice none 0 0]), 4, 48) := by kernel_rfl
/-- Parts of one's own. -/
structure OpI (w wr : World) (A : Option Addr) (c : Nat) (ts : List Pt) : Prop where
  own : wr.ownsRow 0 50 4 (.slice A ts.length c) ts.length (encPt ts)
  fr : ∀ a, A = some a → w.heap.size ≤ a.block
  rd : ∀ t ∈ ts, OwnB 5 wr t.A t.c t.p.b ∧ ∀ a, t.A = some a → w.heap.size ≤ a.block ∧ a.block ∉ blk A
  dj : ts.Pairwise fun s t => ∀ a b, s.A = some a → t.A = some b → a.block ≠ b.block
  kp : Keeps [] w wr
theorem OpI.nil (w wr : World) (hk : Keeps [] w wr) : OpI w wr none 0 [] := ⟨World.ownsRow_nil _ _ _ _, by simp, by simp, List.Pairwise.nil, hk⟩
theorem OpI.keeps0 {w wr wr' : World} {A : Option Addr} {c : Nat} {ts : List Pt} (h : OpI w wr A c ts) (hk : Keeps [] wr wr') : OpI w wr' A c ts :=
  ⟨ownsRow_keeps h.own hk (by simp), h.fr, fun t ht => ⟨(h.rd t ht).1.keeps0 hk, (h.rd t ht).2⟩, h.dj, h.kp.trans hk (by simp)⟩
/-- A part is added that tells no bytes yet. -/
theorem OpI.add {w wr wa w4 : World} {A A4 : Option Addr} {c c4 n : Nat} {ts : List Pt} {t : Pt} (h : OpI w wr A c ts) (hA : t.A = none) (hc : t.c = 0) (hb : t.p.b = []) (hka : Keeps [] wr wa) (hn : n = ts.length)
    (ho : w4.ownsRow 0 50 4 (.slice A4 (n + 1) c4) (n + 1) (encPt ts ++ t.cells)) (hk : Keeps (blk A) wa w4) (hf : ∀ a, A4 = some a → a.block ∈ blk A ∨ wa.heap.size ≤ a.block) : OpI w w4 A4 c4 (ts ++ [t]) := by
  subst hn
  have s1 := h.kp.size
  have s2 := hka.size
  have k14 : Keeps (blk A) wr w4 := (hka.mono (by simp)).trans hk (fun t ht => .inl ht)
  refine ⟨?_, fun a ha => ?_, fun s hs => ?_, ?_, (h.kp.trans hka (by simp)).fresh hk h.fr⟩
  · rw [List.length_append, encPt_append]
    simpa [encPt] using ho
  · rcases hf a ha with h1 | h1
    · obtain ⟨b, e1, e2⟩ := mem_blk.1 h1
      rw [← e2]; exact h.fr b e1
    · omega
  · rcases List.mem_append.1 hs with h1 | h1
    · obtain ⟨h2, h3⟩ := h.rd s h1
      refine ⟨h2.keeps k14 (fun a ha => (h3 a ha).2), fun a ha => ⟨(h3 a ha).1, fun hm => ?_⟩⟩
      obtain ⟨b, e1, e2⟩ := mem_blk.1 hm
      rcases hf b e1 with h4 | h4
      · rw [e2] at h4; exact (h3 a ha).2 h4
      · have := h2.lt a ha
        omega
    · obtain rfl := List.mem_singleton.1 h1
      refine ⟨?_, fun a ha => by rw [hA] at ha; cases ha⟩
      rw [hA, hc, hb]
      exact OwnB.nil _ _
  · rw [List.pairwise_append]
    refine ⟨h.dj, List.pairwise_singleton _ _, fun s _ t' ht' a b _ hb' => ?_⟩
    obtain rfl := List.mem_singleton.1 ht'
    rw [hA] at hb'
    cases hb'
theorem encPt_set (ts : List Pt) (t : Pt) (v : Value) : (encPt (ts ++ [t])).set (ts.length * 4 + 3) v = encPt ts ++ [.bool t.p.cp, .int .i64 t.p.fr, .int .i64 t.p.ln, v] := by
  rw [encPt_append, List.set_append_right _ _ (by rw [encPt_len]; omega), encPt_len]
  congr 1
  rw [show ts.length * 4 + 3 - ts.length * 4 = 3 from by omega]
  rfl
/-- The last part tells a byte more. -/
theorem OpI.grow {w wr wa w4 w5 : World} {gA c : Nat} {A2 : Option Addr} {c2 : Nat} {ts : List Pt} {t : Pt} {b' : List UInt8} (h : OpI w wr (some ⟨gA, 0, none⟩) c (ts ++ [t])) (hka : Keeps [] wr wa)
    (ho : OwnB 5 w4 A2 c2 b') (hk : Keeps (blk t.A) wa w4) (hf : ∀ a, A2 = some a → a.block ∈ blk t.A ∨ wa.heap.size ≤ a.block)
    (h5 : w5 = w4.setCell ⟨gA, ts.length * 4 + 3, none⟩ (.slice A2 b'.length c2)) : OpI w w5 (some ⟨gA, 0, none⟩) c (ts ++ [⟨⟨t.p.cp, t.p.fr, t.p.ln, b'⟩, A2, c2⟩]) := by
  have s1 := h.kp.size
  have s2 := hka.size
  have ht : t ∈ ts ++ [t] := by simp
  have hgA : w.heap.size ≤ gA := h.fr _ rfl
  have hgl : gA < wr.heap.size := ownsRow_lt h.own _ rfl
  have hgt : gA ∉ blk t.A := fun hm => by
    obtain ⟨a, e1, e2⟩ := mem_blk.1 hm
    have := ((h.rd t ht).2 a e1).2
    simp [blk] at this
    exact this e2
  have k14 : Keeps (blk t.A) wr w4 := (hka.mono (by simp)).trans hk (fun t ht => .inl ht)
  have k45 : Keeps [gA] w4 w5 := by rw [h5]; exact (Keeps.refl [gA] w4).setCell (p := ⟨gA, ts.length * 4 + 3, none⟩) (.inl (by simp)) _
  have hlen : (ts ++ [(⟨⟨t.p.cp, t.p.fr, t.p.ln, b'⟩, A2, c2⟩ : Pt)]).length = (ts ++ [t]).length := by simp
  have hA2 : ∀ a, A2 = some a → w.heap.size ≤ a.block ∧ a.block ≠ gA := fun a ha => by
    rcases hf a ha with h6 | h6
    · obtain ⟨b, e1, e2⟩ := mem_blk.1 h6
      have := (h.rd t ht).2 b e1
      rw [← e2]
      refine ⟨this.1, fun e => hgt ?_⟩
      rw [← e]; exact mem_blk.2 ⟨b, e1, rfl⟩
    · exact ⟨by omega, by omega⟩
  have hdj := List.pairwise_append.1 h.dj
  refine ⟨?_, h.fr, fun s hs => ?_, ?_, ?_⟩
  · have h7 := (World.ownsRow.stored (ownsRow_keeps h.own k14 (fun a ha => by cases ha; exact hgt)) (ts.length * 4 + 3) (.slice A2 b'.length c2)).1
    rw [encPt_set, ← h5] at h7
    rw [hlen, encPt_append]
    simpa [encPt, Pt.cells] using h7
  · rcases List.mem_append.1 hs with h6 | h6
    · obtain ⟨h7, h8⟩ := h.rd s (List.mem_append_left _ h6)
      refine ⟨(h7.keeps k14 (fun a ha hm => ?_)).keeps k45 (fun a ha => ?_), h8⟩
      · obtain ⟨b, e1, e2⟩ := mem_blk.1 hm
        exact hdj.2.2 s h6 t (by simp) a b ha e1 e2.symm
      · have := (h8 a ha).2
        simp [blk] at this
        simp only [List.mem_singleton]
        exact this
    · obtain rfl := List.mem_singleton.1 h6
      refine ⟨ho.keeps k45 (fun a ha => by simpa using (hA2 a ha).2), fun a ha => ⟨(hA2 a ha).1, ?_⟩⟩
      simp only [blk, Option.map_some, Option.toList_some, List.mem_singleton]
      exact (hA2 a ha).2
  · rw [List.pairwise_append]
    refine ⟨hdj.1, List.pairwise_singleton _ _, fun s hs t' ht' a b ha hb => ?_⟩
    obtain rfl := List.mem_singleton.1 ht'
    rcases hf b hb with h6 | h6
    · obtain ⟨b2, e1, e2⟩ := mem_blk.1 h6
      have := hdj.2.2 s hs t (by simp) a b2 ha e1
      rw [← e2]; exact this
    · have := (h.rd s (List.mem_append_left _ hs)).1.lt a ha
      omega
  · refine ((h.kp.trans hka (by simp)).fresh hk (fun a ha => ((h.rd t ht).2 a ha).1)).trans k45 (fun x hx => .inr ?_)
    simp only [List.mem_singleton] at hx
    omega
end Go.Proofs.YtljinghhalcnnaaDoor
namespace Go.Proofs.YtljinghhalcnnaaDoor
open Go.RowKit
theorem wpList_appendV {P : Program} {w : World} {ops : Array Oper} {rest : List Oper} {o : Oper} {a : Act} {Q : Exit → Act → World → Prop} (hgd : o.guard = none) (s x : Operand) (t E : TypeId)
    (ho : o.op = .call { callee := .builtin .append, args := #[s, x], argTypes := #[t, t] }) (ht : P.underlying t = some (.slice E)) (z : Value) (size bytes : Nat)
    (hinfo : (P.info? E).map (fun i => (i.zero, i.size, i.bytes)) = some (some z, size, bytes)) (hzs : z.cells.size = size) (hsz : 0 < size)
    (A : Option Addr) (cv n : Nat) (xs : List Value) (hs : a.eval s = .slice A n cv) (hown : w.ownsRow 0 E size (.slice A n cv) n xs)
    (A2 : Option Addr) (m c : Nat) (news : List Value) (hx : a.eval x = .slice A2 m c) (hr : Rd w A2 m size news) (h1 : ∀ u ∈ news, u.oneCell' = true) (h63 : n + m ≤ maxLen) (hb : (n + m) * bytes ≤ 140737488355328)
    (h : ∀ A' c' w', w'.ownsRow 0 E size (.slice A' (n + m) c') (n + m) (xs ++ news) → Keeps (blk A) w w' → (∀ a, A' = some a → a.block ∈ blk A ∨ w.heap.size ≤ a.block) → wpList P ops Q rest (a.put o.dst (.slice A' (n + m) c')) w') :
    wpList P ops Q (o :: rest) a w := by
  refine wpList_plain hgd fun K hK => ?_
  obtain ⟨A', c', w', hrun, h2, h3, h4⟩ := run_append_rd (P := P) w t o.type E z size bytes ht hinfo hzs hsz A n cv xs hown A2 m c news hr h1 h63 hb
  unfold Oper.wp execOp
  simp only [ho, resolve, invoke, builtin, Sem.run_bind, Sem.run_pure, Result.andThen_ok, List.map_toArray, List.map_cons, List.map_nil, hs, hx, hrun]
  exact hK _ _ (h A' c' w' h2 h3 h4)
/-- The same at an operation of its own. -/
theorem op_appendV {P : Program} {w : World} {o : Oper} {a : Act} {K : Act → World → Prop} {Q : Exit → Act → World → Prop} (s x : Operand) (t E : TypeId)
    (ho : o.op = .call { callee := .builtin .append, args := #[s, x], argTypes := #[t, t] }) (ht : P.underlying t = some (.slice E)) (z : Value) (size bytes : Nat)
    (hinfo : (P.info? E).map (fun i => (i.zero, i.size, i.bytes)) = some (some z, size, bytes)) (hzs : z.cells.size = size) (hsz : 0 < size)
    (A : Option Addr) (cv n : Nat) (xs : List Value) (hs : a.eval s = .slice A n cv) (hown : w.ownsRow 0 E size (.slice A n cv) n xs)
    (A2 : Option Addr) (m c : Nat) (news : List Value) (hx : a.eval x = .slice A2 m c) (hr : Rd w A2 m size news) (h1 : ∀ u ∈ news, u.oneCell' = true) (h63 : n + m ≤ maxLen) (hb : (n + m) * bytes ≤ 140737488355328)
    (h : ∀ A' c' w', w'.ownsRow 0 E size (.slice A' (n + m) c') (n + m) (xs ++ news) → Keeps (blk A) w w' → (∀ a, A' = some a → a.block ∈ blk A ∨ w.heap.size ≤ a.block) → K (a.put o.dst (.slice A' (n + m) c')) w') :
    o.wp P a w K Q := by
  obtain ⟨A', c', w', hrun, h2, h3, h4⟩ := run_append_rd (P := P) w t o.type E z size bytes ht hinfo hzs hsz A n cv xs hown A2 m c news hr h1 h63 hb
  unfold Oper.wp execOp
  simp only [ho, resolve, invoke, builtin, Sem.run_bind, Sem.run_pure, Result.andThen_ok, List.map_toArray, List.map_cons, List.map_nil, hs, hx, hrun]
  exact h A' c' w' h2 h3 h4
end Go.Proofs.YtljinghhalcnnaaDoor
