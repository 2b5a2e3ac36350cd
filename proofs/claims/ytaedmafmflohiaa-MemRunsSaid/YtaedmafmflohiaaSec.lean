/- Parts of slices: the operation x[l:h:m], at any element, and what such a part reads as. No program is named here. -/
import Derived.Test.YtaedmafmflohiaaBase
import Derived.Test.YtaedmafmflohiaaRegion
namespace Go.Proofs.Ytaedmafmflohiaa
open Go.RowKit

/-- Where a part begins: m is where its room ends. -/
def secA (A : Option Addr) (l m size : Nat) : Option Addr := if m = l then A else A.map (·.add (l * size))
theorem secA_block {A : Option Addr} {l m size : Nat} {a : Addr} (h : secA A l m size = some a) : ∃ b, A = some b ∧ a.block = b.block := by
  unfold secA at h
  split at h
  · exact ⟨a, h, rfl⟩
  · cases A with
    | none => cases h
    | some b => simp at h; exact ⟨b, rfl, by rw [← h, add_block]⟩
theorem secA_zero (A : Option Addr) (m size : Nat) : secA A 0 m size = A := by
  unfold secA
  split
  · rfl
  · cases A <;> simp [Addr.add]
theorem secA_none (l m size : Nat) : secA none l m size = none := by unfold secA; split <;> rfl
theorem Rd.sec {w : World} {A : Option Addr} {n size : Nat} {xs : List Value} (h : Rd w A n size xs) (l k m : Nat) (hk : l + k ≤ n) (hm : l + k ≤ m) : Rd w (secA A l m size) k size ((xs.drop (l * size)).take (k * size)) :=
  h.part l k hk (fun h0 ad e => by unfold secA; rw [if_neg (by omega), e]; rfl)
theorem RdB.sec {w : World} {A : Option Addr} {xs : List UInt8} (h : RdB w A xs) (l k m : Nat) (hk : l + k ≤ xs.length) (hm : l + k ≤ m) : RdB w (secA A l m 1) ((xs.drop l).take k) :=
  h.part l k hk (fun h0 ad e => by unfold secA; rw [if_neg (by omega), e]; simp)
theorem RdB.tail {w : World} {A : Option Addr} {xs : List UInt8} (h : RdB w A xs) (l m : Nat) (hk : l ≤ xs.length) (hm : xs.length ≤ m) : RdB w (secA A l m 1) (xs.drop l) := by
  have := h.sec l (xs.length - l) m (by omega) (by omega)
  rwa [List.take_of_length_le (by simp)] at this
theorem RdB.head {w : World} {A : Option Addr} {xs : List UInt8} (h : RdB w A xs) (k : Nat) (hk : k ≤ xs.length) : RdB w A (xs.take k) := by
  have := h.sec 0 k k (by omega) (by omega)
  rwa [secA_zero, List.drop_zero] at this

section
variable {P : Program} {w : World} {ops : Array Oper} {rest : List Oper} {o : Oper} {a : Act} {Q : Exit → Act → World → Prop}
theorem run_sliceBound (i : Int) (k : IntKind) (y : Nat) (code : BoundsCode) (w : World) (h0 : 0 ≤ i) (h1 : i ≤ y) : (Instr.sliceBound (.int k i) y code).run P w = .ok i.toNat w := by
  unfold Instr.sliceBound
  simp [asIntOf, h0, h1]
/-- A bound, as it stands in the text: none, or a number. -/
def Bnd (a : Act) (x : Option Operand) (d : Nat) (n : Nat) : Prop := (x = none ∧ n = d) ∨ ∃ y k, x = some y ∧ a.eval y = .int k (n : Int)
theorem Bnd.no {a : Act} {d : Nat} : Bnd a none d d := .inl ⟨rfl, rfl⟩
theorem Bnd.at_ {a : Act} {y : Operand} {d n : Nat} {k : IntKind} (h : a.eval y = .int k (n : Int)) : Bnd a (some y) d n := .inr ⟨y, k, rfl, h⟩
theorem run_slice_sec {t e : TypeId} {size : Nat} (ht : P.underlying t = some (.slice e)) (hi : (P.info? e).map (·.size) = some size) (lo hi' mx : Option Operand) (A : Option Addr) (len cap l h m : Nat)
    (hl : Bnd a lo 0 l) (hh : Bnd a hi' len h) (hm : Bnd a mx cap m) (h1 : l ≤ h) (h2 : h ≤ m) (h3 : m ≤ cap) (h4 : hi' = none → mx = none) :
    (Instr.slice t (.slice A len cap) (lo.map a.eval) (hi'.map a.eval) (mx.map a.eval)).run P w = .ok (.slice (secA A l m size) (h - l) (m - l)) w := by
  cases hq : P.info? e with
  | none => rw [hq] at hi; cases hi
  | some i =>
    have hs : i.size = size := by rw [hq] at hi; simpa using hi
    have bl : ∀ k code, (Instr.sliceBound (.int k (l : Int)) h code).run P w = .ok l w := fun k code => by simpa using run_sliceBound (P := P) (l : Int) k h code w (by omega) (by omega)
    have bh : ∀ k code, (Instr.sliceBound (.int k (h : Int)) m code).run P w = .ok h w := fun k code => by simpa using run_sliceBound (P := P) (h : Int) k m code w (by omega) (by omega)
    have bm : ∀ k code, (Instr.sliceBound (.int k (m : Int)) cap code).run P w = .ok m w := fun k code => by simpa using run_sliceBound (P := P) (m : Int) k cap code w (by omega) (by omega)
    unfold Instr.slice Instr.sliceBounds
    simp only [Sem.run_bind, run_underlying ht, Result.andThen_ok]
    rcases hm with ⟨rfl, rfl⟩ | ⟨y3, k3, rfl, e3⟩
    · rcases hh with ⟨rfl, rfl⟩ | ⟨y2, k2, rfl, e2⟩
      · rcases hl with ⟨rfl, rfl⟩ | ⟨y1, k1, rfl, e1⟩
        · simp [sizeOf, typeInfo, hq, hs, secA]
        · simp [sizeOf, typeInfo, hq, hs, secA, e1, Sem.run_bind, bl]
      · rcases hl with ⟨rfl, rfl⟩ | ⟨y1, k1, rfl, e1⟩
        · simp [sizeOf, typeInfo, hq, hs, secA, e2, Sem.run_bind, bh]
        · simp [sizeOf, typeInfo, hq, hs, secA, e1, e2, Sem.run_bind, bh, bl]
    · rcases hh with ⟨rfl, rfl⟩ | ⟨y2, k2, rfl, e2⟩
      · exact absurd (h4 rfl) (by simp)
      · rcases hl with ⟨rfl, rfl⟩ | ⟨y1, k1, rfl, e1⟩
        · simp [sizeOf, typeInfo, hq, hs, secA, e2, e3, Sem.run_bind, bm, bh]
        · simp [sizeOf, typeInfo, hq, hs, secA, e1, e2, e3, Sem.run_bind, bm, bh, bl]
theorem wpList_sec (hgd : o.guard = none) (t : TypeId) (x : Operand) (lo hi' mx : Option Operand) (ho : o.op = .slice t x lo hi' mx) {e : TypeId} {size : Nat} (ht : P.underlying t = some (.slice e)) (hi : (P.info? e).map (·.size) = some size)
    (A : Option Addr) (len cap l h m : Nat) (hx : a.eval x = .slice A len cap) (hl : Bnd a lo 0 l) (hh : Bnd a hi' len h) (hm : Bnd a mx cap m) (h1 : l ≤ h) (h2 : h ≤ m) (h3 : m ≤ cap) (h4 : hi' = none → mx = none)
    (hn : wpList P ops Q rest (a.put o.dst (.slice (secA A l m size) (h - l) (m - l))) w) : wpList P ops Q (o :: rest) a w := by
  refine wpList_plain hgd fun K hK => ?_
  have hr := run_slice_sec (P := P) (w := w) (a := a) ht hi lo hi' mx A len cap l h m hl hh hm h1 h2 h3 h4
  have hsl : ∀ v lo hi mx, (Instr.sliceAt t v lo hi mx).run P w = (Instr.slice t v lo hi mx).run P w := fun v lo hi mx => by simp [Instr.sliceAt, run_underlying ht]
  unfold Oper.wp execOp
  simp only [ho, hx, Sem.run_bind, hsl, hr, Result.andThen_ok, Sem.run_pure]
  exact hK _ _ hn
/-- A part of an array behind a pointer. -/
theorem wpList_secArr (hgd : o.guard = none) (t : TypeId) (x : Operand) (lo hi' mx : Option Operand) (ho : o.op = .slice t x lo hi' mx) {e : TypeId} {n size : Nat} (ht : P.underlying t = some (.array n e)) (hi : (P.info? e).map (·.size) = some size)
    (ad : Addr) (l h m : Nat) (hx : a.eval x = .pointer (some ad)) (hl : Bnd a lo 0 l) (hh : Bnd a hi' n h) (hm : Bnd a mx n m) (h1 : l ≤ h) (h2 : h ≤ m) (h3 : m ≤ n) (h4 : hi' = none → mx = none)
    (hn : wpList P ops Q rest (a.put o.dst (.slice (secA (some ad) l m size) (h - l) (m - l))) w) : wpList P ops Q (o :: rest) a w := by
  refine wpList_plain hgd fun K hK => ?_
  have hr : (Instr.sliceAt t (.pointer (some ad)) (lo.map a.eval) (hi'.map a.eval) (mx.map a.eval)).run P w = .ok (.slice (secA (some ad) l m size) (h - l) (m - l)) w := by
    cases hq : P.info? e with
    | none => rw [hq] at hi; cases hi
    | some i =>
      have hs : i.size = size := by rw [hq] at hi; simpa using hi
      have bl : ∀ k code, (Instr.sliceBound (.int k (l : Int)) h code).run P w = .ok l w := fun k code => by simpa using run_sliceBound (P := P) (l : Int) k h code w (by omega) (by omega)
      have bh : ∀ k code, (Instr.sliceBound (.int k (h : Int)) m code).run P w = .ok h w := fun k code => by simpa using run_sliceBound (P := P) (h : Int) k m code w (by omega) (by omega)
      have bm : ∀ k code, (Instr.sliceBound (.int k (m : Int)) n code).run P w = .ok m w := fun k code => by simpa using run_sliceBound (P := P) (m : Int) k n code w (by omega) (by omega)
      unfold Instr.sliceAt Instr.sliceBounds
      simp only [Sem.run_bind, run_underlying ht, Result.andThen_ok, Instr.sureAddr, Sem.run_pure]
      rcases hm with ⟨rfl, rfl⟩ | ⟨y3, k3, rfl, e3⟩
      · rcases hh with ⟨rfl, rfl⟩ | ⟨y2, k2, rfl, e2⟩
        · rcases hl with ⟨rfl, rfl⟩ | ⟨y1, k1, rfl, e1⟩
          · simp [sizeOf, typeInfo, hq, hs]; try (unfold secA; split <;> simp_all)
          · simp [sizeOf, typeInfo, hq, hs, e1, Sem.run_bind, bl]; try (unfold secA; split <;> simp_all)
        · rcases hl with ⟨rfl, rfl⟩ | ⟨y1, k1, rfl, e1⟩
          · simp [sizeOf, typeInfo, hq, hs, e2, Sem.run_bind, bh]; try (unfold secA; split <;> simp_all)
          · simp [sizeOf, typeInfo, hq, hs, e1, e2, Sem.run_bind, bh, bl]; try (unfold secA; split <;> simp_all)
      · rcases hh with ⟨rfl, rfl⟩ | ⟨y2, k2, rfl, e2⟩
        · exact absurd (h4 rfl) (by simp)
        · rcases hl with ⟨rfl, rfl⟩ | ⟨y1, k1, rfl, e1⟩
          · simp [sizeOf, typeInfo, hq, hs, e2, e3, Sem.run_bind, bm, bh]; try (unfold secA; split <;> simp_all)
          · simp [sizeOf, typeInfo, hq, hs, e1, e2, e3, Sem.run_bind, bm, bh, bl]; try (unfold secA; split <;> simp_all)
  unfold Oper.wp execOp
  simp only [ho, hx, Sem.run_bind, hr, Result.andThen_ok, Sem.run_pure]
  exact hK _ _ hn
/-- The same in a region that draws its order. -/
theorem yieldsIf_sec {S : World → Prop} (hw : Region.wanted o (yielded ops a.tmps) = true) (t : TypeId) (x : Operand) (lo hi' mx : Option Operand) (ho : o.op = .slice t x lo hi' mx) {e : TypeId} {size : Nat} (ht : P.underlying t = some (.slice e)) (hi : (P.info? e).map (·.size) = some size)
    (A : Option Addr) (len cap l h m : Nat) (hx : a.eval x = .slice A len cap) (hl : Bnd a lo 0 l) (hh : Bnd a hi' len h) (hm : Bnd a mx cap m) (h1 : l ≤ h) (h2 : h ≤ m) (h3 : m ≤ cap) (h4 : hi' = none → mx = none)
    (v : Value) (hv : v = .slice (secA A l m size) (h - l) (m - l)) : YieldsIf P ops S o v a :=
  .inl ⟨hw, fun w _ => by
    subst hv
    have hr := run_slice_sec (P := P) (w := w) (a := a) ht hi lo hi' mx A len cap l h m hl hh hm h1 h2 h3 h4
    have hsl : ∀ v lo hi mx, (Instr.sliceAt t v lo hi mx).run P w = (Instr.slice t v lo hi mx).run P w := fun v lo hi mx => by simp [Instr.sliceAt, run_underlying ht]
    unfold execOp
    simp only [ho, hx, Sem.run_bind, hsl, hr, Result.andThen_ok, Sem.run_pure]⟩
theorem secA_some {g o l m size : Nat} (h : l < m) : secA (some ⟨g, o, none⟩) l m size = some ⟨g, o + l * size, none⟩ := by
  unfold secA
  rw [if_neg (by omega), Option.map_some, add_new]
end
end Go.Proofs.Ytaedmafmflohiaa
