/- What must come whatever the input is. Parts of one's own, of the document's type (printed by gen_rop.py). The document's match: a contract. -/
import Derived.Test.YtljinghhalcnnaaQDeltaTells11
import Derived.Test.YtljinghhalcnnaaQDeltaTells12
import Derived.Test.YtljinghhalcnnaaQDeltaTells7
import Derived.Test.YtljinghhalcnnaaQDeltaTells4
import Derived.Test.YtljinghhalcnnaaQDeltaTells2
import Derived.Deep.DeepCutAuto
namespace Go.Proofs.Ytljinghhalcnnaa
open Go.RowKit

def blk1 (x : UInt8) : List UInt8 := x :: List.replicate 63 0
theorem blk1_len (x : UInt8) : (blk1 x).length = 64 := rfl
theorem lit3 : (#[.int .u8 3, .int .u8 0, .int .u8 0, .int .u8 0, .int .u8 0, .int .u8 0, .int .u8 0, .int .u8 0, .int .u8 0, .int .u8 0, .int .u8 0, .int .u8 0, .int .u8 0, .int .u8 0, .int .u8 0, .int .u8 0, .int .u8 0, .int .u8 0, .int .u8 0, .int .u8 0, .int .u8 0, .int .u8 0, .int .u8 0, .int .u8 0, .int .u8 0, .int .u8 0, .int .u8 0, .int .u8 0, .int .u8 0, .int .u8 0, .int .u8 0, .int .u8 0, .int .u8 0, .int .u8 0, .int .u8 0, .int .u8 0, .int .u8 0, .int .u8 0, .int .u8 0, .int .u8 0, .int .u8 0, .int .u8 0, .int .u8 0, .int .u8 0, .int .u8 0, .int .u8 0, .int .u8 0, .int .u8 0, .int .u8 0, .int .u8 0, .int .u8 0, .int .u8 0, .int .u8 0, .int .u8 0, .int .u8 0, .int .u8 0, .int .u8 0, .int .u8 0, .int .u8 0, .int .u8 0, .int .u8 0, .int .u8 0, .int .u8 0, .int .u8 0] : Array Value) = (encB (blk1 3)).toArray := rfl
theorem Keeps.fresh1 {w w3 w4 : World} {o : Obj} (h : Keeps [] w w3) (hk : Keeps [w3.heap.size] (w3.alloc o) w4) : Keeps [] w w4 :=
  (h.alloc o).trans hk (fun t ht => .inr (by simp at ht; rw [ht]; exact h.size))
theorem some_u8d : (Try.prog.info? 5).isSome = true := by kernel_rfl
theorem cells_u8d : Try.prog.cellsOf 5 = 1 := by kernel_rfl
theorem guard_blkd : Try.prog.eqGuardType Try.prog.depth 23 = false := by kernel_rfl
theorem eq_blkd (w : World) (x y : List UInt8) (hx : x.length = 64) (hy : y.length = 64) : (binOp .eql 23 (.agg (encB x).toArray) (.agg (encB y).toArray)).run Try.prog w = .ok (.bool (x == y)) w := run_eql_arrB w Try.underlying23 Try.underlying5 some_u8d cells_u8d x y hx hy
/-- Parts of one's own that are one part. -/
theorem OpI.one {w w' : World} {A : Option Addr} {c : Nat} {ts : List Pt} {p : Pa} (h : OpI w w' A c ts) (hp : ts.map Pt.p = [p]) : ts.length = 1 ∧ ∃ g A2 c2, A = some ⟨g, 0, none⟩ ∧ ∀ z, Keeps [] w' z → z.cell? ⟨g, 0, none⟩ = some (.bool p.cp) ∧ z.cell? ⟨g, 2, none⟩ = some (.int .i64 p.ln) ∧ z.cell? ⟨g, 3, none⟩ = some (.slice A2 p.b.length c2) ∧ RdB z A2 p.b := by
  obtain ⟨t, rfl, ht⟩ : ∃ t, ts = [t] ∧ t.p = p := by
    rcases ts with _ | ⟨t, _ | ⟨u, us⟩⟩
    · simp at hp
    · exact ⟨t, rfl, by simpa using hp⟩
    · simp at hp
  obtain ⟨g, hg⟩ := own_some h.own (by simp)
  subst hg
  refine ⟨rfl, g, t.A, t.c, rfl, fun z hz => ?_⟩
  have h1 := ownsRow_keeps h.own hz (by simp)
  subst ht
  exact ⟨World.ownsRow.cellAt h1 0 (by simp), World.ownsRow.cellAt h1 2 (by simp), World.ownsRow.cellAt h1 3 (by simp), ((h.rd t (by simp)).1.keeps0 hz).rd⟩
set_option maxRecDepth 100000 in
set_option maxHeartbeats 8000000 in
theorem sure10_any (w : World) : Calls Try.prog 15 #[] w fun r w' => r = .returned (.bool true) ∧ Keeps [] w w' := by
  go_enter Try.func15, Try.ntmps15
  go_wp2_with fail
  refine (ops_any (blk1 1) (blk1 1) rfl rfl w).mono ?_
  rintro r w1 ⟨A1, c1, ts, rfl, hop, hts, _, _⟩
  rw [opsE_self _ rfl] at hts
  obtain ⟨hlen, g1, A9, c9, hg1, hcs⟩ := hop.one hts
  subst hg1
  have H1 := Lib.hid (And.intro hop.kp hcs)
  rw [hlen]
  clear hop hts hlen hcs
  go_wp2_with fail
  refine (diff_any (blk1 2) (blk1 3) rfl rfl w1).mono ?_
  rintro r w2 ⟨A2, c2, l2, hl2, rfl, ho2, hn2, hk2⟩
  have HB := Lib.hid (back10 (blk1 2) (blk1 3) rfl rfl)
  have H2 := Lib.hid (show Keeps [] w1 w2 ∧ RdB w2 A2 l2 ∧ (∀ a, A2 = some a → a.block < w2.heap.size) ∧ l2.length ≤ c2 ∧ l2.length ≤ 83 ∧ patchE (blk1 2) l2 = .ok (blk1 3) from
    ⟨hk2, ho2.rd, ho2.lt, ho2.cap, by rw [hl2.out]; exact HB.out.2.2, by unfold patchE; rw [hl2.out, HB.out.1]; exact HB.out.2.1⟩)
  clear hl2 ho2 hn2 hk2
  go_wp2_with fail
  refine (patch_any (blk1 2) rfl A2 l2 c2 w2 (by have := H2.out; omega) H2.out.2.2.2.1 H2.out.2.1 (fun a ha _ => H2.out.2.2.1 a ha)).mono ?_
  rintro r w3 ⟨hk3, ⟨e, he, hne, rfl⟩ | ⟨l, hl, hl64, rfl⟩⟩
  · exfalso
    rw [H2.out.2.2.2.2.2] at he
    cases he
  have hl3 : l = blk1 3 := by
    rw [H2.out.2.2.2.2.2] at hl
    injection hl with hl
    exact hl.symm
  subst hl3
  have HZ := Lib.hid zero64k
  obtain ⟨x3, hx3⟩ : ∃ x3, x3 = encB (blk1 3) := ⟨_, rfl⟩
  have H3 := Lib.hid (show Keeps [] w1 w3 from H2.out.1.trans hk3 (by simp))
  have HX := Lib.hid (show (encB z64).length = x3.length ∧ (Try.prog.info? 23).map (·.size) = some x3.length ∧ (∀ v ∈ x3, v.oneCell' = true) ∧ (Try.prog.info? 23).map (·.size) = some x3.toArray.size from
    ⟨by rw [hx3]; rfl, by rw [hx3]; exact hsz64 _ rfl, by rw [hx3]; exact encB_one _, by rw [hx3]; exact hsz64' _ rfl⟩)
  have fe : ∀ v, (binOp .eql 23 (.agg x3.toArray) (.agg #[.int .u8 3, .int .u8 0, .int .u8 0, .int .u8 0, .int .u8 0, .int .u8 0, .int .u8 0, .int .u8 0, .int .u8 0, .int .u8 0, .int .u8 0, .int .u8 0, .int .u8 0, .int .u8 0, .int .u8 0, .int .u8 0, .int .u8 0, .int .u8 0, .int .u8 0, .int .u8 0, .int .u8 0, .int .u8 0, .int .u8 0, .int .u8 0, .int .u8 0, .int .u8 0, .int .u8 0, .int .u8 0, .int .u8 0, .int .u8 0, .int .u8 0, .int .u8 0, .int .u8 0, .int .u8 0, .int .u8 0, .int .u8 0, .int .u8 0, .int .u8 0, .int .u8 0, .int .u8 0, .int .u8 0, .int .u8 0, .int .u8 0, .int .u8 0, .int .u8 0, .int .u8 0, .int .u8 0, .int .u8 0, .int .u8 0, .int .u8 0, .int .u8 0, .int .u8 0, .int .u8 0, .int .u8 0, .int .u8 0, .int .u8 0, .int .u8 0, .int .u8 0, .int .u8 0, .int .u8 0, .int .u8 0, .int .u8 0, .int .u8 0, .int .u8 0])).run Try.prog v = .ok (.bool true) v := fun v => by
    rw [lit3, hx3, eq_blkd v _ _ rfl rfl]
    simp
  have fg : ∀ y1 y2 v, (eqGuard .eql 23 y1 y2 (.agg x3.toArray) (.agg #[.int .u8 3, .int .u8 0, .int .u8 0, .int .u8 0, .int .u8 0, .int .u8 0, .int .u8 0, .int .u8 0, .int .u8 0, .int .u8 0, .int .u8 0, .int .u8 0, .int .u8 0, .int .u8 0, .int .u8 0, .int .u8 0, .int .u8 0, .int .u8 0, .int .u8 0, .int .u8 0, .int .u8 0, .int .u8 0, .int .u8 0, .int .u8 0, .int .u8 0, .int .u8 0, .int .u8 0, .int .u8 0, .int .u8 0, .int .u8 0, .int .u8 0, .int .u8 0, .int .u8 0, .int .u8 0, .int .u8 0, .int .u8 0, .int .u8 0, .int .u8 0, .int .u8 0, .int .u8 0, .int .u8 0, .int .u8 0, .int .u8 0, .int .u8 0, .int .u8 0, .int .u8 0, .int .u8 0, .int .u8 0, .int .u8 0, .int .u8 0, .int .u8 0, .int .u8 0, .int .u8 0, .int .u8 0, .int .u8 0, .int .u8 0, .int .u8 0, .int .u8 0, .int .u8 0, .int .u8 0, .int .u8 0, .int .u8 0, .int .u8 0, .int .u8 0])).run Try.prog v = .ok () v := fun y1 y2 v => run_eqGuard_arr (P := Try.prog) v guard_blkd .eql y1 y2 _ _
  rw [← hx3]
  clear hx3 hl hl64 hk3
  go_wp2_with (first
    | (refine wpList_store_rowK rfl 23 (.tmp 2) (.tmp 13) rfl w3.heap.size x3 (encB z64) 23 rfl rfl (by rw [HZ.out]; exact heap_alloc_new _ _) HX.out.1 HX.out.2.1 HX.out.2.2.1 ?_; intro w4 h4 hk4; have H4 := Lib.hid (show w4.heap[w3.heap.size]? = some (.cells x3.toArray 23 (0, 0)) ∧ Keeps [] w1 w4 from ⟨h4.out, H3.out.fresh1 hk4⟩); obtain ⟨q0, q2, _, _⟩ := H1.out.2 w4 H4.out.2; clear h4 hk4)
    | (refine wpList_unguard (by rfl) (wpList_load_row rfl 23 (.tmp 2) rfl w3.heap.size rfl 23 x3.toArray (0, 0) _ H4.out.1 Try.underlying23 rfl HX.out.2.2.2 ?_)))
  go_ret
  exact ⟨rfl, H1.out.1.trans H4.out.2 (by simp)⟩
end Go.Proofs.Ytljinghhalcnnaa
namespace Go.Proofs.Ytljinghhalcnnaa
open Go.RowKit

theorem infoOpR : (Try.prog.info? 46).map (fun i => (i.zero, i.size, i.bytes)) = some (some (.agg #[.bool false, .int .i64 0, .int .i64 0, .slice none 0 0]), 4, 48) := by kernel_rfl
/-- Parts of one's own. -/
structure OpR (w wr : World) (A : Option Addr) (c : Nat) (ts : List Pt) : Prop where
  own : wr.ownsRow 0 46 4 (.slice A ts.length c) ts.length (encPt ts)
  fr : ∀ a, A = some a → w.heap.size ≤ a.block
  rd : ∀ t ∈ ts, OwnB 5 wr t.A t.c t.p.b ∧ ∀ a, t.A = some a → w.heap.size ≤ a.block ∧ a.block ∉ blk A
  dj : ts.Pairwise fun s t => ∀ a b, s.A = some a → t.A = some b → a.block ≠ b.block
  kp : Keeps [] w wr
theorem OpR.nil (w wr : World) (hk : Keeps [] w wr) : OpR w wr none 0 [] := ⟨World.ownsRow_nil _ _ _ _, by simp, by simp, List.Pairwise.nil, hk⟩
theorem OpR.keeps0 {w wr wr' : World} {A : Option Addr} {c : Nat} {ts : List Pt} (h : OpR w wr A c ts) (hk : Keeps [] wr wr') : OpR w wr' A c ts :=
  ⟨ownsRow_keeps h.own hk (by simp), h.fr, fun t ht => ⟨(h.rd t ht).1.keeps0 hk, (h.rd t ht).2⟩, h.dj, h.kp.trans hk (by simp)⟩
/-- A part with bytes of its own is added. -/
theorem OpR.addB {w wr wa w4 : World} {A A4 : Option Addr} {c c4 n : Nat} {ts : List Pt} {t : Pt} (h : OpR w wr A c ts) (hb : OwnB 5 wr t.A t.c t.p.b) (hA : ∀ a, t.A = some a → w.heap.size ≤ a.block ∧ a.block ∉ blk A ∧ ∀ s ∈ ts, ∀ b, s.A = some b → b.block ≠ a.block) (hka : Keeps [] wr wa) (hn : n = ts.length)
    (ho : w4.ownsRow 0 46 4 (.slice A4 (n + 1) c4) (n + 1) (encPt ts ++ t.cells)) (hk : Keeps (blk A) wa w4) (hf : ∀ a, A4 = some a → a.block ∈ blk A ∨ wa.heap.size ≤ a.block) : OpR w w4 A4 c4 (ts ++ [t]) := by
  subst hn
  have s1 := h.kp.size
  have s2 := hka.size
  have k14 : Keeps (blk A) wr w4 := (hka.mono (by simp)).trans hk (fun t ht => .inl ht)
  have hin : ∀ {a : Addr}, a.block < wr.heap.size → a.block ∉ blk A → a.block ∉ blk A4 := fun {a} h1 h2 hm => by
    obtain ⟨b, e1, e2⟩ := mem_blk.1 hm
    rcases hf b e1 with h4 | h4
    · rw [e2] at h4; exact h2 h4
    · omega
  refine ⟨?_, fun a ha => ?_, fun s hs => ?_, ?_, (h.kp.trans hka (by simp)).fresh hk h.fr⟩
  · rw [List.length_append, encPt_append]
    simpa [encPt] using ho
  · rcases hf a ha with h1 | h1
    · obtain ⟨b, e1, e2⟩ := mem_blk.1 h1
      rw [← e2]; exact h.fr b e1
    · omega
  · rcases List.mem_append.1 hs with h1 | h1
    · obtain ⟨h2, h3⟩ := h.rd s h1
      exact ⟨h2.keeps k14 (fun a ha => (h3 a ha).2), fun a ha => ⟨(h3 a ha).1, hin (h2.lt a ha) (h3 a ha).2⟩⟩
    · obtain rfl := List.mem_singleton.1 h1
      exact ⟨hb.keeps k14 (fun a ha => (hA a ha).2.1), fun a ha => ⟨(hA a ha).1, hin (hb.lt a ha) (hA a ha).2.1⟩⟩
  · rw [List.pairwise_append]
    refine ⟨h.dj, List.pairwise_singleton _ _, fun s hs t' ht' a b ha hb' => ?_⟩
    obtain rfl := List.mem_singleton.1 ht'
    exact (hA b hb').2.2 s hs a ha
end Go.Proofs.Ytljinghhalcnnaa
namespace Go.Proofs.Ytljinghhalcnnaa
open Go.RowKit

section
variable {P : Program} {ops : Array Oper} {o : Oper} {a : Act}
/-- A part of an array behind a pointer, from and to, in a region that draws its order. -/
theorem yieldsIf_secArr2 {S : World → Prop} (hw : Region.wanted o (yielded ops a.tmps) = true) (t : TypeId) (x : Operand) (lo hi' : Option Operand) (ho : o.op = .slice t x lo hi' none) {e : TypeId} {n size : Nat} (ht : P.underlying t = some (.array n e)) (hi : (P.info? e).map (·.size) = some size)
    (ad : Addr) (l h : Nat) (hx : a.eval x = .pointer (some ad)) (hl : Bnd a lo 0 l) (hh : Bnd a hi' n h) (h1 : l ≤ h) (h2 : h ≤ n) (v : Value) (hv : v = .slice (secA (some ad) l n size) (h - l) (n - l)) : YieldsIf P ops S o v a :=
  .inl ⟨hw, fun w _ => by
    subst hv
    have hr : (Instr.sliceAt t (.pointer (some ad)) (lo.map a.eval) (hi'.map a.eval) none).run P w = .ok (.slice (secA (some ad) l n size) (h - l) (n - l)) w := by
      cases hq : P.info? e with
      | none => rw [hq] at hi; cases hi
      | some i =>
        have hs : i.size = size := by rw [hq] at hi; simpa using hi
        have bl : ∀ k code, (Instr.sliceBound (.int k (l : Int)) h code).run P w = .ok l w := fun k code => by simpa using run_sliceBound (P := P) (l : Int) k h code w (by omega) (by omega)
        have bh : ∀ k code, (Instr.sliceBound (.int k (h : Int)) n code).run P w = .ok h w := fun k code => by simpa using run_sliceBound (P := P) (h : Int) k n code w (by omega) (by omega)
        unfold Instr.sliceAt Instr.sliceBounds
        simp only [Sem.run_bind, run_underlying ht, Result.andThen_ok, Instr.sureAddr, Sem.run_pure]
        rcases hh with ⟨rfl, rfl⟩ | ⟨y2, k2, rfl, e2⟩
        · rcases hl with ⟨rfl, rfl⟩ | ⟨y1, k1, rfl, e1⟩
          · simp [sizeOf, typeInfo, hq, hs]; try (unfold secA; split <;> simp_all)
          · simp [sizeOf, typeInfo, hq, hs, e1, Sem.run_bind, bl]; try (unfold secA; split <;> simp_all)
        · rcases hl with ⟨rfl, rfl⟩ | ⟨y1, k1, rfl, e1⟩
          · simp [sizeOf, typeInfo, hq, hs, e2, Sem.run_bind, bh]; try (unfold secA; split <;> simp_all)
          · simp [sizeOf, typeInfo, hq, hs, e1, e2, Sem.run_bind, bh, bl]; try (unfold secA; split <;> simp_all)
    unfold execOp
    simp only [ho, hx, Sem.run_bind, Option.map_none, hr, Result.andThen_ok, Sem.run_pure]⟩
end
theorem mat_first (base target : List UInt8) (hb : base.length = 64) (_ht : target.length = 64) (a n i : Nat) (hn : 0 < n) (hna : a + n ≤ 64) (hi : i + n ≤ 64) (heq : (base.drop i).take n = (target.drop a).take n)
    (hup : ∀ j, com (base.drop j) (target.drop a) ≤ n) (hlo : ∀ j, j < i → com (base.drop j) (target.drop a) < n) : mat base target a = (i, n) := by
  have h1 : n ≤ com (base.drop i) (target.drop a) := (com_iff _ _ _ (by rw [List.length_drop]; omega) (by rw [List.length_drop]; omega)).2 heq
  have h2 := best_le base (target.drop a) base.length i (by omega)
  unfold mat
  rcases best_at base (target.drop a) base.length with ⟨h3, _⟩ | ⟨_, _, h5, h6⟩
  · omega
  · have h7 := hup (best base (target.drop a) base.length).1
    refine Prod.ext ?_ (by simp only; omega)
    simp only
    rcases Nat.lt_trichotomy (best base (target.drop a) base.length).1 i with h8 | h8 | h8
    · have := hlo _ h8; omega
    · exact h8
    · have := h6 i h8; omega
theorem mat_none (base target : List UInt8) (a : Nat) (hup : ∀ j, com (base.drop j) (target.drop a) ≤ 0) : mat base target a = (0, 0) := by
  unfold mat
  rcases best_at base (target.drop a) base.length with ⟨h1, h2⟩ | ⟨h3, _, h5, _⟩
  · exact Prod.ext h2 h1
  · have := hup (best base (target.drop a) base.length).1; omega
theorem com_up (base target : List UInt8) (hb : base.length = 64) (_ht : target.length = 64) (a n i : Nat) (hn : 64 < i + n) (hlo : ∀ j, j < i → com (base.drop j) (target.drop a) < n) (j : Nat) : com (base.drop j) (target.drop a) ≤ n - 1 := by
  rcases Nat.lt_or_ge j i with h1 | h1
  · have := hlo j h1; omega
  · have := (com_le (base.drop j) (target.drop a)).1
    rw [List.length_drop] at this
    omega
set_option maxRecDepth 100000 in
set_option maxHeartbeats 8000000 in
theorem rmatch_any (base target : List UInt8) (hb : base.length = 64) (ht : target.length = 64) (at_ : Int) (w : World) :
    Calls Try.prog 9 #[.agg (encB base).toArray, .agg (encB target).toArray, .int .i64 at_] w fun r w' => r = .returned (.tuple #[.int .i64 ((matI base target at_).1 : Nat), .int .i64 ((matI base target at_).2 : Nat)]) ∧ Keeps [] w w' := by
  have HL := Lib.hid (And.intro hb ht)
  obtain ⟨bs, hbs⟩ : ∃ bs, bs = (encB base).toArray := ⟨_, rfl⟩
  obtain ⟨ts, hts⟩ : ∃ ts, ts = (encB target).toArray := ⟨_, rfl⟩
  obtain ⟨g, hg⟩ : ∃ g, g = w.heap.size := ⟨_, rfl⟩
  obtain ⟨gh, hh⟩ : ∃ h, h = w.heap.size + 1 := ⟨_, rfl⟩
  obtain ⟨W, hW⟩ : ∃ W, W = (w.alloc (.cells bs 23)).alloc (.cells ts 23) := ⟨_, rfl⟩
  have HB := Lib.hid (show Bx w W g gh base target from by
    refine ⟨?_, ?_, ?_⟩
    · rw [hW, hg, hbs]; exact heap_alloc2_old _ _ _
    · rw [hW, hh, hts]; exact heap_alloc2_new _ _ _
    · rw [hW]; exact ((Keeps.refl [] w).alloc _).alloc _)
  have HW := Lib.hid (show W = (w.alloc (.cells bs 23)).alloc (.cells ts 23) ∧ g = w.heap.size ∧ gh = w.heap.size + 1 from ⟨hW, hg, hh⟩)
  rw [← hbs, ← hts]
  clear hb ht hbs hts hg hh hW
  rcases (show at_ < 0 ∨ 64 ≤ at_ ∨ (0 ≤ at_ ∧ at_ < 64) by omega) with ha | ha2 | ha2
  · have HM := Lib.hid (show matI base target at_ = (0, 0) from if_pos (.inl ha))
    go_enter Try.func9, Try.ntmps9
    go_wp2_with fail
    go_ret2
    rw [← HW.out.1]
    exact ⟨by rw [HM.out]; rfl, HB.out.kp⟩
  · have HM := Lib.hid (show matI base target at_ = (0, 0) from if_pos (.inr ha2))
    have ha3 : ¬ at_ < 0 := by omega
    have ha4 : 63 < at_ := by omega
    go_enter Try.func9, Try.ntmps9
    go_wp2_with fail
    go_ret2
    rw [← HW.out.1]
    exact ⟨by rw [HM.out]; rfl, HB.out.kp⟩
  · obtain ⟨p, rfl⟩ : ∃ p : Nat, at_ = (p : Int) := ⟨at_.toNat, by omega⟩
    obtain ⟨t, htt⟩ : ∃ t, t = target.drop p := ⟨_, rfl⟩
    have HM := Lib.hid (show matI base target (p : Int) = mat base target p from by unfold matI; rw [if_neg (by omega)]; rfl)
    have HT := Lib.hid (show t = target.drop p ∧ p < 64 from ⟨htt, by omega⟩)
    have ha3 : ¬ (p : Int) < 0 := by omega
    have ha4 : ¬ (63 : Int) < (p : Int) := by omega
    have hp64 : p < 64 := by omega
    obtain ⟨m0, hm0⟩ : ∃ m0, m0 = 64 - p := ⟨_, rfl⟩
    have d0 : (64 : Int) - (p : Int) = (m0 : Int) := by omega
    have HM0 := Lib.hid (show m0 = 64 - p ∧ ∀ j, com (base.drop j) t ≤ m0 from ⟨hm0, fun j => by have := (com_le (base.drop j) t).2; rw [htt, List.length_drop, HL.out.2] at this; rw [hm0, htt]; exact this⟩)
    clear ha2 htt hm0
    go_enter Try.func9, Try.ntmps9
    go_upto_region 3 with fail
    rw [← HW.out.1, ← HW.out.2.2, ← HW.out.2.1]
    go_wp2_with fail
    go_loopw [8] (fun s8 wr => ∃ n : Nat, s8 = .int .i64 n ∧ n ≤ 64 ∧ Hid (n ≤ 64 - p ∧ (∀ j, com (base.drop j) t ≤ n) ∧ Keeps [] W wr)) (fun s8 _ => (intOf s8).toNat)
    case atStart => exact ⟨m0, by go_num, by have := HM0.out.1; omega, ⟨by have := HM0.out.1; omega, HM0.out.2, Keeps.refl [] W⟩⟩
    case round =>
      obtain ⟨n, rfl, hn64, D⟩ := hrel
      by_cases hn : n = 0
      · subst hn
        have HE := Lib.hid (show mat base target p = (0, 0) ∧ Keeps [] w wr from ⟨mat_none _ _ _ (by rw [← HT.out.1]; exact D.out.2.1), HB.out.kp.trans D.out.2.2 (by simp)⟩)
        clear D
        go_wp2_with fail
        go_ret2
        exact ⟨by rw [HM.out, HE.out.1]; rfl, HE.out.2⟩
      · have hni : (0 : Int) < (n : Int) := by omega
        have hn0 : 0 < n := by omega
        have HD := Lib.hid (show n ≤ 64 - p ∧ ∀ j, com (base.drop j) t ≤ n from ⟨D.out.1, D.out.2.1⟩)
        clear hn
        go_wp2_with fail
        go_loopw [9] (fun s9 wr => ∃ i : Nat, s9 = .int .i64 i ∧ i ≤ 65 ∧ Hid (i + n ≤ 65 ∧ (∀ j, j < i → com (base.drop j) t < n) ∧ Keeps [] W wr)) (fun s9 _ => 65 - (intOf s9).toNat)
        case atStart => exact ⟨0, rfl, by omega, ⟨by omega, by intro j hj; omega, D.out.2.2⟩⟩
        case round =>
          clear D
          obtain ⟨i, rfl, hi65, D⟩ := hrel
          obtain ⟨q, hq⟩ : ∃ q, q = i + n := ⟨_, rfl⟩
          have d1 : (i : Int) + (n : Int) = (q : Int) := by omega
          have HQ := Lib.hid hq
          by_cases hin : q ≤ 64
          · have hini : (q : Int) ≤ 64 := by omega
            have BX := Lib.hid (HB.out.keeps0 D.out.2.2)
            obtain ⟨q2, hq2⟩ : ∃ q2, q2 = p + n := ⟨_, rfl⟩
            have d2 : (p : Int) + (n : Int) = (q2 : Int) := by omega
            have hq64 : q2 ≤ 64 := by have := HD.out.1; omega
            have hiq : i ≤ q := by omega
            have hpq : p ≤ q2 := by omega
            have f1 : IntKind.i64.wrap (q : Int) = (q : Int) := by rw [IntKind.wrap_i64]; omega
            have f2 : IntKind.i64.wrap (q2 : Int) = (q2 : Int) := by rw [IntKind.wrap_i64]; omega
            obtain ⟨SA, hSA⟩ : ∃ SA, SA = secA (some ⟨g, 0, none⟩) i 64 1 := ⟨_, rfl⟩
            obtain ⟨SB, hSB⟩ : ∃ SB, SB = secA (some ⟨gh, 0, none⟩) p 64 1 := ⟨_, rfl⟩
            have HS := Lib.hid (show SA = secA (some ⟨g, 0, none⟩) i 64 1 ∧ SB = secA (some ⟨gh, 0, none⟩) p 64 1 ∧ q - i = n ∧ q2 - p = n from ⟨hSA, hSB, by omega, by omega⟩)
            obtain ⟨xs, hxs⟩ : ∃ xs, xs = (base.drop i).take n := ⟨_, rfl⟩
            obtain ⟨ys, hys⟩ : ∃ ys, ys = (target.drop p).take n := ⟨_, rfl⟩
            have HX := Lib.hid (show xs = (base.drop i).take n ∧ ys = (target.drop p).take n ∧ xs.length = n ∧ ys.length = n ∧ i + n ≤ 64 ∧ p + n ≤ 64 from ⟨hxs, hys, by rw [hxs, List.length_take, List.length_drop, HL.out.1]; omega, by rw [hys, List.length_take, List.length_drop, HL.out.2]; omega, by omega, by omega⟩)
            have FA : ∀ z, Keeps [] wr z → (convert 31 9 (.slice SA n (64 - i))).run Try.prog z = .ok (.string (strB xs)) z := fun z hz => by
              have h1 := run_conv_str (P := Try.prog) z (dst := 9) Try.underlying31 Try.underlying5 Try.underlying9 (A := SA) (l := xs) (by
                rw [HS.out.1, HX.out.1]
                exact (rdb_row (BX.out.keeps0 hz).b).sec i n 64 (by rw [HL.out.1]; exact HX.out.2.2.2.2.1) HX.out.2.2.2.2.1) (64 - i)
              rwa [HX.out.2.2.1] at h1
            have FB : ∀ z, Keeps [] wr z → (convert 31 9 (.slice SB n (64 - p))).run Try.prog z = .ok (.string (strB ys)) z := fun z hz => by
              have h1 := run_conv_str (P := Try.prog) z (dst := 9) Try.underlying31 Try.underlying5 Try.underlying9 (A := SB) (l := ys) (by
                rw [HS.out.2.1, HX.out.2.1]
                exact (rdb_row (BX.out.keeps0 hz).t).sec p n 64 (by rw [HL.out.2]; exact HX.out.2.2.2.2.2) HX.out.2.2.2.2.2) (64 - p)
              rwa [HX.out.2.2.2.1] at h1
            have hn64b : 64 - i ≤ 64 := by omega
            have hini' : q ≤ 64 := hin
            clear hq hq2 hSA hSB hxs hys hin
            by_cases heq : xs = ys
            · have HM2 := Lib.hid (show mat base target p = (i, n) ∧ Keeps [] w wr from ⟨mat_first base target HL.out.1 HL.out.2 p n i hn0 HX.out.2.2.2.2.2 HX.out.2.2.2.2.1 (by rw [← HX.out.1, ← HX.out.2.1]; exact heq) (by rw [← HT.out.1]; exact HD.out.2) (by rw [← HT.out.1]; exact D.out.2.1), HB.out.kp.trans D.out.2.2 (by simp)⟩)
              subst heq
              go_upto_region 9 with fail
              refine seq_start (by kernel_rfl) (fun z => Keeps [] wr z) 13 [0, 1, 2, 3, 4, 5, 6, 7, 8, 9, 10, 11, 12] rfl ((Keeps.refl [] wr).drew) (fun hS => ?_)
              refine seq_take (v := ?_) rfl (by kernel_rfl) (by kernel_rfl) (by kernel_rfl) (Or.inl ⟨by rfl, fun w' hSw => ?_⟩) (by assumption) ?_
              rotate_left
              · go_simp
                with_reducible rfl
              simp only [Act.put, List.setIfInBounds_toArray, List.set_cons_zero, List.set_cons_succ]
              refine seq_take (v := ?_) rfl (by kernel_rfl) (by kernel_rfl) (by kernel_rfl) (Or.inl ⟨by rfl, fun w' hSw => ?_⟩) (by assumption) ?_
              rotate_left
              · go_simp
                with_reducible rfl
              simp only [Act.put, List.setIfInBounds_toArray, List.set_cons_zero, List.set_cons_succ]
              refine seq_take (v := ?_) rfl (by kernel_rfl) (by kernel_rfl) (by kernel_rfl) (Or.inl ⟨by rfl, fun w' hSw => ?_⟩) (by assumption) ?_
              rotate_left
              · go_simp
                with_reducible rfl
              simp only [Act.put, List.setIfInBounds_toArray, List.set_cons_zero, List.set_cons_succ]
              refine seq_take (v := ?_) rfl (by kernel_rfl) (by kernel_rfl) (by kernel_rfl) (Or.inl ⟨by rfl, fun w' hSw => ?_⟩) (by assumption) ?_
              rotate_left
              · go_simp
                with_reducible rfl
              simp only [Act.put, List.setIfInBounds_toArray, List.set_cons_zero, List.set_cons_succ]
              refine seq_take (v := .slice SA n (64 - i)) rfl (by kernel_rfl) (by kernel_rfl) (by kernel_rfl) ?_ (by assumption) ?_
              · exact yieldsIf_secArr2 (by rfl) 23 (.tmp 3) (some (.tmp 28)) (some (.tmp 31)) (by rfl) Try.underlying23 infoB1d ⟨g, 0, none⟩ i q (by rfl) (Bnd.at_ (by rfl)) (Bnd.at_ (by rfl)) hiq hini' _ (by rw [HS.out.1, HS.out.2.2.1])
              simp only [Act.put, List.setIfInBounds_toArray, List.set_cons_zero, List.set_cons_succ]
              refine seq_take (v := ?_) rfl (by kernel_rfl) (by kernel_rfl) (by kernel_rfl) (Or.inl ⟨by rfl, fun w' hSw => ?_⟩) (by assumption) ?_
              rotate_left
              · go_simp
                with_reducible rfl
              simp only [Act.put, List.setIfInBounds_toArray, List.set_cons_zero, List.set_cons_succ]
              refine seq_take (v := ?_) rfl (by kernel_rfl) (by kernel_rfl) (by kernel_rfl) (Or.inl ⟨by rfl, fun w' hSw => ?_⟩) (by assumption) ?_
              rotate_left
              · go_simp
                with_reducible rfl
              simp only [Act.put, List.setIfInBounds_toArray, List.set_cons_zero, List.set_cons_succ]
              refine seq_take (v := ?_) rfl (by kernel_rfl) (by kernel_rfl) (by kernel_rfl) (Or.inl ⟨by rfl, fun w' hSw => ?_⟩) (by assumption) ?_
              rotate_left
              · go_simp
                with_reducible rfl
              simp only [Act.put, List.setIfInBounds_toArray, List.set_cons_zero, List.set_cons_succ]
              refine seq_take (v := ?_) rfl (by kernel_rfl) (by kernel_rfl) (by kernel_rfl) (Or.inl ⟨by rfl, fun w' hSw => ?_⟩) (by assumption) ?_
              rotate_left
              · go_simp
                with_reducible rfl
              simp only [Act.put, List.setIfInBounds_toArray, List.set_cons_zero, List.set_cons_succ]
              refine seq_take (v := ?_) rfl (by kernel_rfl) (by kernel_rfl) (by kernel_rfl) (Or.inl ⟨by rfl, fun w' hSw => ?_⟩) (by assumption) ?_
              rotate_left
              · go_simp
                with_reducible rfl
              simp only [Act.put, List.setIfInBounds_toArray, List.set_cons_zero, List.set_cons_succ]
              refine seq_take (v := .slice SB n (64 - p)) rfl (by kernel_rfl) (by kernel_rfl) (by kernel_rfl) ?_ (by assumption) ?_
              · exact yieldsIf_secArr2 (by rfl) 23 (.tmp 4) (some (.tmp 34)) (some (.tmp 37)) (by rfl) Try.underlying23 infoB1d ⟨gh, 0, none⟩ p q2 (by rfl) (Bnd.at_ (by rfl)) (Bnd.at_ (by rfl)) hpq hq64 _ (by rw [HS.out.2.1, HS.out.2.2.2])
              simp only [Act.put, List.setIfInBounds_toArray, List.set_cons_zero, List.set_cons_succ]
              refine seq_take (v := ?_) rfl (by kernel_rfl) (by kernel_rfl) (by kernel_rfl) (Or.inl ⟨by rfl, fun w' hSw => ?_⟩) (by assumption) ?_
              rotate_left
              · go_simp
                with_reducible rfl
              simp only [Act.put, List.setIfInBounds_toArray, List.set_cons_zero, List.set_cons_succ]
              refine seq_take (v := ?_) rfl (by kernel_rfl) (by kernel_rfl) (by kernel_rfl) (Or.inl ⟨by rfl, fun w' hSw => ?_⟩) (by assumption) ?_
              rotate_left
              · go_simp
                with_reducible rfl
              simp only [Act.put, List.setIfInBounds_toArray, List.set_cons_zero, List.set_cons_succ]
              refine seq_done (by kernel_rfl) ?_
              all_goals skip
              clear hS D
              go_wp2_with fail
              go_ret2
              exact ⟨by rw [HM.out, HM2.out.1]; rfl, HM2.out.2.drew⟩
            · have hne : (xs == ys) = false := beq_eq_false_iff_ne.2 heq
              have hne2 : ((strB xs).toList == (strB ys).toList) = false := by rw [strB_beq]; exact hne
              have D2 := Lib.hid (show i + 1 + n ≤ 65 ∧ (∀ j, j < i + 1 → com (base.drop j) t < n) ∧ Keeps [] W wr.drew from by
                refine ⟨by have := HX.out.2.2.2.2.1; omega, fun j hj => ?_, D.out.2.2.drew⟩
                rcases Nat.lt_or_ge j i with h1 | h1
                · exact D.out.2.1 j h1
                · obtain rfl : j = i := by omega
                  have h2 := HD.out.2 j
                  refine Nat.lt_of_le_of_ne h2 (fun e1 => heq ?_)
                  rw [HX.out.1, HX.out.2.1]
                  exact (com_iff _ _ n (by rw [List.length_drop, HL.out.1]; have := HX.out.2.2.2.2.1; omega) (by rw [List.length_drop, HL.out.2]; have := HX.out.2.2.2.2.2; omega)).1 (by rw [← HT.out.1, e1]; exact Nat.le_refl _))
              clear heq
              go_upto_region 9 with fail
              refine seq_start (by kernel_rfl) (fun z => Keeps [] wr z) 13 [0, 1, 2, 3, 4, 5, 6, 7, 8, 9, 10, 11, 12] rfl ((Keeps.refl [] wr).drew) (fun hS => ?_)
              refine seq_take (v := ?_) rfl (by kernel_rfl) (by kernel_rfl) (by kernel_rfl) (Or.inl ⟨by rfl, fun w' hSw => ?_⟩) (by assumption) ?_
              rotate_left
              · go_simp
                with_reducible rfl
              simp only [Act.put, List.setIfInBounds_toArray, List.set_cons_zero, List.set_cons_succ]
              refine seq_take (v := ?_) rfl (by kernel_rfl) (by kernel_rfl) (by kernel_rfl) (Or.inl ⟨by rfl, fun w' hSw => ?_⟩) (by assumption) ?_
              rotate_left
              · go_simp
                with_reducible rfl
              simp only [Act.put, List.setIfInBounds_toArray, List.set_cons_zero, List.set_cons_succ]
              refine seq_take (v := ?_) rfl (by kernel_rfl) (by kernel_rfl) (by kernel_rfl) (Or.inl ⟨by rfl, fun w' hSw => ?_⟩) (by assumption) ?_
              rotate_left
              · go_simp
                with_reducible rfl
              simp only [Act.put, List.setIfInBounds_toArray, List.set_cons_zero, List.set_cons_succ]
              refine seq_take (v := ?_) rfl (by kernel_rfl) (by kernel_rfl) (by kernel_rfl) (Or.inl ⟨by rfl, fun w' hSw => ?_⟩) (by assumption) ?_
              rotate_left
              · go_simp
                with_reducible rfl
              simp only [Act.put, List.setIfInBounds_toArray, List.set_cons_zero, List.set_cons_succ]
              refine seq_take (v := .slice SA n (64 - i)) rfl (by kernel_rfl) (by kernel_rfl) (by kernel_rfl) ?_ (by assumption) ?_
              · exact yieldsIf_secArr2 (by rfl) 23 (.tmp 3) (some (.tmp 28)) (some (.tmp 31)) (by rfl) Try.underlying23 infoB1d ⟨g, 0, none⟩ i q (by rfl) (Bnd.at_ (by rfl)) (Bnd.at_ (by rfl)) hiq hini' _ (by rw [HS.out.1, HS.out.2.2.1])
              simp only [Act.put, List.setIfInBounds_toArray, List.set_cons_zero, List.set_cons_succ]
              refine seq_take (v := ?_) rfl (by kernel_rfl) (by kernel_rfl) (by kernel_rfl) (Or.inl ⟨by rfl, fun w' hSw => ?_⟩) (by assumption) ?_
              rotate_left
              · go_simp
                with_reducible rfl
              simp only [Act.put, List.setIfInBounds_toArray, List.set_cons_zero, List.set_cons_succ]
              refine seq_take (v := ?_) rfl (by kernel_rfl) (by kernel_rfl) (by kernel_rfl) (Or.inl ⟨by rfl, fun w' hSw => ?_⟩) (by assumption) ?_
              rotate_left
              · go_simp
                with_reducible rfl
              simp only [Act.put, List.setIfInBounds_toArray, List.set_cons_zero, List.set_cons_succ]
              refine seq_take (v := ?_) rfl (by kernel_rfl) (by kernel_rfl) (by kernel_rfl) (Or.inl ⟨by rfl, fun w' hSw => ?_⟩) (by assumption) ?_
              rotate_left
              · go_simp
                with_reducible rfl
              simp only [Act.put, List.setIfInBounds_toArray, List.set_cons_zero, List.set_cons_succ]
              refine seq_take (v := ?_) rfl (by kernel_rfl) (by kernel_rfl) (by kernel_rfl) (Or.inl ⟨by rfl, fun w' hSw => ?_⟩) (by assumption) ?_
              rotate_left
              · go_simp
                with_reducible rfl
              simp only [Act.put, List.setIfInBounds_toArray, List.set_cons_zero, List.set_cons_succ]
              refine seq_take (v := ?_) rfl (by kernel_rfl) (by kernel_rfl) (by kernel_rfl) (Or.inl ⟨by rfl, fun w' hSw => ?_⟩) (by assumption) ?_
              rotate_left
              · go_simp
                with_reducible rfl
              simp only [Act.put, List.setIfInBounds_toArray, List.set_cons_zero, List.set_cons_succ]
              refine seq_take (v := .slice SB n (64 - p)) rfl (by kernel_rfl) (by kernel_rfl) (by kernel_rfl) ?_ (by assumption) ?_
              · exact yieldsIf_secArr2 (by rfl) 23 (.tmp 4) (some (.tmp 34)) (some (.tmp 37)) (by rfl) Try.underlying23 infoB1d ⟨gh, 0, none⟩ p q2 (by rfl) (Bnd.at_ (by rfl)) (Bnd.at_ (by rfl)) hpq hq64 _ (by rw [HS.out.2.1, HS.out.2.2.2])
              simp only [Act.put, List.setIfInBounds_toArray, List.set_cons_zero, List.set_cons_succ]
              refine seq_take (v := ?_) rfl (by kernel_rfl) (by kernel_rfl) (by kernel_rfl) (Or.inl ⟨by rfl, fun w' hSw => ?_⟩) (by assumption) ?_
              rotate_left
              · go_simp
                with_reducible rfl
              simp only [Act.put, List.setIfInBounds_toArray, List.set_cons_zero, List.set_cons_succ]
              refine seq_take (v := ?_) rfl (by kernel_rfl) (by kernel_rfl) (by kernel_rfl) (Or.inl ⟨by rfl, fun w' hSw => ?_⟩) (by assumption) ?_
              rotate_left
              · go_simp
                with_reducible rfl
              simp only [Act.put, List.setIfInBounds_toArray, List.set_cons_zero, List.set_cons_succ]
              refine seq_done (by kernel_rfl) ?_
              all_goals skip
              clear hS D
              go_wp2_with fail
              go_roundw
              case rel => exact ⟨i + 1, by go_num, by have := D2.out.1; omega, D2⟩
              case measure => simp [intOf]; omega
          · have hini : ¬ (q : Int) ≤ 64 := by omega
            obtain ⟨n1, hn1⟩ : ∃ n1, n1 = n - 1 := ⟨_, rfl⟩
            have dn : (n : Int) - 1 = (n1 : Int) := by omega
            have D2 := Lib.hid (show n1 ≤ 64 - p ∧ (∀ j, com (base.drop j) t ≤ n1) ∧ Keeps [] W wr from ⟨by have := HD.out.1; omega, fun j => by
              have h1 := D.out.2.1
              rw [HT.out.1] at h1 ⊢
              rw [hn1]
              exact com_up base target HL.out.1 HL.out.2 p n i (by omega) h1 j, D.out.2.2⟩)
            have HN1 := Lib.hid hn1
            clear hn1 hin hq D
            go_wp2_with fail
            go_roundw
            case rel => exact ⟨n1, by go_num, by have := D2.out.1; omega, D2⟩
            case measure => have := HN1.out; simp [intOf]; omega
end Go.Proofs.Ytljinghhalcnnaa
