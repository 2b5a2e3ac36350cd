/- A region that draws its order and ends in a store (number z, which waits for all others): what is known of the world need not hold behind that store. No program is named here. A key laid in, asked for, and how many bits are set: contracts. Whether a key may be there, how many bits are set, a filter as bytes: contracts. -/
import Derived.Test.YthppbefemfkccaaDoorQBloomReads2
import Derived.Test.YthppbefemfkccaaDoorQBloomReads4
namespace Go.Proofs.YthppbefemfkccaaDoor
open Go.RowKit

section
variable {P : Program} {L : List Oper} {Q : Exit → Act → World → Prop} {md : Region.Mode} {S : World → Prop} {z : Nat}

/-- Whatever comes up; behind each one but number z, S holds. -/
def anyZ (P : Program) (md : Region.Mode) (ops : Array Oper) (Q : Exit → Act → World → Prop) (S : World → Prop) (z : Nat) : Nat → Array Bool → Act → World → Prop
  | 0, done, a, w => Region.ready md ops done = [] ∧ Q .normal a w
  | n + 1, done, a, w => (Region.ready md ops done = [] → Q .normal a w) ∧
      ∀ j ∈ Region.ready md ops done, wpOp P ops Q j (fun a' w' => (j ≠ z → S w') ∧ anyZ P md ops Q S z n (done.setIfInBounds j true) a' w') a w
theorem anyZ_any {ops : Array Oper} : ∀ (n : Nat) (done : Array Bool) (a : Act) (w : World), anyZ P md ops Q S z n done a w → wpAny P md ops Q n done a w
  | 0, _, _, _, k => k
  | n + 1, _, _, _, k => ⟨k.1, fun j hj => wpOp_mono (fun _ _ k' => anyZ_any n _ _ _ k'.2) (k.2 j hj)⟩
/-- Number z waits for number i, or for what waits for it, and so on. -/
def reachB (md : Region.Mode) (ops : Array Oper) : Nat → Nat → Nat → Bool
  | 0, _, _ => false
  | n + 1, z, i => match ops[z]? with
    | some o => o.after.any fun e => Region.binds md e && (e.on == i || reachB md ops n e.on i)
    | none => false
/-- What is done has all done that it waits for. -/
def ShutB (md : Region.Mode) (ops : Array Oper) (done : Array Bool) : Prop := ∀ m om, ops[m]? = some om → done.getD m false = true → ∀ e ∈ om.after, Region.binds md e = true → done.getD e.on false = true
def shutB (md : Region.Mode) (ops : Array Oper) (done : Array Bool) : Bool := (List.range ops.size).all fun m => !done.getD m false || match ops[m]? with | some om => om.after.all fun e => !Region.binds md e || done.getD e.on false | none => true
theorem ShutB.of {md : Region.Mode} {ops : Array Oper} {done : Array Bool} (h : shutB md ops done = true) : ShutB md ops done := by
  intro m om hm hd e he hb
  have hlt := (Array.getElem?_eq_some_iff.1 hm).1
  have h1 := List.all_eq_true.1 h m (List.mem_range.2 hlt)
  rw [hm, hd] at h1
  simp only [Bool.not_true, Bool.false_or] at h1
  have h2 := Array.all_eq_true_iff_forall_mem.1 h1 e he
  rw [hb] at h2
  simpa using h2
theorem ShutB.set {md : Region.Mode} {ops : Array Oper} {done : Array Bool} (h : ShutB md ops done) {j : Nat} (hj : j ∈ Region.ready md ops done) : ShutB md ops (done.setIfInBounds j true) := by
  have up : ∀ k, done.getD k false = true → (done.setIfInBounds j true).getD k false = true := by
    intro k hk
    by_cases hkj : j = k
    · subst hkj
      by_cases hlt : j < done.size
      · simp [hlt]
      · simp [Array.getElem?_eq_none (Nat.le_of_not_lt hlt)] at hk
    · rw [getD_set_ne false hkj]; exact hk
  intro m om hm hd e he hb
  obtain ⟨_, oj, hoj, hall⟩ := mem_ready.1 hj
  by_cases hmj : j = m
  · subst hmj
    rw [hoj] at hm
    obtain rfl := Option.some.inj hm
    exact up _ (hall e he hb)
  · rw [getD_set_ne false hmj] at hd
    exact up _ (h m om hm hd e he hb)
theorem reach_done {md : Region.Mode} {ops : Array Oper} {done : Array Bool} (hs : ShutB md ops done) {i : Nat} : ∀ n z, reachB md ops n z i = true → (∀ oz, ops[z]? = some oz → ∀ e ∈ oz.after, Region.binds md e = true → done.getD e.on false = true) → done.getD i false = true
  | 0, z, h, _ => by simp [reachB] at h
  | n + 1, z, h, hp => by
    unfold reachB at h
    split at h
    · rename_i o ho
      simp only [Array.any_eq_true', Bool.and_eq_true, Bool.or_eq_true, beq_iff_eq] at h
      obtain ⟨e, he, hb, h | h⟩ := h
      · rw [← h]; exact hp o ho e he hb
      · exact reach_done hs n e.on h (fun oz hoz e' he' hb' => hs e.on oz hoz (hp o ho e he hb) e' he' hb')
    · cases h
theorem not_ready {md : Region.Mode} {ops : Array Oper} {done : Array Bool} (hs : ShutB md ops done) {n z i : Nat} (h : reachB md ops n z i = true) (hi : i ∈ Region.ready md ops done) : z ∉ Region.ready md ops done := by
  intro hz
  obtain ⟨_, oz, hoz, hall⟩ := mem_ready.1 hz
  have h1 := reach_done hs n z h (fun o ho e he hb => by rw [hoz] at ho; obtain rfl := Option.some.inj ho; exact hall e he hb)
  have h0 := (mem_ready.1 hi).1
  by_cases hlt : i < done.size
  · simp [hlt] at h0 h1; rw [h0] at h1; cases h1
  · simp [Array.getElem?_eq_none (Nat.le_of_not_lt hlt)] at h1

theorem anyZ_first {ops : Array Oper} {i : Nat} {o : Oper} {v : Value} (hi : ops[i]? = some o) (hsel : ∀ (j : Nat) (o' : Oper) cs b, ops[j]? = some o' → o'.op ≠ .select cs b)
    (hQ : ∀ c a w, Q (.panic c) (a.put o.dst v) w → Q (.panic c) a w) {f : Nat} (hz : reachB md ops f z i = true) (hzi : i ≠ z) (n : Nat) :
    ∀ (done : Array Bool) (a : Act) (w : World), ShutB md ops done →
      (∀ j oj, ops[j]? = some oj → j ≠ i → done.getD j true = false → (∀ e ∈ oj.after, Region.binds md e = true → e.on ≠ i) → o.apart ops oj = true) →
      i ∈ Region.ready md ops done → YieldsIf P ops S o v a → S w →
      anyZ P md ops Q S z n (done.setIfInBounds i true) (a.put o.dst v) w → anyZ P md ops Q S z (n + 1) done a w := by
  have free : ∀ (done : Array Bool) (j : Nat), i ∈ Region.ready md ops done → j ∈ Region.ready md ops done → j ≠ i →
      ∃ oj, ops[j]? = some oj ∧ done.getD j true = false ∧ (∀ e ∈ oj.after, Region.binds md e = true → e.on ≠ i) := by
    intro done j hr hj _
    obtain ⟨hun, oj, hoj, hall⟩ := mem_ready.1 hj
    refine ⟨oj, hoj, hun, fun e he hb heq => ?_⟩
    have h1 := hall e he hb
    have h0 := (mem_ready.1 hr).1
    rw [heq] at h1
    by_cases hlt : i < done.size
    · simp [hlt] at h0 h1; rw [h0] at h1; cases h1
    · simp [Array.getElem?_eq_none (Nat.le_of_not_lt hlt)] at h1
  induction n with
  | zero =>
    intro done a w _ _ hr hy hS k
    refine ⟨fun h => by rw [h] at hr; simp at hr, fun j hj => ?_⟩
    by_cases hji : j = i
    · subst hji; exact hy.wpOp hi hS ⟨fun _ => hS, k⟩
    · have := ready_mono hj hji
      rw [k.1] at this
      simp at this
  | succ n ih =>
    intro done a w hsh hf hr hy hS k
    refine ⟨fun h => by rw [h] at hr; simp at hr, fun j hj => ?_⟩
    by_cases hji : j = i
    · subst hji; exact hy.wpOp hi hS ⟨fun _ => hS, k⟩
    · obtain ⟨oj, hoj, hun, hno⟩ := free done j hr hj hji
      have hjz : j ≠ z := fun e => not_ready hsh hz hr (e ▸ hj)
      have k1 := wpOp_putIf hoj (hf j oj hoj hji hun hno) (fun cs b => hsel i o cs b hi) (fun cs b => hsel j oj cs b hoj) hQ hy (k.2 j (ready_mono hj hji))
      refine wpOp_mono (fun a' w' k2 => ⟨k2.2.1, ih _ a' w' (hsh.set hj) ?_ (ready_mono hr (Ne.symm hji)) k2.1 (k2.2.1 hjz) (by rw [Array.setIfInBounds_comm _ _ hji]; exact k2.2.2)⟩) k1
      intro m om hm hmi hmu hmn
      refine hf m om hm hmi ?_ hmn
      by_cases hjm : j = m
      · subst hjm; exact hun
      · rwa [getD_set_ne true hjm] at hmu

theorem seqz_start {id : Nat} {a : Act} {w : World} (hm : P.follows .mixedOrders = true) (S : World → Prop) (z n : Nat) (is : List Nat) (hn : L.toArray.size = n) (hS : S w.drew)
    (h : S w.drew → Seq is L (anyZ P .any L.toArray (NoPanic Q) S z n (Array.replicate n false) a w.drew)) : (Code.region id L.toArray true).wp P Q a w :=
  wp_region_noPanic (wp_region_any hm (anyZ_any _ _ _ _ (by rw [hn]; exact h hS)))
theorem seqz_take {i : Nat} {is : List Nat} {l : List Oper} {oi : Oper} {v : Value} {fuel : Nat} {listed : Array Bool} {a : Act} {w : World} (hi : L.toArray[i]? = some oi)
    (hs : Region.noSelect L.toArray = true) (hf : Region.free md L.toArray listed i = true) (hr : (Region.ready md L.toArray listed).contains i = true) (hsh : shutB md L.toArray listed = true) (hz : reachB md L.toArray 40 z i = true) (hzi : i ≠ z)
    (hy : YieldsIf P L.toArray S oi v a) (hS : S w)
    (h : Seq is l (anyZ P md L.toArray (NoPanic Q) S z fuel (listed.setIfInBounds i true) (a.put oi.dst v) w)) : Seq (i :: is) (oi :: l) (anyZ P md L.toArray (NoPanic Q) S z (fuel + 1) listed a w) :=
  anyZ_first hi (Region.noSelect_spec hs) (fun _ _ _ h => h) hz hzi fuel listed a w (ShutB.of hsh) (Region.free_spec hi hf) (by simpa using hr) hy hS h
theorem anyZ_mono {S' : World → Prop} {ops : Array Oper} (h : ∀ x, S' x → S x) : ∀ (fuel : Nat) (listed : Array Bool) (a : Act) (w : World), anyZ P md ops Q S' z fuel listed a w → anyZ P md ops Q S z fuel listed a w
  | 0, _, _, _, k => k
  | fuel + 1, _, _, _, k => ⟨k.1, fun i hi => wpOp_mono (fun a' w' k' => ⟨fun hz => h _ (k'.1 hz), anyZ_mono h fuel _ a' w' k'.2⟩) (k.2 i hi)⟩
/-- A call that comes up alone. -/
theorem seqz_do {i : Nat} {is : List Nat} {l : List Oper} {oi : Oper} {fuel : Nat} {listed : Array Bool} {a : Act} {w : World} (hi : L.toArray[i]? = some oi) (hr : Region.ready md L.toArray listed = [i])
    (hw : Region.wanted oi (yielded L.toArray a.tmps) = true)
    (h : ∀ K : Act → World → Prop, Hid (∀ (S' : World → Prop) (a' : Act) (w' : World), (∀ x, S' x → S x) → S' w' → (S' w' → Seq is l (anyZ P md L.toArray (NoPanic Q) S' z fuel (listed.setIfInBounds i true) a' w')) → K a' w') → oi.wp P a w K (NoPanic Q)) :
    Seq (i :: is) (oi :: l) (anyZ P md L.toArray (NoPanic Q) S z (fuel + 1) listed a w) := by
  refine ⟨fun h0 => by rw [hr] at h0; simp at h0, fun j hj => ?_⟩
  rw [hr] at hj
  obtain rfl : j = i := by simpa using hj
  unfold wpOp
  simp only [hi, hw, if_true]
  exact .inl (h _ (fun S' a' w' h1 h2 h3 => ⟨fun _ => h1 _ h2, anyZ_mono h1 _ _ _ _ (h3 h2)⟩))
/-- The store, last of all. -/
theorem seqz_last {oi : Oper} {fuel : Nat} {listed : Array Bool} {a : Act} {w : World} (hi : L.toArray[z]? = some oi) (hr : Region.ready md L.toArray listed = [z])
    (hw : Region.wanted oi (yielded L.toArray a.tmps) = true) (hd : Region.ready md L.toArray (listed.setIfInBounds z true) = [])
    (h : oi.wp P a w (fun a' w' => Q .normal a' w') (NoPanic Q)) :
    Seq [z] [oi] (anyZ P md L.toArray (NoPanic Q) S z (fuel + 1) listed a w) := by
  refine ⟨fun h0 => by rw [hr] at h0; simp at h0, fun j hj => ?_⟩
  rw [hr] at hj
  obtain rfl : j = z := by simpa using hj
  unfold wpOp
  simp only [hi, hw, if_true]
  refine .inl (Oper.wp_mono (fun a' w' k => ⟨fun hne => absurd rfl hne, ?_⟩) h)
  cases fuel with
  | zero => exact ⟨hd, NoPanic.normal k⟩
  | succ m => exact ⟨fun _ => NoPanic.normal k, by rw [hd]; simp⟩
end
end Go.Proofs.YthppbefemfkccaaDoor
namespace Go.Proofs.YthppbefemfkccaaDoor
open Go.RowKit
attribute [local irreducible] bitsK orAll

theorem u8_or_any (x y : UInt8) : bits .or .u8 (x.toNat : Int) (y.toNat : Int) = ((x ||| y).toNat : Int) := by
  show IntKind.u8.wrap ((BitVec.ofInt 8 (x.toNat : Int) ||| BitVec.ofInt 8 (y.toNat : Int)).toNat : Int) = _
  have e : ∀ a : Nat, a < 256 → (BitVec.ofInt 8 (a : Int)).toNat = a := fun a ha => by
    rw [BitVec.ofInt_natCast, BitVec.toNat_ofNat]; exact Nat.mod_eq_of_lt (by omega)
  have hx := x.toNat_lt
  have hy := y.toNat_lt
  have h2 : x.toNat ||| y.toNat < 2 ^ 8 := Nat.or_lt_two_pow (by omega) (by omega)
  rw [BitVec.toNat_or, e _ (by omega), e _ (by omega), IntKind.wrap_u8, UInt8.toNat_or]
  omega
theorem encI_get (l : List Nat) (i : Nat) (h : i < l.length) : (encI l)[i]'(by simpa using h) = .int .i64 (l[i] : Int) := by simp [encI]
/-- Stored: a bit more. -/
theorem Fm.set {w : World} {g n k ga c : Nat} {bs : List UInt8} (h : Fm w g n k (some ⟨ga, 0, none⟩) c bs) (j : Nat) (b : UInt8) (hj : j < bs.length) : Fm (w.setCell ⟨ga, j, none⟩ (.int .u8 (b.toNat : Int))) g n k (some ⟨ga, 0, none⟩) c (bs.set j b) := by
  have hne : ga ≠ g := h.2.2 _ rfl
  refine ⟨?_, h.2.1.set j b hj, h.2.2⟩
  rw [heap_setCell_other _ _ _ _ (show g ≠ (⟨ga, j, none⟩ : Addr).block from fun e => hne e.symm), List.length_set]
  exact h.1
theorem pow8 (r : Nat) (hr : r < 8) : (2 : Int) ^ r = ((UInt8.ofNat (2 ^ r)).toNat : Int) ∧ (2 : Int) ^ r < 256 ∧ (0 : Int) ≤ 2 ^ r := by
  have : r = 0 ∨ r = 1 ∨ r = 2 ∨ r = 3 ∨ r = 4 ∨ r = 5 ∨ r = 6 ∨ r = 7 := by omega
  rcases this with rfl | rfl | rfl | rfl | rfl | rfl | rfl | rfl <;> exact ⟨rfl, by decide, by decide⟩

/-- A key laid in. -/
def AddP (g n k : Nat) (A : Option Addr) (c : Nat) (bs : List UInt8) (w : World) (e : Ending) (w' : World) : Prop := e = .returned (.tuple #[]) ∧ Fm w' g n k A c bs ∧ Keeps (blk A) w w'
set_option maxHeartbeats 8000000 in
theorem add_any (g n k : Nat) (A : Option Addr) (c : Nat) (bs : List UInt8) (s : List UInt8) (w : World) (h : Fm w g n k A c bs) (hn : 1 ≤ n ∧ n ≤ 1048576) (hk : 1 ≤ k ∧ k ≤ 16) (hs : s.length ≤ 140737488351232) (hb : n ≤ 8 * bs.length) :
    Calls Tryd.prog 19 #[.pointer (some ⟨g, 0, none⟩), .string (strB s)] w (AddP g n k A c (orAll bs (bitsK n k s)) w) := by
  have H := Lib.hid h
  have HN := Lib.hid (show ∀ j ∈ bitsK n k s, j < n from fun j hj => bitsK_lt (by omega) hj)
  have HBL := Lib.hid hb
  have HLK := Lib.hid (bitsK_len n k s)
  have HBITS := Lib.hid (bits_any g n k A c bs s w h hn hk hs)
  have hA := Lib.hid (fun a ha => (h.2.1.lt a ha : a.block < w.heap.size))
  obtain ⟨L, hL⟩ : ∃ L, L = bitsK n k s := ⟨_, rfl⟩
  unfold BitsP at HBITS
  rw [← hL] at HN HLK HBITS ⊢
  obtain ⟨hn1, hn2⟩ := hn
  obtain ⟨hk1, hk2⟩ := hk
  clear h hs hb hL
  go_enter Tryd.func19, Tryd.ntmps19
  go_wp2_with fail
  refine HBITS.out.mono ?_
  rintro e w1 ⟨gl, rfl, hib, hgl, hk1'⟩
  have INV := Lib.hid (show Fm w1 g n k A c (orAll bs (L.take 0)) ∧ IB w1 gl (encI L) ∧ Keeps (blk A) w w1 from ⟨by unfold orAll; exact H.out.keeps0 hk1', hib, hk1'.mono (by simp)⟩)
  have HGL := Lib.hid hgl
  clear hib hgl hk1' HBITS
  go_wp2_with fail
  go_loopw [10] (fun si wr => ∃ i : Nat, i ≤ k ∧ si = .int .i64 i ∧ Hid (Fm wr g n k A c (orAll bs (L.take i)) ∧ IB wr gl (encI L) ∧ Keeps (blk A) w wr)) (fun si _ => k - (intOf si).toNat)
  case atStart => exact ⟨0, Nat.zero_le _, rfl, INV.out⟩
  case round =>
    clear INV
    obtain ⟨i, hi, rfl, hinv⟩ := hrel
    by_cases hlt : i < k
    · have hik : (i : Int) < (k : Int) := by omega
      have HIL := Lib.hid (show i < L.length by rw [HLK.out]; exact hlt)
      obtain ⟨j, hj⟩ : ∃ j, j = L[i]'(HIL.out) := ⟨_, rfl⟩
      have hjn : j < n := by rw [hj]; exact HN.out _ (List.getElem_mem _)
      obtain ⟨q, hq⟩ : ∃ q, q = j / 8 := ⟨_, rfl⟩
      obtain ⟨r, hr⟩ : ∃ r, r = j % 8 := ⟨_, rfl⟩
      obtain ⟨B, hB⟩ : ∃ B, B = orAll bs (L.take i) := ⟨_, rfl⟩
      have HBN := Lib.hid (show B.length = bs.length by rw [hB, orAll_len])
      have hqb : q < B.length := by have := HBN.out; have := HBL.out; omega
      have HST := Lib.hid (show orAll bs (L.take (i + 1)) = B.set q (B.getD q 0 ||| UInt8.ofNat (2 ^ r)) by rw [orAll_snoc bs L i HIL.out, ← hB, ← hj, hq, hr]; rfl)
      rw [← hB] at hinv
      obtain ⟨ga, rfl, hcell, hfr⟩ := hinv.out.1.2.1.at0 (by omega)
      obtain ⟨x, hx⟩ : ∃ x, x = B[q] := ⟨_, rfl⟩
      have qx := hcell q hqb
      rw [← hx] at qx
      have HX := Lib.hid (show B.getD q 0 = x by rw [hx, List.getD_eq_getElem?_getD, List.getElem?_eq_getElem hqb]; rfl)
      have q1 := hinv.out.2.1.cell i (by simpa using HIL.out)
      rw [encI_get L i HIL.out, ← hj] at q1
      have q2 := hinv.out.1.cells.2.2
      have p8 := pow8 r (by omega)
      obtain ⟨p, hp⟩ : ∃ p, p = UInt8.ofNat (2 ^ r) := ⟨_, rfl⟩
      rw [← hp] at p8
      have f1 : (j : Int).tdiv 8 = (q : Int) := by rw [Int.tdiv_eq_ediv_of_nonneg (by omega)]; omega
      have f2 : (j : Int).tmod 8 = (r : Int) := by rw [Int.tmod_eq_emod_of_nonneg (by omega)]; omega
      have f3 : IntKind.i64.wrap (q : Int) = (q : Int) := by rw [IntKind.wrap_i64]; omega
      have f4 : IntKind.u8.wrap ((2 : Int) ^ r) = (p.toNat : Int) := by rw [IntKind.wrap_u8, ← p8.1]; omega
      have f6 := u8_or_any x p
      have hr8 : (r : Int) < 8 := by omega
      have f4' : (2 : Int) ^ r % 256 = (p.toNat : Int) := by rw [← p8.1]; omega
      have hqB : (q : Int) < ((B.length : Nat) : Int) := by omega
      obtain ⟨y, hy⟩ : ∃ y, y = x ||| p := ⟨_, rfl⟩
      rw [← hy] at f6
      have HY := Lib.hid (show orAll bs (L.take (i + 1)) = B.set q y by rw [HST.out, HX.out, hy, hp])
      have HQ := Lib.hid hqb
      have fz := hfr q
      have HS := Lib.hid (And.intro q2 qx)
      clear hj hjn hq hr hB hcell hfr hx hp p8 hy hqb HST
      go_wp2_with fail
      have qa : ∀ z : World, (z.cell? ⟨g, 2, none⟩ = some (.slice (some ⟨ga, 0, none⟩) B.length c) ∧ z.cell? ⟨ga, q, none⟩ = some (.int .u8 (x.toNat : Int))) → z.cell? ⟨g, 2, none⟩ = some (.slice (some ⟨ga, 0, none⟩) B.length c) := fun z hz => hz.1
      have qb : ∀ z : World, (z.cell? ⟨g, 2, none⟩ = some (.slice (some ⟨ga, 0, none⟩) B.length c) ∧ z.cell? ⟨ga, q, none⟩ = some (.int .u8 (x.toNat : Int))) → z.cell? ⟨ga, q, none⟩ = some (.int .u8 (x.toNat : Int)) := fun z hz => hz.2
      clear q1 q2 qx
      refine seqz_start (by kernel_rfl) (fun z => z.cell? ⟨g, 2, none⟩ = some (.slice (some ⟨ga, 0, none⟩) B.length c) ∧ z.cell? ⟨ga, q, none⟩ = some (.int .u8 (x.toNat : Int))) 13 14 [0, 1, 2, 3, 4, 5, 6, 7, 8, 9, 10, 11, 12, 13] rfl (HS.out) (fun hS => ?_)
      refine seqz_take (v := ?_) rfl (by kernel_rfl) (by kernel_rfl) (by kernel_rfl) (by kernel_rfl) (by kernel_rfl) (by decide) (Or.inl ⟨by rfl, fun w' hSw => ?_⟩) (by assumption) ?_
      rotate_left
      · go_simp
        with_reducible rfl
      simp only [Act.put, List.setIfInBounds_toArray, List.set_cons_zero, List.set_cons_succ]
      refine seqz_take (v := ?_) rfl (by kernel_rfl) (by kernel_rfl) (by kernel_rfl) (by kernel_rfl) (by kernel_rfl) (by decide) (Or.inl ⟨by rfl, fun w' hSw => ?_⟩) (by assumption) ?_
      rotate_left
      · go_simp
        with_reducible rfl
      simp only [Act.put, List.setIfInBounds_toArray, List.set_cons_zero, List.set_cons_succ]
      refine seqz_take (v := ?_) rfl (by kernel_rfl) (by kernel_rfl) (by kernel_rfl) (by kernel_rfl) (by kernel_rfl) (by decide) (Or.inl ⟨by rfl, fun w' hSw => ?_⟩) (by assumption) ?_
      rotate_left
      · go_simp
        with_reducible rfl
      simp only [Act.put, List.setIfInBounds_toArray, List.set_cons_zero, List.set_cons_succ]
      refine seqz_take (v := ?_) rfl (by kernel_rfl) (by kernel_rfl) (by kernel_rfl) (by kernel_rfl) (by kernel_rfl) (by decide) (Or.inl ⟨by rfl, fun w' hSw => ?_⟩) (by assumption) ?_
      rotate_left
      · go_simp
        with_reducible rfl
      simp only [Act.put, List.setIfInBounds_toArray, List.set_cons_zero, List.set_cons_succ]
      refine seqz_take (v := ?_) rfl (by kernel_rfl) (by kernel_rfl) (by kernel_rfl) (by kernel_rfl) (by kernel_rfl) (by decide) (Or.inl ⟨by rfl, fun w' hSw => ?_⟩) (by assumption) ?_
      rotate_left
      · go_simp
        with_reducible rfl
      simp only [Act.put, List.setIfInBounds_toArray, List.set_cons_zero, List.set_cons_succ]
      refine seqz_take (v := ?_) rfl (by kernel_rfl) (by kernel_rfl) (by kernel_rfl) (by kernel_rfl) (by kernel_rfl) (by decide) (Or.inl ⟨by rfl, fun w' hSw => ?_⟩) (by assumption) ?_
      rotate_left
      · go_simp
        with_reducible rfl
      simp only [Act.put, List.setIfInBounds_toArray, List.set_cons_zero, List.set_cons_succ]
      refine seqz_take (v := ?_) rfl (by kernel_rfl) (by kernel_rfl) (by kernel_rfl) (by kernel_rfl) (by kernel_rfl) (by decide) (Or.inl ⟨by rfl, fun w' hSw => ?_⟩) (by assumption) ?_
      rotate_left
      · go_simp
        with_reducible rfl
      simp only [Act.put, List.setIfInBounds_toArray, List.set_cons_zero, List.set_cons_succ]
      refine seqz_take (v := ?_) rfl (by kernel_rfl) (by kernel_rfl) (by kernel_rfl) (by kernel_rfl) (by kernel_rfl) (by decide) (Or.inl ⟨by rfl, fun w' hSw => ?_⟩) (by assumption) ?_
      rotate_left
      · go_simp
        with_reducible rfl
      simp only [Act.put, List.setIfInBounds_toArray, List.set_cons_zero, List.set_cons_succ]
      refine seqz_take (v := ?_) rfl (by kernel_rfl) (by kernel_rfl) (by kernel_rfl) (by kernel_rfl) (by kernel_rfl) (by decide) (Or.inl ⟨by rfl, fun w' hSw => ?_⟩) (by assumption) ?_
      rotate_left
      · go_simp
        with_reducible rfl
      simp only [Act.put, List.setIfInBounds_toArray, List.set_cons_zero, List.set_cons_succ]
      refine seqz_take (v := ?_) rfl (by kernel_rfl) (by kernel_rfl) (by kernel_rfl) (by kernel_rfl) (by kernel_rfl) (by decide) (Or.inl ⟨by rfl, fun w' hSw => ?_⟩) (by assumption) ?_
      rotate_left
      · go_simp
        with_reducible rfl
      simp only [Act.put, List.setIfInBounds_toArray, List.set_cons_zero, List.set_cons_succ]
      refine seqz_take (v := ?_) rfl (by kernel_rfl) (by kernel_rfl) (by kernel_rfl) (by kernel_rfl) (by kernel_rfl) (by decide) (Or.inl ⟨by rfl, fun w' hSw => ?_⟩) (by assumption) ?_
      rotate_left
      · go_simp
        with_reducible rfl
      simp only [Act.put, List.setIfInBounds_toArray, List.set_cons_zero, List.set_cons_succ]
      refine seqz_take (v := ?_) rfl (by kernel_rfl) (by kernel_rfl) (by kernel_rfl) (by kernel_rfl) (by kernel_rfl) (by decide) (Or.inl ⟨by rfl, fun w' hSw => ?_⟩) (by assumption) ?_
      rotate_left
      · go_simp
        with_reducible rfl
      simp only [Act.put, List.setIfInBounds_toArray, List.set_cons_zero, List.set_cons_succ]
      refine seqz_take (v := ?_) rfl (by kernel_rfl) (by kernel_rfl) (by kernel_rfl) (by kernel_rfl) (by kernel_rfl) (by decide) (Or.inl ⟨by rfl, fun w' hSw => ?_⟩) (by assumption) ?_
      rotate_left
      · go_simp
        with_reducible rfl
      simp only [Act.put, List.setIfInBounds_toArray, List.set_cons_zero, List.set_cons_succ]
      refine seqz_last rfl (by kernel_rfl) (by rfl) (by kernel_rfl) ?_
      all_goals skip
      have HI := Lib.hid (show Fm wr.drew g n k (some ⟨ga, 0, none⟩) c B ∧ IB wr.drew gl (encI L) ∧ Keeps (blk (some ⟨ga, 0, none⟩)) w wr.drew ∧ wr.drew.cell? ⟨ga, q, none⟩ = some (.int .u8 (x.toNat : Int)) ∧ wr.drew.frozen? ⟨ga, q, none⟩ = false from ⟨hinv.out.1, hinv.out.2.1, hinv.out.2.2.drew, HS.out.2, fz⟩)
      clear hinv qa qb hS fz HS
      generalize wr.drew = V at HI ⊢
      have qc := HI.out.2.2.2.1
      have fc := HI.out.2.2.2.2
      have HGA := Lib.hid (show ga < gl from by have := hA.out _ rfl; have := HGL.out; simp at *; omega)
      have HV := Lib.hid (show Fm (V.setCell ⟨ga, q, none⟩ (.int .u8 (y.toNat : Int))) g n k (some ⟨ga, 0, none⟩) c (B.set q y) ∧ IB (V.setCell ⟨ga, q, none⟩ (.int .u8 (y.toNat : Int))) gl (encI L) ∧ Keeps (blk (some ⟨ga, 0, none⟩)) w (V.setCell ⟨ga, q, none⟩ (.int .u8 (y.toNat : Int))) from
        ⟨HI.out.1.set q y HQ.out, HI.out.2.1.keeps (S := [ga]) ((Keeps.refl [ga] V).setCell (p := ⟨ga, q, none⟩) (.inl (by simp)) _) (by have := HGA.out; simp; omega), HI.out.2.2.1.setCell (.inl (by simp [blk])) _⟩)
      clear HI
      go_wp2_with fail
      go_roundw
      case rel => exact ⟨i + 1, by omega, by go_num, by rw [HY.out]; exact HV.out⟩
      case measure => simp [intOf]; omega
    · have hik : ¬ (i : Int) < (k : Int) := by omega
      have HKI := Lib.hid (show i = L.length by rw [HLK.out]; omega)
      clear hlt
      go_wp2_with fail
      go_end0
      have h2 := hinv.out
      rw [HKI.out, List.take_length] at h2
      exact ⟨rfl, h2.1, h2.2.2⟩
end Go.Proofs.YthppbefemfkccaaDoor
namespace Go.Proofs.YthppbefemfkccaaDoor
open Go.RowKit
attribute [local irreducible] bitsK orAll

theorem popAux_le : ∀ (f x : Nat), Lib.popAux f x ≤ f
  | 0, _ => Nat.le_refl _
  | f + 1, x => by
    have := popAux_le f (x / 2)
    unfold Lib.popAux
    omega
theorem onesCount_le (x : Nat) : Lib.onesCount x ≤ 64 := popAux_le 64 x
theorem fullK_snoc (bs : List UInt8) (i : Nat) (h : i < bs.length) : fullK (bs.take (i + 1)) = fullK (bs.take i) + Lib.onesCount bs[i].toNat := by
  unfold fullK
  rw [List.take_succ_eq_append_getElem h, List.map_append, List.sum_append]
  simp only [List.map_cons, List.map_nil, List.sum_cons, List.sum_nil, Nat.add_zero]
theorem fullK_le (bs : List UInt8) : fullK bs ≤ 64 * bs.length := by
  unfold fullK
  induction bs with
  | nil => simp
  | cons b l ih => have := onesCount_le b.toNat; simp only [List.map_cons, List.sum_cons, List.length_cons]; omega
theorem u8_and_one (v : Nat) (hv : v < 256) : bits .and .u8 (v : Int) 1 = ((v % 2 : Nat) : Int) := by
  show IntKind.u8.wrap ((BitVec.ofInt 8 (v : Int) &&& BitVec.ofInt 8 ((1 : Nat) : Int)).toNat : Int) = _
  have e : ∀ a : Nat, a < 256 → (BitVec.ofInt 8 (a : Int)).toNat = a := fun a ha => by
    rw [BitVec.ofInt_natCast, BitVec.toNat_ofNat]; exact Nat.mod_eq_of_lt (by omega)
  rw [BitVec.toNat_and, e _ hv, e 1 (by decide), IntKind.wrap_u8, Nat.and_one_is_mod]
  omega

set_option maxHeartbeats 8000000 in
theorem may_any (g n k : Nat) (A : Option Addr) (c : Nat) (bs : List UInt8) (s : List UInt8) (w : World) (h : Fm w g n k A c bs) (hn : 1 ≤ n ∧ n ≤ 1048576) (hk : 1 ≤ k ∧ k ≤ 16) (hs : s.length ≤ 140737488351232) (hb : n ≤ 8 * bs.length) :
    Calls Tryd.prog 13 #[.pointer (some ⟨g, 0, none⟩), .string (strB s)] w fun e w' => e = .returned (.bool (mayK bs (bitsK n k s))) ∧ Keeps [] w w' := by
  have H := Lib.hid h
  have HN := Lib.hid (show ∀ j ∈ bitsK n k s, j < n from fun j hj => bitsK_lt (by omega) hj)
  have HBL := Lib.hid hb
  have HLK := Lib.hid (bitsK_len n k s)
  have HBITS := Lib.hid (bits_any g n k A c bs s w h hn hk hs)
  obtain ⟨L, hL⟩ : ∃ L, L = bitsK n k s := ⟨_, rfl⟩
  unfold BitsP at HBITS
  rw [← hL] at HN HLK HBITS ⊢
  obtain ⟨hn1, hn2⟩ := hn
  obtain ⟨hk1, hk2⟩ := hk
  clear h hs hb hL
  go_enter Tryd.func13, Tryd.ntmps13
  go_wp2_with fail
  refine HBITS.out.mono ?_
  rintro e w1 ⟨gl, rfl, hib, hgl, hk1'⟩
  have INV := Lib.hid (show Fm w1 g n k A c bs ∧ IB w1 gl (encI L) ∧ Keeps [] w w1 from ⟨H.out.keeps0 hk1', hib, hk1'⟩)
  clear hib hgl hk1' HBITS
  have INV0 := Lib.hid (show mayK bs (L.take 0) = true from rfl)
  go_wp2_with fail
  go_loopw [11] (fun si wr => ∃ i : Nat, i ≤ k ∧ si = .int .i64 i ∧ Hid (mayK bs (L.take i) = true) ∧ Hid (Fm wr g n k A c bs ∧ IB wr gl (encI L) ∧ Keeps [] w wr)) (fun si _ => k - (intOf si).toNat)
  case atStart => exact ⟨0, Nat.zero_le _, rfl, INV0.out, INV.out⟩
  case round =>
    clear INV INV0
    obtain ⟨i, hi, rfl, hmay, hinv⟩ := hrel
    by_cases hlt : i < k
    · have hik : (i : Int) < (k : Int) := by omega
      have HIL := Lib.hid (show i < L.length by rw [HLK.out]; exact hlt)
      obtain ⟨j, hj⟩ : ∃ j, j = L[i]'(HIL.out) := ⟨_, rfl⟩
      have hjn : j < n := by rw [hj]; exact HN.out _ (List.getElem_mem _)
      obtain ⟨q, hq⟩ : ∃ q, q = j / 8 := ⟨_, rfl⟩
      obtain ⟨r, hr⟩ : ∃ r, r = j % 8 := ⟨_, rfl⟩
      have hqb : q < bs.length := by have := HBL.out; omega
      obtain ⟨ga, rfl, hcell, hfr⟩ := hinv.out.1.2.1.at0 (by omega)
      obtain ⟨x, hx⟩ : ∃ x, x = bs[q] := ⟨_, rfl⟩
      have qx := hcell q hqb
      rw [← hx] at qx
      have q1 := hinv.out.2.1.cell i (by simpa using HIL.out)
      rw [encI_get L i HIL.out, ← hj] at q1
      have q2 := hinv.out.1.cells.2.2
      obtain ⟨v, hv⟩ : ∃ v, v = x.toNat / 2 ^ r := ⟨_, rfl⟩
      obtain ⟨t, ht⟩ : ∃ t, t = v % 2 := ⟨_, rfl⟩
      have hvl : v < 256 := by rw [hv]; exact Nat.lt_of_le_of_lt (Nat.div_le_self _ _) (by have := x.toNat_lt; omega)
      have HBT := Lib.hid (show hasBit bs j = decide (t = 1) by
        unfold hasBit
        rw [← hq, ← hr, List.getD_eq_getElem?_getD, List.getElem?_eq_getElem hqb, Option.getD_some, ← hx, Nat.testBit_eq_decide_div_mod_eq, ← hv, ← ht])
      have HSN := Lib.hid (show mayK bs (L.take (i + 1)) = (mayK bs (L.take i) && hasBit bs j) by
        unfold mayK
        rw [List.take_succ_eq_append_getElem HIL.out, List.all_append, ← hj]
        simp)
      have HSF := Lib.hid (show hasBit bs j = false → mayK bs L = false from fun hf => by
        unfold mayK
        rw [List.all_eq_false]
        exact ⟨j, by rw [hj]; exact List.getElem_mem _, by simp [hf]⟩)
      have f1 : (j : Int).tdiv 8 = (q : Int) := by rw [Int.tdiv_eq_ediv_of_nonneg (by omega)]; omega
      have f2 : (j : Int).tmod 8 = (r : Int) := by rw [Int.tmod_eq_emod_of_nonneg (by omega)]; omega
      have f3 : IntKind.i64.wrap (q : Int) = (q : Int) := by rw [IntKind.wrap_i64]; omega
      have f4 : (x.toNat : Int) / 2 ^ r = (v : Int) := by rw [hv]; simp
      have f5 := u8_and_one v hvl
      rw [← ht] at f5
      have hr8 : (r : Int) < 8 := by omega
      have hqB : (q : Int) < ((bs.length : Nat) : Int) := by omega
      have ht2 : t < 2 := by omega
      have hmay' := hmay
      clear hj hjn hq hr hcell hfr hx hqb hv ht hvl
      by_cases h0 : t = 0
      · have e1 : ((t : Int) == 0) = true := by simp [h0]
        have HR := Lib.hid (show mayK bs L = false from HSF.out (by rw [HBT.out, h0]; rfl))
        clear h0 ht2
        go_wp2_with fail
        go_ret
        exact ⟨by rw [HR.out]; rfl, hinv.out.2.2⟩
      · have e1 : ((t : Int) == 0) = false := by simp [h0]
        have HR := Lib.hid (show mayK bs (L.take (i + 1)) = true by rw [HSN.out, hmay.out, HBT.out, show t = 1 by omega]; rfl)
        clear h0 ht2
        go_wp2_with fail
        go_roundw
        case rel => exact ⟨i + 1, by omega, by go_num, HR.out, hinv.out⟩
        case measure => simp [intOf]; omega
    · have hik : ¬ (i : Int) < (k : Int) := by omega
      have HKI := Lib.hid (show mayK bs L = true by have h2 := hmay.out; rwa [List.take_of_length_le (by rw [HLK.out]; omega)] at h2)
      clear hlt
      go_wp2_with fail
      go_ret
      exact ⟨by rw [HKI.out]; rfl, hinv.out.2.2⟩

set_option maxHeartbeats 4000000 in
theorem full_any (g n k : Nat) (A : Option Addr) (c : Nat) (bs : List UInt8) (w : World) (h : Fm w g n k A c bs) (hb : bs.length ≤ 1048576) :
    Calls Tryd.prog 14 #[.pointer (some ⟨g, 0, none⟩)] w fun e w' => e = .returned (.int .i64 (fullK bs : Nat)) ∧ w = w' := by
  have H := Lib.hid h
  have q2 := h.cells.2.2
  have HR := Lib.hid h.2.1.rd
  clear h
  go_enter Tryd.func14, Tryd.ntmps14
  go_wp2_with fail
  go_loop [3, 13] (fun sn si => ∃ i m : Nat, i ≤ bs.length ∧ si = .int .i64 i ∧ sn = .int .i64 m ∧ Hid (m = fullK (bs.take i))) (fun _ si => bs.length - (intOf si).toNat)
  case atStart => exact ⟨0, 0, Nat.zero_le _, rfl, rfl, rfl⟩
  case round =>
    obtain ⟨i, m, hi, rfl, rfl, hm⟩ := hrel
    by_cases hlt : i < bs.length
    · have hik : (i : Int) < ((bs.length : Nat) : Int) := by omega
      obtain ⟨ad, rfl, hc⟩ := HR.out.at_ hlt
      obtain ⟨b, hbb⟩ : ∃ b, b = bs[i] := ⟨_, rfl⟩
      rw [← hbb] at hc
      have hml : m ≤ 67108864 := by
        rw [hm.out]
        have h1 := fullK_le (bs.take i)
        rw [List.length_take] at h1
        omega
      obtain ⟨o, ho⟩ : ∃ o, o = Lib.onesCount b.toNat := ⟨_, rfl⟩
      have hol : o ≤ 64 := by rw [ho]; exact onesCount_le _
      have HSN := Lib.hid (show m + o = fullK (bs.take (i + 1)) by rw [fullK_snoc bs i hlt, ← hm.out, ← hbb, ho])
      have HO := Lib.hid ho
      have hb0 : (0 : Int) ≤ (b.toNat : Int) ∧ (b.toNat : Int) ≤ 255 := by have := b.toNat_lt; omega
      have HB0 := Lib.hid hb0
      clear hbb ho hb0
      go_wp2_with fail
      refine (Tryd.bits_OnesCount8 (b.toNat : Int) w HB0.out.1 HB0.out.2).mono ?_
      rintro e w' ⟨rfl, rfl⟩
      rw [Int.toNat_natCast, ← HO.out]
      go_wp2_with fail
      go_round
      case rel => exact ⟨i + 1, m + o, by omega, by go_num, by go_num, HSN.out⟩
      case measure => simp [intOf]; omega
    · have hik : ¬ (i : Int) < ((bs.length : Nat) : Int) := by omega
      have HM := Lib.hid (show m = fullK bs by rw [hm.out, List.take_of_length_le (by omega)])
      clear hlt
      go_wp2_with fail
      go_ret
      exact ⟨by rw [HM.out]; rfl, rfl⟩
end Go.Proofs.YthppbefemfkccaaDoor
