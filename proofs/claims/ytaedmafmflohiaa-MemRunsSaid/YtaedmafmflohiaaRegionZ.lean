/- A region that draws its order and ends in a store (number z, which waits for all others): what is known of the world need not hold behind that store. No program is named here. -/
import Derived.Test.YtaedmafmflohiaaRegion
namespace Go.Proofs.Ytaedmafmflohiaa
open Go.RowKit

section
variable {P : Program} {L : List Oper} {Q : Exit → Act → World → Prop} {md : Region.Mode} {S : World → Prop} {z : Nat}

/-- Whatever comes up; behind each one but number z, S holds. -/
def anyZ (P : Program) (md : Region.Mode) (ops : Array Oper) (Q : Exit → Act → World → Prop) (S : World → Prop) (z : Nat) : Nat → Array Bool → Act → World → Prop
  | 0, done, a, w => Region.ready md ops done = [] ∧ Q .normal a w
  | n + 1, done, a, w => (Region.ready md ops done = [] → Q .normal a w) ∧
      ∀ j ∈ Region.ready md ops done, wpOp P ops Q j (fun a' w' => (j ≠ z → S w') ∧ anyZ P md ops Q S z n (done.setIfInBounds j true) a' w') a w
theorem anyZ_any {ops : Array Oper} : ∀ (n : Nat) (done : Array Bool) (a : Act) (w : World), anyZ P md ops Q S z n done a w → wpAny P md ops Q n done a w
  | 0, _, _, _, k => k
  | n + 1, _, _, _, k => ⟨k.1, fun j hj => wpOp_mono (fun _ _ k' => anyZ_any n _ _ _ k'.2) (k.2 j hj)⟩
/-- Number z waits for number i, or for what waits for it, and so on. -/
def reachB (md : Region.Mode) (ops : Array Oper) : Nat → Nat → Nat → Bool
  | 0, _, _ => false
  | n + 1, z, i => match ops[z]? with
    | some o => o.after.any fun e => Region.binds md e && (e.on == i || reachB md ops n e.on i)
    | none => false
/-- What is done has all done that it waits for. -/
def ShutB (md : Region.Mode) (ops : Array Oper) (done : Array Bool) : Prop := ∀ m om, ops[m]? = some om → done.getD m false = true → ∀ e ∈ om.after, Region.binds md e = true → done.getD e.on false = true
def shutB (md : Region.Mode) (ops : Array Oper) (done : Array Bool) : Bool := (List.range ops.size).all fun m => !done.getD m false || match ops[m]? with | some om => om.after.all fun e => !Region.binds md e || done.getD e.on false | none => true
theorem ShutB.of {md : Region.Mode} {ops : Array Oper} {done : Array Bool} (h : shutB md ops done = true) : ShutB md ops done := by
  intro m om hm hd e he hb
  have hlt := (Array.getElem?_eq_some_iff.1 hm).1
  have h1 := List.all_eq_true.1 h m (List.mem_range.2 hlt)
  rw [hm, hd] at h1
  simp only [Bool.not_true, Bool.false_or] at h1
  have h2 := Array.all_eq_true_iff_forall_mem.1 h1 e he
  rw [hb] at h2
  simpa using h2
theorem ShutB.set {md : Region.Mode} {ops : Array Oper} {done : Array Bool} (h : ShutB md ops done) {j : Nat} (hj : j ∈ Region.ready md ops done) : ShutB md ops (done.setIfInBounds j true) := by
  have up : ∀ k, done.getD k false = true → (done.setIfInBounds j true).getD k false = true := by
    intro k hk
    by_cases hkj : j = k
    · subst hkj
      by_cases hlt : j < done.size
      · simp [hlt]
      · simp [Array.getElem?_eq_none (Nat.le_of_not_lt hlt)] at hk
    · rw [getD_set_ne false hkj]; exact hk
  intro m om hm hd e he hb
  obtain ⟨_, oj, hoj, hall⟩ := mem_ready.1 hj
  by_cases hmj : j = m
  · subst hmj
    rw [hoj] at hm
    obtain rfl := Option.some.inj hm
    exact up _ (hall e he hb)
  · rw [getD_set_ne false hmj] at hd
    exact up _ (h m om hm hd e he hb)
theorem reach_done {md : Region.Mode} {ops : Array Oper} {done : Array Bool} (hs : ShutB md ops done) {i : Nat} : ∀ n z, reachB md ops n z i = true → (∀ oz, ops[z]? = some oz → ∀ e ∈ oz.after, Region.binds md e = true → done.getD e.on false = true) → done.getD i false = true
  | 0, z, h, _ => by simp [reachB] at h
  | n + 1, z, h, hp => by
    unfold reachB at h
    split at h
    · rename_i o ho
      simp only [Array.any_eq_true', Bool.and_eq_true, Bool.or_eq_true, beq_iff_eq] at h
      obtain ⟨e, he, hb, h | h⟩ := h
      · rw [← h]; exact hp o ho e he hb
      · exact reach_done hs n e.on h (fun oz hoz e' he' hb' => hs e.on oz hoz (hp o ho e he hb) e' he' hb')
    · cases h
theorem not_ready {md : Region.Mode} {ops : Array Oper} {done : Array Bool} (hs : ShutB md ops done) {n z i : Nat} (h : reachB md ops n z i = true) (hi : i ∈ Region.ready md ops done) : z ∉ Region.ready md ops done := by
  intro hz
  obtain ⟨_, oz, hoz, hall⟩ := mem_ready.1 hz
  have h1 := reach_done hs n z h (fun o ho e he hb => by rw [hoz] at ho; obtain rfl := Option.some.inj ho; exact hall e he hb)
  have h0 := (mem_ready.1 hi).1
  by_cases hlt : i < done.size
  · simp [hlt] at h0 h1; rw [h0] at h1; cases h1
  · simp [Array.getElem?_eq_none (Nat.le_of_not_lt hlt)] at h1

theorem anyZ_first {ops : Array Oper} {i : Nat} {o : Oper} {v : Value} (hi : ops[i]? = some o) (hsel : ∀ (j : Nat) (o' : Oper) cs b, ops[j]? = some o' → o'.op ≠ .select cs b)
    (hQ : ∀ c a w, Q (.panic c) (a.put o.dst v) w → Q (.panic c) a w) {f : Nat} (hz : reachB md ops f z i = true) (hzi : i ≠ z) (n : Nat) :
    ∀ (done : Array Bool) (a : Act) (w : World), ShutB md ops done →
      (∀ j oj, ops[j]? = some oj → j ≠ i → done.getD j true = false → (∀ e ∈ oj.after, Region.binds md e = true → e.on ≠ i) → o.apart ops oj = true) →
      i ∈ Region.ready md ops done → YieldsIf P ops S o v a → S w →
      anyZ P md ops Q S z n (done.setIfInBounds i true) (a.put o.dst v) w → anyZ P md ops Q S z (n + 1) done a w := by
  have free : ∀ (done : Array Bool) (j : Nat), i ∈ Region.ready md ops done → j ∈ Region.ready md ops done → j ≠ i →
      ∃ oj, ops[j]? = some oj ∧ done.getD j true = false ∧ (∀ e ∈ oj.after, Region.binds md e = true → e.on ≠ i) := by
    intro done j hr hj _
    obtain ⟨hun, oj, hoj, hall⟩ := mem_ready.1 hj
    refine ⟨oj, hoj, hun, fun e he hb heq => ?_⟩
    have h1 := hall e he hb
    have h0 := (mem_ready.1 hr).1
    rw [heq] at h1
    by_cases hlt : i < done.size
    · simp [hlt] at h0 h1; rw [h0] at h1; cases h1
    · simp [Array.getElem?_eq_none (Nat.le_of_not_lt hlt)] at h1
  induction n with
  | zero =>
    intro done a w _ _ hr hy hS k
    refine ⟨fun h => by rw [h] at hr; simp at hr, fun j hj => ?_⟩
    by_cases hji : j = i
    · subst hji; exact hy.wpOp hi hS ⟨fun _ => hS, k⟩
    · have := ready_mono hj hji
      rw [k.1] at this
      simp at this
  | succ n ih =>
    intro done a w hsh hf hr hy hS k
    refine ⟨fun h => by rw [h] at hr; simp at hr, fun j hj => ?_⟩
    by_cases hji : j = i
    · subst hji; exact hy.wpOp hi hS ⟨fun _ => hS, k⟩
    · obtain ⟨oj, hoj, hun, hno⟩ := free done j hr hj hji
      have hjz : j ≠ z := fun e => not_ready hsh hz hr (e ▸ hj)
      have k1 := wpOp_putIf hoj (hf j oj hoj hji hun hno) (fun cs b => hsel i o cs b hi) (fun cs b => hsel j oj cs b hoj) hQ hy (k.2 j (ready_mono hj hji))
      refine wpOp_mono (fun a' w' k2 => ⟨k2.2.1, ih _ a' w' (hsh.set hj) ?_ (ready_mono hr (Ne.symm hji)) k2.1 (k2.2.1 hjz) (by rw [Array.setIfInBounds_comm _ _ hji]; exact k2.2.2)⟩) k1
      intro m om hm hmi hmu hmn
      refine hf m om hm hmi ?_ hmn
      by_cases hjm : j = m
      · subst hjm; exact hun
      · rwa [getD_set_ne true hjm] at hmu

theorem seqz_start {id : Nat} {a : Act} {w : World} (hm : P.follows .mixedOrders = true) (S : World → Prop) (z n : Nat) (is : List Nat) (hn : L.toArray.size = n) (hS : S w.drew)
    (h : S w.drew → Seq is L (anyZ P .any L.toArray (NoPanic Q) S z n (Array.replicate n false) a w.drew)) : (Code.region id L.toArray true).wp P Q a w :=
  wp_region_noPanic (wp_region_any hm (anyZ_any _ _ _ _ (by rw [hn]; exact h hS)))
theorem seqz_take {i : Nat} {is : List Nat} {l : List Oper} {oi : Oper} {v : Value} {fuel : Nat} {listed : Array Bool} {a : Act} {w : World} (hi : L.toArray[i]? = some oi)
    (hs : Region.noSelect L.toArray = true) (hf : Region.free md L.toArray listed i = true) (hr : (Region.ready md L.toArray listed).contains i = true) (hsh : shutB md L.toArray listed = true) (hz : reachB md L.toArray 40 z i = true) (hzi : i ≠ z)
    (hy : YieldsIf P L.toArray S oi v a) (hS : S w)
    (h : Seq is l (anyZ P md L.toArray (NoPanic Q) S z fuel (listed.setIfInBounds i true) (a.put oi.dst v) w)) : Seq (i :: is) (oi :: l) (anyZ P md L.toArray (NoPanic Q) S z (fuel + 1) listed a w) :=
  anyZ_first hi (Region.noSelect_spec hs) (fun _ _ _ h => h) hz hzi fuel listed a w (ShutB.of hsh) (Region.free_spec hi hf) (by simpa using hr) hy hS h
theorem anyZ_mono {S' : World → Prop} {ops : Array Oper} (h : ∀ x, S' x → S x) : ∀ (fuel : Nat) (listed : Array Bool) (a : Act) (w : World), anyZ P md ops Q S' z fuel listed a w → anyZ P md ops Q S z fuel listed a w
  | 0, _, _, _, k => k
  | fuel + 1, _, _, _, k => ⟨k.1, fun i hi => wpOp_mono (fun a' w' k' => ⟨fun hz => h _ (k'.1 hz), anyZ_mono h fuel _ a' w' k'.2⟩) (k.2 i hi)⟩
/-- A call that comes up alone. -/
theorem seqz_do {i : Nat} {is : List Nat} {l : List Oper} {oi : Oper} {fuel : Nat} {listed : Array Bool} {a : Act} {w : World} (hi : L.toArray[i]? = some oi) (hr : Region.ready md L.toArray listed = [i])
    (hw : Region.wanted oi (yielded L.toArray a.tmps) = true)
    (h : ∀ K : Act → World → Prop, Hid (∀ (S' : World → Prop) (a' : Act) (w' : World), (∀ x, S' x → S x) → S' w' → (S' w' → Seq is l (anyZ P md L.toArray (NoPanic Q) S' z fuel (listed.setIfInBounds i true) a' w')) → K a' w') → oi.wp P a w K (NoPanic Q)) :
    Seq (i :: is) (oi :: l) (anyZ P md L.toArray (NoPanic Q) S z (fuel + 1) listed a w) := by
  refine ⟨fun h0 => by rw [hr] at h0; simp at h0, fun j hj => ?_⟩
  rw [hr] at hj
  obtain rfl : j = i := by simpa using hj
  unfold wpOp
  simp only [hi, hw, if_true]
  exact .inl (h _ (fun S' a' w' h1 h2 h3 => ⟨fun _ => h1 _ h2, anyZ_mono h1 _ _ _ _ (h3 h2)⟩))
/-- The store, last of all. -/
theorem seqz_last {oi : Oper} {fuel : Nat} {listed : Array Bool} {a : Act} {w : World} (hi : L.toArray[z]? = some oi) (hr : Region.ready md L.toArray listed = [z])
    (hw : Region.wanted oi (yielded L.toArray a.tmps) = true) (hd : Region.ready md L.toArray (listed.setIfInBounds z true) = [])
    (h : oi.wp P a w (fun a' w' => Q .normal a' w') (NoPanic Q)) :
    Seq [z] [oi] (anyZ P md L.toArray (NoPanic Q) S z (fuel + 1) listed a w) := by
  refine ⟨fun h0 => by rw [hr] at h0; simp at h0, fun j hj => ?_⟩
  rw [hr] at hj
  obtain rfl : j = z := by simpa using hj
  unfold wpOp
  simp only [hi, hw, if_true]
  refine .inl (Oper.wp_mono (fun a' w' k => ⟨fun hne => absurd rfl hne, ?_⟩) h)
  cases fuel with
  | zero => exact ⟨hd, NoPanic.normal k⟩
  | succ m => exact ⟨fun _ => NoPanic.normal k, by rw [hd]; simp⟩
end
end Go.Proofs.Ytaedmafmflohiaa
