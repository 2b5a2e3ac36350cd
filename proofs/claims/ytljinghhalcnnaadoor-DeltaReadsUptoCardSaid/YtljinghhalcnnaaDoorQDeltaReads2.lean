/- A region that draws its order, walked in the order of its text: what only reads is taken first; a call comes up alone, and behind it more may be known of the world. No program is named here. This program's rows of its types' table, for bytes. -/
import Derived.Test.YtljinghhalcnnaaDoorQDeltaReads1
import Derived.Deep.RegionHeld3
import Derived.Test.YtljinghhalcnnaaDoorProg
namespace Go.Proofs.YtljinghhalcnnaaDoor
open Go.RowKit

/-- The numbers of the operations that are left, and they themselves, ride beside the statement, in the order in which they are to come. -/
def Seq (_is : List Nat) (_l : List Oper) (p : Prop) : Prop := p

section
variable {P : Program} {L : List Oper} {Q : Exit → Act → World → Prop} {md : Region.Mode} {S S' : World → Prop}
theorem wpAnyH_mono {ops : Array Oper} (h : ∀ x, S' x → S x) : ∀ (fuel : Nat) (listed : Array Bool) (a : Act) (w : World), wpAnyH P md ops Q S' fuel listed a w → wpAnyH P md ops Q S fuel listed a w
  | 0, _, _, _, k => k
  | fuel + 1, _, _, _, k => ⟨k.1, fun i hi => wpOp_mono (fun a' w' k' => ⟨h _ k'.1, wpAnyH_mono h fuel _ a' w' k'.2⟩) (k.2 i hi)⟩

theorem seq_start {id : Nat} {a : Act} {w : World} (hm : P.follows .mixedOrders = true) (S : World → Prop) (n : Nat) (is : List Nat) (hn : L.toArray.size = n) (hS : S w.drew)
    (h : S w.drew → Seq is L (wpAnyH P .any L.toArray (NoPanic Q) S n (Array.replicate n false) a w.drew)) : (Code.region id L.toArray true).wp P Q a w :=
  wp_region_noPanic (wp_region_held hm (by rw [hn]; exact h hS))

theorem seq_later {i : Nat} {is : List Nat} {o : Oper} {l : List Oper} {p : Prop} (h : Seq (is ++ [i]) (l ++ [o]) p) : Seq (i :: is) (o :: l) p := h

theorem seq_take {i : Nat} {is : List Nat} {l : List Oper} {oi : Oper} {v : Value} {fuel : Nat} {listed : Array Bool} {a : Act} {w : World} (hi : L.toArray[i]? = some oi)
    (hs : Region.noSelect L.toArray = true) (hf : Region.free md L.toArray listed i = true) (hr : (Region.ready md L.toArray listed).contains i = true)
    (hy : YieldsIf P L.toArray S oi v a) (hS : S w)
    (h : Seq is l (wpAnyH P md L.toArray (NoPanic Q) S fuel (listed.setIfInBounds i true) (a.put oi.dst v) w)) : Seq (i :: is) (oi :: l) (wpAnyH P md L.toArray (NoPanic Q) S (fuel + 1) listed a w) :=
  wpAnyH_take hi hs hf hr (fun _ _ _ h => h) hy hS h

theorem seq_do {i : Nat} {is : List Nat} {l : List Oper} {oi : Oper} {fuel : Nat} {listed : Array Bool} {a : Act} {w : World} (hi : L.toArray[i]? = some oi) (hr : Region.ready md L.toArray listed = [i])
    (hw : Region.wanted oi (yielded L.toArray a.tmps) = true)
    (h : ∀ K : Act → World → Prop, Hid (∀ (S' : World → Prop) (a' : Act) (w' : World), (∀ x, S' x → S x) → S' w' → (S' w' → Seq is l (wpAnyH P md L.toArray (NoPanic Q) S' fuel (listed.setIfInBounds i true) a' w')) → K a' w') → oi.wp P a w K (NoPanic Q)) :
    Seq (i :: is) (oi :: l) (wpAnyH P md L.toArray (NoPanic Q) S (fuel + 1) listed a w) := by
  refine wpAnyH_all hr (by simp) (fun j hj => ?_)
  obtain rfl : j = i := by simpa using hj
  unfold wpOp
  simp only [hi, hw, if_true]
  exact .inl (h _ (fun S' a' w' h1 h2 h3 => ⟨h1 _ h2, wpAnyH_mono h1 _ _ _ _ (h3 h2)⟩))

/-- Two may come up: either may be the first. -/
theorem seq_two {i j : Nat} {is : List Nat} {l : List Oper} {oi oj : Oper} {fuel : Nat} {listed : Array Bool} {a : Act} {w : World} (hi : L.toArray[i]? = some oi) (hj : L.toArray[j]? = some oj) (hr : Region.ready md L.toArray listed = [i, j])
    (hwi : Region.wanted oi (yielded L.toArray a.tmps) = true) (hwj : Region.wanted oj (yielded L.toArray a.tmps) = true)
    (h1 : ∀ K : Act → World → Prop, Hid (∀ (S' : World → Prop) (a' : Act) (w' : World), (∀ x, S' x → S x) → S' w' → (S' w' → Seq (j :: is) (oj :: l) (wpAnyH P md L.toArray (NoPanic Q) S' fuel (listed.setIfInBounds i true) a' w')) → K a' w') → oi.wp P a w K (NoPanic Q))
    (h2 : ∀ K : Act → World → Prop, Hid (∀ (S' : World → Prop) (a' : Act) (w' : World), (∀ x, S' x → S x) → S' w' → (S' w' → Seq (i :: is) (oi :: l) (wpAnyH P md L.toArray (NoPanic Q) S' fuel (listed.setIfInBounds j true) a' w')) → K a' w') → oj.wp P a w K (NoPanic Q)) :
    Seq (i :: j :: is) (oi :: oj :: l) (wpAnyH P md L.toArray (NoPanic Q) S (fuel + 1) listed a w) := by
  refine wpAnyH_all hr (by simp) (fun k hk => ?_)
  have hk' : k = i ∨ k = j := by simpa using hk
  unfold wpOp
  rcases hk' with rfl | rfl
  · simp only [hi, hwi, if_true]
    exact .inl (h1 _ (fun S' a' w' e1 e2 e3 => ⟨e1 _ e2, wpAnyH_mono e1 _ _ _ _ (e3 e2)⟩))
  · simp only [hj, hwj, if_true]
    exact .inl (h2 _ (fun S' a' w' e1 e2 e3 => ⟨e1 _ e2, wpAnyH_mono e1 _ _ _ _ (e3 e2)⟩))

theorem seq_done {listed : Array Bool} {a : Act} {w : World} {fuel : Nat} (hr : Region.ready md L.toArray listed = []) (h : Q .normal a w) : Seq [] [] (wpAnyH P md L.toArray (NoPanic Q) S fuel listed a w) :=
  wpAnyH_done hr (NoPanic.normal h) fuel
end

/-- 'append' at bytes, at an operation of its own. -/
theorem op_appendB {P : Program} {w : World} {o : Oper} {a : Act} {K : Act → World → Prop} {Q : Exit → Act → World → Prop} (s x : Operand) (t E : TypeId)
    (ho : o.op = .call { callee := .builtin .append, args := #[s, x], argTypes := #[t, t] }) (ht : P.underlying t = some (.slice E))
    (hinfo : (P.info? E).map (fun i => (i.zero, i.size, i.bytes)) = some (some (.int .u8 0), 1, 1))
    (A : Option Addr) (cv : Nat) (l : List UInt8) (hs : a.eval s = .slice A l.length cv) (hown : OwnB E w A cv l)
    (A2 : Option Addr) (c : Nat) (l2 : List UInt8) (hx : a.eval x = .slice A2 l2.length c) (hr : RdB w A2 l2) (hb : l.length + l2.length ≤ 140737488355328)
    (h : ∀ A' c' w' l', Hid (l' = l ++ l2) → OwnB E w' A' c' l' → Keeps (blk A) w w' → (∀ a, A' = some a → a.block ∈ blk A ∨ w.heap.size ≤ a.block) → K (a.put o.dst (.slice A' l'.length c')) w') :
    o.wp P a w K Q := by
  obtain ⟨A', c', w', hrun, h2, h3, h4⟩ := run_append_rd (P := P) w t o.type E (.int .u8 0) 1 1 ht hinfo rfl (by decide) A l.length cv (encB l) hown A2 l2.length c (encB l2) hr (encB_one l2) (by unfold maxLen; omega) (by omega)
  have hl : l.length + l2.length = (l ++ l2).length := by simp
  rw [hl] at h2 hrun
  rw [← encB_append] at h2
  unfold Oper.wp execOp
  simp only [ho, resolve, invoke, builtin, Sem.run_bind, Sem.run_pure, Result.andThen_ok, List.map_toArray, List.map_cons, List.map_nil, hs, hx, hrun]
  exact h A' c' w' (l ++ l2) rfl h2 h3 h4


theorem yieldsIf_eql_arrB {P : Program} {ops : Array Oper} {S : World → Prop} {op : Oper} {a : Act} (hw : Region.wanted op (yielded ops a.tmps) = true) (t e : TypeId) (n : Nat) (x y : Operand) (ho : op.op = .binOp .eql t x y t)
    (hu : P.underlying t = some (.array n e)) (he : P.underlying e = some (.int .u8)) (hsome : (P.info? e).isSome = true) (hc : P.cellsOf e = 1) (hg : P.eqGuardType P.depth t = false)
    (p q : List UInt8) (hx : a.eval x = .agg (encB p).toArray) (hy : a.eval y = .agg (encB q).toArray) (hp : p.length = n) (hq : q.length = n) : YieldsIf P ops S op (.bool (p == q)) a :=
  .inl ⟨hw, fun w _ => by
    have h1 := run_eql_arrB (P := P) w hu he hsome hc p q hp hq
    have h2 := run_eqGuard_arr (P := P) w hg .eql x y (encB p).toArray (encB q).toArray
    unfold execOp
    simp only [ho, hx, hy, Sem.run_bind, h1, h2, Result.andThen_ok, Sem.run_pure]⟩

/-! ## Bytes as a string -/
def strB (l : List UInt8) : ByteArray := ⟨l.toArray⟩
theorem strB_inj {a b : List UInt8} (h : strB a = strB b) : a = b := by
  have h1 := congrArg (fun x => x.data.toList) h
  simpa [strB] using h1
theorem strB_toList (l : List UInt8) : (strB l).toList = l := by rw [ByteArray.toList_eq]; rfl
theorem strB_beq (a b : List UInt8) : ((strB a).toList == (strB b).toList) = (a == b) := by rw [strB_toList, strB_toList]
theorem strB_beq_true {a b : List UInt8} (h : a = b) : ((strB a).toList == (strB b).toList) = true := by rw [h]; simp
theorem run_conv_str {P : Program} (w : World) {src dst e : TypeId} (hs : P.underlying src = some (.slice e)) (he : P.underlying e = some (.int .u8)) (hd : P.underlying dst = some .string)
    {A : Option Addr} {l : List UInt8} (h : RdB w A l) (c : Nat) : (convert src dst (.slice A l.length c)).run P w = .ok (.string (strB l)) w := by
  rcases Nat.eq_zero_or_pos l.length with h0 | h0
  · have e0 := List.eq_nil_of_length_eq_zero h0
    subst e0
    rcases A with _ | ad
    · exact run_convert_bytes_nil w src e hs he 0 c dst hd
    · rw [List.length_nil, run_convert_bytes_string w src dst e (some ad) 0 c hs he hd]
      exact run_bytesToString (P := P) w ad 0 c [] (by simp [loadCells, loadCellsFrom])
  · obtain ⟨g, o, rfl, hc⟩ := h.form h0
    have := run_convert_bytes_arg (P := P) w src e hs he g o l.length c (l.map fun c => (c.toNat : Int)) (by simp) (fun i hi => by rw [hc i hi]; simp [List.getD_eq_getElem?_getD, List.getElem?_eq_getElem hi]) dst hd
    rw [this]
    congr 2
    simp [strOfNums, strB, Function.comp_def]
/-- A reading of old bytes as a string, in every world that keeps what there was. -/
theorem conv_keeps {P : Program} {w : World} {src dst e : TypeId} (hs : P.underlying src = some (.slice e)) (he : P.underlying e = some (.int .u8)) (hd : P.underlying dst = some .string)
    {A : Option Addr} {l : List UInt8} (h : RdB w A l) (c : Nat) (w' : World) (hk : Keeps [] w w') : (convert src dst (.slice A l.length c)).run P w' = .ok (.string (strB l)) w' :=
  run_conv_str w' hs he hd (h.keeps0 hk) c
end Go.Proofs.YtljinghhalcnnaaDoor
namespace Go.Proofs.YtljinghhalcnnaaDoor
theorem infoB : (Tryd.prog.info? 5).map (fun i => (i.zero, i.size, i.bytes)) = some (some (.int .u8 0), 1, 1) := by kernel_rfl
end Go.Proofs.YtljinghhalcnnaaDoor
