/- How arguments of any kind are read: kinds of values, what a value's cells are, what is known of the memory that it shows. No program is named here. Parts as they are handed in, and what is known of them. The number that bytes begin with: plain numbers, no program is named here. An error of the program by its number: nil for 0. -/
import Derived.Test.YtljinghhalcnnaaDoorQDeltaReads1
import Derived.ProofKit
import Derived.OpenShut
import Derived.SizedLaws
import Derived.Deep.MidRow
import Derived.Test.YtljinghhalcnnaaDoorQDeltaReads7
import Derived.Test.YtljinghhalcnnaaDoorQDeltaReads6
import Derived.Lib.Bits
import Derived.Test.YtljinghhalcnnaaDoorProg
namespace Go.Proofs.YtljinghhalcnnaaDoor
open Go.RowKit Go.ChangeShapes Go.WideShapes Go.ChangeAt

/-- Kinds: whole numbers, truths, texts, rows of a fixed length, slices (with the bytes of an element), structs (a chain of fields). -/
inductive K where
  | int (k : IntKind)
  | bool
  | str
  | arr (n : Nat) (k : K)
  | slice (b : Nat) (k : K)
  | st (k : K)
  | nil
  | pair (a b : K)
namespace K
/-- What a value of a kind is, without memory. -/
def V : K → Type
  | .int _ => Int
  | .bool => Bool
  | .str => ByteArray
  | .arr _ k => List k.V
  | .slice _ k => (Option Addr × Nat) × List k.V
  | .st k => k.V
  | .nil => Unit
  | .pair a b => a.V × b.V
/-- How many cells. -/
def size : K → Nat
  | .int _ => 1
  | .bool => 1
  | .str => 1
  | .arr n k => n * k.size
  | .slice _ _ => 1
  | .st k => k.size
  | .nil => 0
  | .pair a b => a.size + b.size
/-- Its cells. -/
def cells : (k : K) → k.V → List Value
  | .int k, (x : Int) => [.int k x]
  | .bool, (x : Bool) => [.bool x]
  | .str, (x : ByteArray) => [.string x]
  | .arr _ k, (xs : List k.V) => xs.flatMap k.cells
  | .slice _ _, ((h, xs) : (Option Addr × Nat) × List _) => [.slice h.1 xs.length h.2]
  | .st k, x => k.cells x
  | .nil, _ => []
  | .pair a b, ((x, y) : a.V × b.V) => a.cells x ++ b.cells y
/-- What is known of it: numbers are of their kind, slices can be read. -/
def ok (w : World) : (k : K) → k.V → Prop
  | .int k, (x : Int) => (Lit.int k x).wf = true
  | .bool, _ => True
  | .str, (x : ByteArray) => x.size ≤ 140737488351232
  | .arr n k, (xs : List k.V) => xs.length = n ∧ ∀ x ∈ xs, k.ok w x
  | .slice b k, ((h, xs) : (Option Addr × Nat) × List k.V) => xs.length ≤ h.2 ∧ xs.length * b ≤ 140737488351232 ∧ Rd w h.1 xs.length k.size (xs.flatMap k.cells) ∧ ∀ x ∈ xs, k.ok w x
  | .st k, x => k.ok w x
  | .nil, _ => True
  | .pair a b, ((x, y) : a.V × b.V) => a.ok w x ∧ b.ok w y

/-- How many values and letters it holds, at least. -/
def bulk : (k : K) → k.V → Nat
  | .int _, _ => 1
  | .bool, _ => 1
  | .str, (x : ByteArray) => x.size + 1
  | .arr _ k, (xs : List k.V) => (xs.map k.bulk).sum
  | .slice _ k, (x : (Option Addr × Nat) × List k.V) => (x.2.map k.bulk).sum
  | .st k, x => k.bulk x
  | .nil, _ => 0
  | .pair a b, (x : a.V × b.V) => a.bulk x.1 + b.bulk x.2

mutual
/-- A type of the program that is of a kind. -/
def fits (P : Program) : K → TypeId → Prop
  | .int k, t => P.underlying t = some (.int k)
  | .bool, t => P.underlying t = some .bool
  | .str, t => P.underlying t = some .string
  | .arr n k, t => ∃ e, P.underlying t = some (.array n e) ∧ P.cellsOf e = k.size ∧ P.cellsOf t = n * k.size ∧ fits P k e
  | .slice b k, t => ∃ e, P.underlying t = some (.slice e) ∧ P.cellsOf e = k.size ∧ P.bytesOf e = b ∧ fits P k e
  | .st k, t => ∃ fs, P.underlying t = some (.struct fs) ∧ P.cellsOf t = k.size ∧ fitsL P k fs.toList 0
  | .nil, _ => False
  | .pair _ _, _ => False
def fitsL (P : Program) : K → List Field → Nat → Prop
  | .nil, fs, _ => fs = []
  | .pair a b, fs, off => ∃ f r, fs = f :: r ∧ f.offset = off ∧ P.cellsOf f.type = a.size ∧ fits P a f.type ∧ fitsL P b r (off + a.size)
  | .int _, _, _ => False
  | .bool, _, _ => False
  | .str, _, _ => False
  | .arr _ _, _, _ => False
  | .slice _ _, _, _ => False
  | .st _, _, _ => False
end

theorem length_cells : ∀ (k : K) (w : World) (x : k.V), k.ok w x → (k.cells x).length = k.size
  | .int _, _, _, _ => rfl
  | .bool, _, _, _ => rfl
  | .str, _, _, _ => rfl
  | .arr n k, w, xs, h => by
    obtain ⟨hl, hx⟩ := h
    show (List.flatMap k.cells xs).length = n * k.size
    rw [← hl]
    clear hl
    induction xs with
    | nil => simp
    | cons y ys ih =>
      rw [List.flatMap_cons, List.length_append, length_cells k w y (hx y (by simp)), List.length_cons, Nat.succ_mul, Nat.add_comm, ih (fun z hz => hx z (by simp [hz]))]
  | .slice _ _, _, _, _ => rfl
  | .st k, w, x, h => length_cells k w x h
  | .nil, _, _, _ => rfl
  | .pair a b, w, (x, y), h => by
    show (a.cells x ++ b.cells y).length = a.size + b.size
    rw [List.length_append, length_cells a w x h.1, length_cells b w y h.2]
end K

/-- A count of values and letters. -/
structure BulkLike {H : Type} (B : DataW H → Nat) : Prop where
  one : ∀ d, 1 ≤ B d
  str : ∀ l : List UInt8, l.length + 1 ≤ B (.lit (.string l))
  slice : ∀ e s, (List.map B e).sum ≤ B (.slice e s)
  agg : ∀ e, (List.map B e).sum ≤ B (.agg e)
theorem sum_le {α β : Type} {f : α → Nat} {g : β → Nat} : ∀ (xs : List α) (ys : List β), xs.length = ys.length → (∀ i (h : i < xs.length) (h' : i < ys.length), f xs[i] ≤ g ys[i]) → (xs.map f).sum ≤ (ys.map g).sum
  | [], [], _, _ => by simp
  | x :: xs, y :: ys, hl, h => by
    have h0 := h 0 (by simp) (by simp)
    have := sum_le xs ys (by simpa using hl) (fun i hi hi' => h (i + 1) (by simpa using hi) (by simpa using hi'))
    simp only [List.map_cons, List.sum_cons]
    simp only [List.getElem_cons_zero] at h0
    omega
  | [], _ :: _, hl, _ => by simp at hl
  | _ :: _, [], hl, _ => by simp at hl
theorem le_sum {α : Type} {f : α → Nat} : ∀ (xs : List α) {x : α}, x ∈ xs → f x ≤ (xs.map f).sum
  | y :: ys, x, h => by
    rcases List.mem_cons.1 h with rfl | h
    · simp
    · have := le_sum (f := f) ys h; simp; omega
  | [], _, h => absurd h (by simp)

theorem weightsAll_mem {H : Type} {P : Program} {e : TypeId} {d : DataW H} : ∀ {ds : List (DataW H)}, d ∈ ds → ∀ {q : Nat}, q ∈ d.weights P e → q ∈ DataW.weightsAll P e ds
  | [], h, _, _ => absurd h (by simp)
  | d0 :: ds, h, q, hq => by
    simp only [DataW.weightsAll, List.mem_append]
    rcases List.mem_cons.1 h with rfl | h
    · exact .inl hq
    · exact .inr (weightsAll_mem h hq)

section
variable {H : Type} {enc : TypeId × Value → H} {P : Program} {w : World} {base : Nat} {spare : Nat → Bool} {held : Bool} {B : DataW H → Nat} (hB : BulkLike B)
include hB

omit hB in
theorem all_choose {α : Type} {p : Nat → α → Prop} : ∀ n, (∀ i, i < n → ∃ x, p i x) → ∃ xs : List α, xs.length = n ∧ ∀ i (h : i < xs.length), p i xs[i]
  | 0, _ => ⟨[], rfl, fun i h => absurd h (by simp)⟩
  | n + 1, h => by
    obtain ⟨xs, hl, hx⟩ := all_choose n (fun i hi => h i (by omega))
    obtain ⟨x, hp⟩ := h n (by omega)
    refine ⟨xs ++ [x], by simp [hl], fun i hi => ?_⟩
    rw [List.getElem_append]
    split
    · exact hx i _
    · have : i = n := by simp at hi; omega
      subst this
      simpa using hp

omit hB in
theorem flatMap_get {α : Type} {f : α → List Value} {n : Nat} : ∀ (xs : List α), (∀ x ∈ xs, (f x).length = n) → ∀ i (h : i < xs.length) j, j < n → (xs.flatMap f)[i * n + j]? = (f xs[i])[j]?
  | [], _, i, h, _, _ => absurd h (by simp)
  | y :: ys, hn, 0, h, j, hj => by
    rw [List.flatMap_cons, Nat.zero_mul, Nat.zero_add, List.getElem?_append_left (by rw [hn y (by simp)]; exact hj)]
    rfl
  | y :: ys, hn, i + 1, h, j, hj => by
    rw [List.flatMap_cons, List.getElem?_append_right (by rw [hn y (by simp), Nat.succ_mul]; omega), hn y (by simp), show (i + 1) * n + j - n = i * n + j by rw [Nat.succ_mul]; omega]
    exact flatMap_get ys (fun x hx => hn x (by simp [hx])) i (by simpa using h) j hj

omit hB in
theorem flatMap_take_drop {α : Type} {f : α → List Value} {n : Nat} : ∀ (xs : List α), (∀ x ∈ xs, (f x).length = n) → ∀ cs : List Value, cs.length = xs.length * n → (∀ i (h : i < xs.length), (cs.drop (i * n)).take n = f xs[i]) → cs = xs.flatMap f
  | [], _, cs, hl, _ => by simpa using hl
  | y :: ys, hn, cs, hl, h => by
    have h0 := h 0 (by simp)
    rw [Nat.zero_mul, List.drop_zero] at h0
    rw [List.flatMap_cons, ← List.take_append_drop n cs]
    congr 1
    refine flatMap_take_drop ys (fun x hx => hn x (by simp [hx])) _ (by rw [List.length_drop, hl, List.length_cons, Nat.succ_mul]; omega) (fun i hi => ?_)
    have := h (i + 1) (by simpa using hi)
    rw [List.drop_drop, show n + i * n = (i + 1) * n by rw [Nat.succ_mul]; omega]
    simpa using this

mutual
theorem open_k : ∀ (k : K) {t : TypeId} {cs : List Value} {fuel : Nat} {x : DataW H × List MemPlace}, k.fits P t → DataW.trod enc P w base spare held fuel t cs = some x → (∀ n ∈ x.1.weights P t, n ≤ reachBytes) → ∃ v : k.V, cs = k.cells v ∧ k.ok w v ∧ k.bulk v ≤ B x.1
  | .int k, t, cs, fuel, x, hf, h, _ => by
    obtain ⟨n, rfl, _, hw⟩ := DataW.trod_int hf h
    exact ⟨n, rfl, hw, hB.one _⟩
  | .bool, t, cs, fuel, x, hf, h, _ => by
    obtain ⟨b, rfl, _⟩ := DataW.trod_bool hf h
    exact ⟨b, rfl, trivial, hB.one _⟩
  | .str, t, cs, fuel, x, hf, h, hw => by
    obtain ⟨s, rfl, rfl, _⟩ := DataW.trod_string hf h
    refine ⟨s, rfl, ?_, by have := hB.str s.data.toList; rw [Array.length_toList] at this; exact this⟩
    have := hw s.data.toList.length (by simp [DataW.weights])
    unfold reachBytes at this
    rw [Array.length_toList] at this
    exact this
  | .arr n k, t, cs, fuel, x, hf, h, hw => by
    obtain ⟨e, hu, hce, hct, hk⟩ := hf
    obtain ⟨xs, m, _, rfl, hlen, hl, hel⟩ := DataW.trod_array hu h
    have hw' : ∀ d ∈ xs, ∀ q ∈ d.1.weights P e, q ≤ reachBytes := by
      intro d hd q hq
      refine hw q ?_
      simp only [DataW.weights, hu]
      exact weightsAll_mem (List.mem_map.2 ⟨d, hd, rfl⟩) hq
    obtain ⟨vs, hvl, hv⟩ := all_choose (p := fun i (v : k.V) => (cs.drop (i * k.size)).take k.size = k.cells v ∧ k.ok w v ∧ ∀ h : i < xs.length, k.bulk v ≤ B xs[i].1) n (fun i hi => by
      have h1 := hel i hi
      rw [hce, List.getElem?_eq_getElem (by omega)] at h1
      obtain ⟨v, e1, e2, e3⟩ := open_k k hk h1 (hw' _ (List.getElem_mem _))
      exact ⟨v, e1, e2, fun _ => e3⟩)
    have hok : ∀ v ∈ vs, k.ok w v := by
      intro v hm
      obtain ⟨i, hi, rfl⟩ := List.mem_iff_getElem.1 hm
      exact (hv i hi).2.1
    refine ⟨vs, flatMap_take_drop vs (fun v hm => K.length_cells k w v (hok v hm)) cs (by rw [hlen, hct, hvl]) (fun i hi => (hv i hi).1), ⟨hvl, hok⟩, ?_⟩
    refine Nat.le_trans ?_ (hB.agg _)
    rw [List.map_map]
    exact sum_le vs xs (by omega) (fun i h1 h2 => (hv i h1).2.2 h2)
  | .slice b k, t, cs, fuel, x, hf, h, hw => by
    obtain ⟨e, hu, hce, hb, hk⟩ := hf
    rcases DataW.trod_slice hu h with ⟨rfl, rfl⟩ | ⟨a, len, cap, elems, rest, m, _, rfl, rfl, hbase, hlc, hcm, hel, hcell, _, _⟩
    · exact ⟨((none, 0), []), rfl, ⟨Nat.le_refl _, by simp, Rd.nil _ _ _, by simp⟩, Nat.zero_le _⟩
    · have hw' : ∀ d ∈ elems, ∀ q ∈ d.1.weights P e, q ≤ reachBytes := by
        intro d hd q hq
        refine hw q ?_
        simp only [DataW.weights, hu]
        exact List.mem_cons_of_mem _ (List.mem_append_left _ (weightsAll_mem (List.mem_map.2 ⟨d, hd, rfl⟩) hq))
      obtain ⟨vs, hvl, hv⟩ := all_choose (p := fun i (v : k.V) => (∀ j, j < k.size → w.cell? (a.add (i * k.size + j)) = (k.cells v)[j]?) ∧ k.ok w v ∧ ∀ h : i < elems.length, k.bulk v ≤ B elems[i].1) len (fun i hi => by
        have h1 := hcell i hi
        rw [hce, List.getElem?_eq_getElem (by omega), Option.bind_eq_some_iff] at h1
        obtain ⟨cs', h2, h3⟩ := h1
        obtain ⟨_, hcl, hat⟩ := World.cells?_some h2
        obtain ⟨v, rfl, hok, e3⟩ := open_k k hk h3 (hw' _ (List.getElem_mem _))
        exact ⟨v, fun j hj => by rw [← add_add]; exact hat j hj, hok, fun _ => e3⟩)
      have hok : ∀ v ∈ vs, k.ok w v := by
        intro v hm
        obtain ⟨i, hi, rfl⟩ := List.mem_iff_getElem.1 hm
        exact (hv i hi).2.1
      have hcl : ∀ v ∈ vs, (k.cells v).length = k.size := fun v hm => K.length_cells k w v (hok v hm)
      have hfl : (vs.flatMap k.cells).length = vs.length * k.size := by
        rw [List.length_flatMap]
        clear hvl hv
        induction vs with
        | nil => simp
        | cons y ys ih => rw [List.map_cons, List.sum_cons, hcl y (by simp), List.length_cons, Nat.succ_mul, Nat.add_comm, ih (fun z hz => hok z (by simp [hz])) (fun z hz => hcl z (by simp [hz]))]
      refine ⟨((some a, cap), vs), by show _ = [Value.slice _ _ _]; rw [hvl], ⟨by show vs.length ≤ cap; omega, ?_, ⟨hfl, fun hn => ⟨a, rfl, fun j u hu' => ?_⟩⟩, hok⟩, ?_⟩
      · have := hw ((elems.map (·.1)).length + (rest.map (·.1)).length |> (· * P.bytesOf e)) (by simp only [DataW.weights, hu]; exact List.mem_cons_self ..)
        unfold reachBytes at this
        simp only [List.length_map, hb, hel] at this
        show vs.length * b ≤ _
        rw [hvl]
        exact Nat.le_trans (Nat.mul_le_mul_right _ (by omega)) this
      · have hj := (List.getElem?_eq_some_iff.1 hu').1
        rw [hfl] at hj
        have hs : 0 < k.size := by
          rcases Nat.eq_zero_or_pos k.size with h0 | h0
          · rw [h0] at hj; simp at hj
          · exact h0
        have hd : j / k.size < vs.length := Nat.div_lt_of_lt_mul (by rw [Nat.mul_comm]; exact hj)
        have e1 := (hv (j / k.size) hd).1 (j % k.size) (Nat.mod_lt _ hs)
        have e2 := flatMap_get (f := k.cells) vs hcl (j / k.size) hd (j % k.size) (Nat.mod_lt _ hs)
        rw [Nat.div_add_mod' j k.size] at e1 e2
        rw [e1, ← e2, hu']
      · refine Nat.le_trans ?_ (hB.slice _ _)
        rw [List.map_map]
        exact sum_le vs elems (by omega) (fun i h1 h2 => (hv i h1).2.2 h2)
  | .st k, t, cs, fuel, x, hf, h, hw => by
    obtain ⟨fs, hu, hct, hk⟩ := hf
    obtain ⟨xs, m, _, rfl, hlen, hl, hel⟩ := DataW.trod_struct hu h
    have h2 := open_l k (fs := fs.toList) (off := 0) (cs := cs) (xs := xs) (fuel := m) hk (by rw [hlen, hct]; omega) (by simpa using hl)
      (fun i f hf => by simpa using hel i f (by simpa using hf)) (by simpa only [DataW.weights, hu] using hw)
    obtain ⟨v, hv, hok, hbk⟩ := h2
    rw [List.drop_zero] at hv
    exact ⟨v, hv, hok, Nat.le_trans hbk (by have := hB.agg (xs.map (·.1)); rwa [List.map_map] at this)⟩
  | .nil, _, _, _, _, hf, _, _ => hf.elim
  | .pair _ _, _, _, _, _, hf, _, _ => hf.elim
theorem open_l : ∀ (k : K) {fs : List Field} {off : Nat} {cs : List Value} {xs : List (DataW H × List MemPlace)} {fuel : Nat}, k.fitsL P fs off → cs.length = off + k.size → xs.length = fs.length →
    (∀ (i : Nat) (f : Field), fs[i]? = some f → DataW.trod enc P w base spare held fuel f.type ((cs.drop f.offset).take (P.cellsOf f.type)) = xs[i]?) → (∀ n ∈ DataW.weightsEach P (fs.map (·.type)) (xs.map (·.1)), n ≤ reachBytes) → ∃ v : k.V, cs.drop off = k.cells v ∧ k.ok w v ∧ k.bulk v ≤ (xs.map (B ∘ (·.1))).sum
  | .nil, fs, off, cs, xs, fuel, hf, hl, _, _, _ => by
    have _ := hB.one
    exact ⟨(), by simpa [K.cells, K.size] using (show cs.length ≤ off by rw [hl]; simp [K.size]), trivial, Nat.zero_le _⟩
  | .pair a b, fs, off, cs, xs, fuel, hf, hl, hxl, hel, hw => by
    obtain ⟨f, r, rfl, ho, hc, ha, hb⟩ := hf
    rcases xs with _ | ⟨y, ys⟩
    · simp at hxl
    · have h0 := hel 0 f rfl
      rw [ho, hc, List.getElem?_cons_zero] at h0
      simp only [List.map_cons, DataW.weightsEach, List.mem_append] at hw
      obtain ⟨v1, e1, ok1, bk1⟩ := open_k a ha h0 (fun n hn => hw n (.inl hn))
      obtain ⟨v2, e2, ok2, bk2⟩ := open_l b (cs := cs) (xs := ys) (fuel := fuel) hb (by rw [hl]; show off + (a.size + b.size) = _; omega) (by simpa using hxl) (fun i g hg => by simpa using hel (i + 1) g (by simpa using hg)) (fun n hn => hw n (.inr hn))
      refine ⟨(v1, v2), ?_, ⟨ok1, ok2⟩, ?_⟩
      · show _ = a.cells v1 ++ b.cells v2
        rw [← e1, ← e2, ← List.drop_drop, List.take_append_drop]
      · show a.bulk v1 + b.bulk v2 ≤ _
        simp only [List.map_cons, List.sum_cons, Function.comp]
        exact Nat.add_le_add bk1 bk2
  | .int _, _, _, _, _, _, hf, _, _, _, _ => hf.elim
  | .bool, _, _, _, _, _, hf, _, _, _, _ => hf.elim
  | .str, _, _, _, _, _, hf, _, _, _, _ => hf.elim
  | .arr _ _, _, _, _, _, _, hf, _, _, _, _ => hf.elim
  | .slice _ _, _, _, _, _, _, hf, _, _, _, _ => hf.elim
  | .st _, _, _, _, _, _, hf, _, _, _, _ => hf.elim
end

/-- A parameter that is a slice. -/
theorem open_slice_k {r : Reach} {b0 : Nat} {b : Nat} {k : K} {t : TypeId} {v : Value} {d : DataW H} {ps : List MemPlace} {ts : List TypeId} {ds : List (DataW H)} {j : Nat} (hk : (K.slice b k).fits P t)
    (hsz : (DataW.weightsEach P ts ds).all (· ≤ reachBytes) = true) (ht : ts[j]? = some t) (hd : ds[j]? = some d) (hval : Value.okWide P w r b0 t v) (h : DataW.Trod enc P w base spare held t v d ps) :
    ∃ (A : Option Addr) (c : Nat) (xs : List k.V), v = .slice A xs.length c ∧ (K.slice b k).ok w ((A, c), xs) ∧ (K.slice b k).bulk ((A, c), xs) ≤ B d := by
  obtain ⟨fuel, hf⟩ := h
  obtain ⟨⟨⟨A, c⟩, xs⟩, hcs, hok, hbk⟩ := open_k hB (K.slice b k) hk hf (fun n hn => by simpa using List.all_eq_true.1 hsz _ (DataW.weights_mem_each ht hd n hn))
  obtain ⟨e, hu, _⟩ := hk
  obtain ⟨A', l', c', rfl⟩ := okWide_slice hu hval
  refine ⟨A, c, xs, ?_, hok, hbk⟩
  have h1 : [Value.slice A' l' c'] = [Value.slice A xs.length c] := hcs
  simpa using h1
/-- A parameter that is a struct. -/
theorem open_struct_k {r : Reach} {b0 : Nat} {k : K} {t : TypeId} {v : Value} {d : DataW H} {ps : List MemPlace} {ts : List TypeId} {ds : List (DataW H)} {j : Nat} (hk : (K.st k).fits P t)
    (hsz : (DataW.weightsEach P ts ds).all (· ≤ reachBytes) = true) (ht : ts[j]? = some t) (hd : ds[j]? = some d) (hval : Value.okWide P w r b0 t v) (h : DataW.Trod enc P w base spare held t v d ps) :
    ∃ x : k.V, v = .agg (k.cells x).toArray ∧ k.ok w x ∧ k.bulk x ≤ B d := by
  obtain ⟨fuel, hf⟩ := h
  obtain ⟨x, hcs, hok, hbk⟩ := open_k hB (K.st k) hk hf (fun n hn => by simpa using List.all_eq_true.1 hsz _ (DataW.weights_mem_each ht hd n hn))
  obtain ⟨fs, hu, _⟩ := hk
  obtain ⟨cs, rfl, _⟩ := okWide_struct hu hval
  refine ⟨x, ?_, hok, hbk⟩
  have h1 : cs.toList = k.cells x := hcs
  rw [← h1]
/-- A parameter that is an array. -/
theorem open_arr_k {r : Reach} {b0 : Nat} {n : Nat} {k : K} {t : TypeId} {v : Value} {d : DataW H} {ps : List MemPlace} {ts : List TypeId} {ds : List (DataW H)} {j : Nat} (hk : (K.arr n k).fits P t)
    (hsz : (DataW.weightsEach P ts ds).all (· ≤ reachBytes) = true) (ht : ts[j]? = some t) (hd : ds[j]? = some d) (hval : Value.okWide P w r b0 t v) (h : DataW.Trod enc P w base spare held t v d ps) :
    ∃ xs : List k.V, v = .agg (xs.flatMap k.cells).toArray ∧ (K.arr n k).ok w xs ∧ (K.arr n k).bulk xs ≤ B d := by
  obtain ⟨fuel, hf⟩ := h
  obtain ⟨x, hcs, hok, hbk⟩ := open_k hB (K.arr n k) hk hf (fun n hn => by simpa using List.all_eq_true.1 hsz _ (DataW.weights_mem_each ht hd n hn))
  obtain ⟨e, hu, _⟩ := hk
  simp only [Value.okWide, hu] at hval
  obtain ⟨cs, rfl, _⟩ := hval
  refine ⟨x, ?_, hok, hbk⟩
  have h1 : cs.toList = x.flatMap k.cells := hcs
  rw [← h1]
end

/-- An element's cells. -/
theorem Rd.elem {α : Type} {f : α → List Value} {w : World} {g o n sz : Nat} {xs : List α} (h : Rd w (some ⟨g, o, none⟩) n sz (xs.flatMap f)) (hf : ∀ x ∈ xs, (f x).length = sz) (i : Nat) (hi : i < xs.length) : w.rangeAt g (o + i * sz) (f xs[i]) := by
  intro j v hv
  have hj : j < sz := by rw [← hf _ (List.getElem_mem hi)]; exact (List.getElem?_eq_some_iff.1 hv).1
  have h1 := flatMap_get xs hf i hi j hj
  have := h.cells rfl (i * sz + j) v (by rw [h1, hv])
  rwa [add_new, ← Nat.add_assoc] at this
theorem Rd.block {w : World} {A : Option Addr} {n size : Nat} {xs : List Value} (h : Rd w A n size xs) (hl : 0 < xs.length) : ∃ g o, A = some ⟨g, o, none⟩ ∧ g < w.heap.size := by
  obtain ⟨g, o, rfl, hc⟩ := h.form hl
  exact ⟨g, o, rfl, by have := block_lt_of_cell (hc 0 _ (List.getElem?_eq_getElem hl)); exact this⟩
/-- Bytes, read as a slice of whole numbers. -/
def toB (xs : List Int) : List UInt8 := xs.map fun n => UInt8.ofNat n.toNat
theorem length_toB (xs : List Int) : (toB xs).length = xs.length := by simp [toB]
theorem cells_toB (w : World) : ∀ (xs : List Int), (∀ x ∈ xs, (K.int .u8).ok w x) → List.flatMap (α := (K.int .u8).V) (K.int .u8).cells xs = encB (toB xs)
  | [], _ => rfl
  | y :: ys, h => by
    have h1 : (Lit.int .u8 y).wf = true := h y (by simp)
    have h2 : 0 ≤ y ∧ y ≤ 255 := by simpa [Lit.wf, IntKind.min, IntKind.max, IntKind.signed, IntKind.bits] using h1
    have ih := cells_toB w ys (fun x hx => h x (by simp [hx]))
    show Value.int .u8 y :: List.flatMap (α := (K.int .u8).V) (K.int .u8).cells ys = Value.int .u8 _ :: encB (toB ys)
    rw [ih]
    rw [show ((UInt8.ofNat y.toNat).toNat : Int) = y by rw [UInt8.toNat_ofNat']; omega]
theorem RdB.of_k {w : World} {A : Option Addr} {c : Nat} {xs : List Int} (h : (K.slice 1 (K.int .u8)).ok w ((A, c), xs)) : RdB w A (toB xs) ∧ (toB xs).length ≤ c ∧ (toB xs).length ≤ 140737488351232 := by
  obtain ⟨hc, hb, hr, hx⟩ := h
  have hc' : List.length xs ≤ c := hc
  have hb' : List.length xs * 1 ≤ 140737488351232 := hb
  have hr' : Rd w A (List.length xs) 1 (List.flatMap (α := (K.int .u8).V) (K.int .u8).cells xs) := hr
  rw [cells_toB w xs hx, ← length_toB] at hr'
  exact ⟨hr', by rw [length_toB]; exact hc', by rw [length_toB]; omega⟩
/-- A row of bytes of a fixed length. -/
theorem arrB_of_k {w : World} {n : Nat} {xs : List Int} (h : (K.arr n (K.int .u8)).ok w xs) : (K.arr n (K.int .u8)).cells xs = encB (toB xs) ∧ (toB xs).length = n := by
  obtain ⟨hl, hx⟩ := h
  exact ⟨cells_toB w xs hx, by rw [length_toB]; exact hl⟩
theorem bulk_len {b : Nat} {k : K} {hd : Option Addr × Nat} (h : ∀ x : k.V, 1 ≤ k.bulk x) : ∀ xs : List k.V, xs.length ≤ (K.slice b k).bulk (hd, xs)
  | [] => Nat.zero_le _
  | y :: ys => by
    have h1 := h y
    have ih : ys.length ≤ (ys.map k.bulk).sum := bulk_len (b := b) (hd := hd) h ys
    show (y :: ys).length ≤ ((y :: ys).map k.bulk).sum
    rw [List.map_cons, List.sum_cons, List.length_cons]
    omega
theorem bulk_ints {b : Nat} {q : IntKind} {hd : Option Addr × Nat} : ∀ xs : List Int, (K.slice b (K.int q)).bulk (hd, xs) = xs.length
  | [] => rfl
  | y :: ys => by
    have ih : (List.map (K.int q).bulk ys).sum = ys.length := bulk_ints (b := b) (hd := hd) ys
    show 1 + (List.map (K.int q).bulk ys).sum = ys.length + 1
    rw [ih]
    omega
theorem bulk_mem {b : Nat} {k : K} {hd : Option Addr × Nat} {xs : List k.V} {x : k.V} (h : x ∈ xs) : k.bulk x ≤ (K.slice b k).bulk (hd, xs) := le_sum (f := k.bulk) xs h
/-- What a slice shows is there while its block is. -/
theorem Rd.elems {α : Type} {f : α → List Value} {w : World} {A : Option Addr} {n sz : Nat} {xs : List α} (h : Rd w A n sz (xs.flatMap f)) (hf : ∀ x ∈ xs, (f x).length = sz) (hs : 0 < sz) (hl : 0 < xs.length) :
    ∃ g o, A = some ⟨g, o, none⟩ ∧ g < w.heap.size ∧ ∀ i (hi : i < xs.length), w.rangeAt g (o + i * sz) (f xs[i]) := by
  have h0 : 0 < (xs.flatMap f).length := by
    rcases xs with _ | ⟨y, ys⟩
    · simp at hl
    · have := hf y (by simp); simp; omega
  obtain ⟨g, o, rfl, hg⟩ := h.block h0
  exact ⟨g, o, rfl, hg, fun i hi => h.elem hf i hi⟩
theorem rangeAt_keeps {S : List Nat} {w w' : World} {g o : Nat} {cs : List Value} (h : w.rangeAt g o cs) (hk : Keeps S w w') (hg : g ∉ S) : w'.rangeAt g o cs := fun j v hv => hk.cell (h j v hv) hg
end Go.Proofs.YtljinghhalcnnaaDoor
namespace Go.Proofs.YtljinghhalcnnaaDoor
open Go.RowKit

/-- A part: its kind. -/
abbrev KOp : K := K.pair K.bool (K.pair (K.int .i64) (K.pair (K.int .i64) (K.pair (K.slice 1 (K.int .u8)) K.nil)))
abbrev OpV : Type := Bool × Int × Int × ((Option Addr × Nat) × List Int) × Unit
def OpV.pt (x : OpV) : Pt := ⟨⟨x.1, x.2.1, x.2.2.1, toB x.2.2.2.1.2⟩, x.2.2.2.1.1.1, x.2.2.2.1.1.2⟩
/-- What is known of a part. -/
structure Pt.fine (w : World) (t : Pt) : Prop where
  rd : RdB w t.A t.p.b
  fr : -9223372036854775808 ≤ t.p.fr ∧ t.p.fr ≤ 9223372036854775807
  ln : -9223372036854775808 ≤ t.p.ln ∧ t.p.ln ≤ 9223372036854775807
  le : t.p.b.length ≤ 140737488351232
theorem Pt.fine.keeps0 {w w' : World} {t : Pt} (h : t.fine w) (hk : Keeps [] w w') : t.fine w' := ⟨h.rd.keeps0 hk, h.fr, h.ln, h.le⟩
theorem OpV.fine_of {w : World} {x : OpV} (h : (K.st KOp).ok w x) : (K.st KOp).cells x = x.pt.cells ∧ x.pt.fine w := by
  obtain ⟨_, h1, h2, h3, _⟩ := h
  have hb := RdB.of_k h3
  have hw1 : (Lit.int .i64 x.2.1).wf = true := h1
  have hw2 : (Lit.int .i64 x.2.2.1).wf = true := h2
  have hr1 : -9223372036854775808 ≤ x.2.1 ∧ x.2.1 ≤ 9223372036854775807 := by simpa [Lit.wf, IntKind.min, IntKind.max, IntKind.signed, IntKind.bits] using hw1
  have hr2 : -9223372036854775808 ≤ x.2.2.1 ∧ x.2.2.1 ≤ 9223372036854775807 := by simpa [Lit.wf, IntKind.min, IntKind.max, IntKind.signed, IntKind.bits] using hw2
  refine ⟨?_, ⟨hb.1, hr1, hr2, hb.2.2⟩⟩
  have e2 : (toB x.2.2.2.1.2).length = x.2.2.2.1.2.length := length_toB _
  unfold Pt.cells OpV.pt
  simp only
  rw [e2]
  rfl
/-- Parts that are handed in. -/
theorem ops_of_k {w : World} {A : Option Addr} {c : Nat} {xs : List OpV} (h : (K.slice 48 (K.st KOp)).ok w ((A, c), xs)) : Rd w A (xs.map OpV.pt).length 4 (encPt (xs.map OpV.pt)) ∧ ∀ t ∈ xs.map OpV.pt, t.fine w := by
  have hok := h.2.2.2
  have e1 : xs.flatMap (K.st KOp).cells = encPt (xs.map OpV.pt) := by
    unfold encPt
    rw [List.flatMap_map]
    have e2 : ∀ ys : List OpV, (∀ s ∈ ys, (K.st KOp).ok w s) → ys.flatMap (K.st KOp).cells = ys.flatMap fun x => x.pt.cells := fun ys => by
      induction ys with
      | nil => intro _; rfl
      | cons y ys ih =>
        intro hy
        show (K.st KOp).cells y ++ ys.flatMap (K.st KOp).cells = y.pt.cells ++ ys.flatMap fun x => x.pt.cells
        have h1 := ih (fun s hs => hy s (List.mem_cons_of_mem y hs))
        have h2 := (OpV.fine_of (hy y List.mem_cons_self)).1
        rw [h1, h2]
    exact e2 xs hok
  refine ⟨?_, fun t ht => ?_⟩
  · rw [List.length_map, ← e1]
    exact h.2.2.1
  · obtain ⟨x, hx, rfl⟩ := List.mem_map.1 ht
    exact (OpV.fine_of (hok x hx)).2
end Go.Proofs.YtljinghhalcnnaaDoor
namespace Go.Proofs.YtljinghhalcnnaaDoor
open Go.RowKit

/-- How many bits 1 a byte begins with. -/
def lead (b : UInt8) : Nat := 8 - Lib.bitLen (255 - b.toNat)
theorem lead_fin : ∀ b : Fin 256, (8 - Lib.bitLen (255 - b.val)) ≤ 8 ∧ Lib.bitLen (255 - b.val) ≤ 8 ∧ 256 - 2 ^ (8 - (8 - Lib.bitLen (255 - b.val))) ≤ b.val ∧
    ((8 - Lib.bitLen (255 - b.val)) < 8 → b.val - (256 - 2 ^ (8 - (8 - Lib.bitLen (255 - b.val)))) < 2 ^ (7 - (8 - Lib.bitLen (255 - b.val)))) ∧ ((8 - Lib.bitLen (255 - b.val)) = 8 → b.val = 255) ∧
    bits .andNot .u8 (b.val : Int) ((256 - 2 ^ (8 - (8 - Lib.bitLen (255 - b.val))) : Nat) : Int) = ((b.val - (256 - 2 ^ (8 - (8 - Lib.bitLen (255 - b.val)))) : Nat) : Int) := by decide +kernel
theorem lead_le (b : UInt8) : lead b ≤ 8 := by unfold lead; omega
theorem lead_bit (b : UInt8) : (8 - (Lib.bitLen (255 - b.toNat) : Int)) = (lead b : Int) := by
  have := (lead_fin ⟨b.toNat, b.toNat_lt⟩).2.1
  unfold lead
  simp only at this
  omega
theorem lead_head (b : UInt8) : 256 - 2 ^ (8 - lead b) ≤ b.toNat := (lead_fin ⟨b.toNat, b.toNat_lt⟩).2.2.1
theorem lead_tail (b : UInt8) (h : lead b < 8) : b.toNat - (256 - 2 ^ (8 - lead b)) < 2 ^ (7 - lead b) := (lead_fin ⟨b.toNat, b.toNat_lt⟩).2.2.2.1 h
theorem lead_all (b : UInt8) (h : lead b = 8) : b.toNat = 255 := (lead_fin ⟨b.toNat, b.toNat_lt⟩).2.2.2.2.1 h
theorem lead_andNot (b : UInt8) : bits .andNot .u8 (b.toNat : Int) ((256 - 2 ^ (8 - lead b) : Nat) : Int) = ((b.toNat - (256 - 2 ^ (8 - lead b)) : Nat) : Int) := (lead_fin ⟨b.toNat, b.toNat_lt⟩).2.2.2.2.2
theorem not_byte (b : UInt8) : bits .xor .u8 IntKind.u8.max (b.toNat : Int) = ((255 - b.toNat : Nat) : Int) := by
  have : ∀ b : Fin 256, bits .xor .u8 IntKind.u8.max (b.val : Int) = ((255 - b.val : Nat) : Int) := by decide +kernel
  exact this ⟨b.toNat, b.toNat_lt⟩

/-- A number, and more bytes of it. -/
def acc (n : Nat) (l : List UInt8) : Nat := l.foldl (fun n c => n * 256 + c.toNat) n
theorem acc_snoc (n : Nat) (l : List UInt8) (c : UInt8) : acc n (l ++ [c]) = acc n l * 256 + c.toNat := by simp [acc]
theorem acc_lt (n : Nat) (l : List UInt8) (B : Nat) (h : n < B) : acc n l < B * 256 ^ l.length := by
  induction l generalizing n B with
  | nil => simpa [acc] using h
  | cons c l ih =>
    have hc := c.toNat_lt
    have := ih (n * 256 + c.toNat) (B * 256) (by omega)
    show acc (n * 256 + c.toNat) l < _
    rw [List.length_cons, Nat.pow_succ, Nat.mul_comm (256 ^ l.length), ← Nat.mul_assoc]
    exact this
/-- What a first byte has of its number. -/
def tail (b : UInt8) : Nat := b.toNat - (256 - 2 ^ (8 - lead b))
theorem tail_lt (b : UInt8) : tail b * 256 ^ lead b < 2 ^ 64 ∧ (∀ j, j < lead b → (tail b + 1) * 256 ^ j ≤ 2 ^ 56) := by
  have h8 := lead_le b
  have hj : ∀ j, (256 : Nat) ^ j = 2 ^ (8 * j) := fun j => by rw [Nat.pow_mul]
  by_cases h : lead b < 8
  · have ht := lead_tail b h
    unfold tail
    constructor
    · have := Nat.mul_lt_mul_of_pos_right ht (show 0 < 256 ^ lead b from Nat.pow_pos (by omega))
      refine Nat.lt_of_lt_of_le this ?_
      rw [hj, ← Nat.pow_add]
      exact Nat.pow_le_pow_right (by omega) (by omega)
    · intro j hjl
      refine Nat.le_trans (Nat.mul_le_mul_right _ ht) ?_
      rw [hj, ← Nat.pow_add]
      exact Nat.pow_le_pow_right (by omega) (by omega)
  · have h' : lead b = 8 := by omega
    have hb := lead_all b h'
    unfold tail
    rw [hb, h']
    refine ⟨by decide, fun j hjl => ?_⟩
    rw [hj]
    simpa using Nat.pow_le_pow_right (show 0 < 2 by omega) (show 8 * j ≤ 56 by omega)
/-- Ahead of each byte but the last one the number is small. -/
theorem acc_small (b : UInt8) (l : List UInt8) (j : Nat) (hj : j < lead b) : acc (tail b) (l.take j) < 2 ^ 56 := by
  have h1 := acc_lt (tail b) (l.take j) (tail b + 1) (by omega)
  refine Nat.lt_of_lt_of_le h1 (Nat.le_trans (Nat.mul_le_mul_left _ (Nat.pow_le_pow_right (by omega) (show (l.take j).length ≤ j by simp; omega))) ((tail_lt b).2 j hj))
theorem acc_all (b : UInt8) (l : List UInt8) (hl : lead b ≤ l.length) : acc (tail b) (l.take (lead b)) < 2 ^ 64 := by
  rcases Nat.eq_zero_or_pos (lead b) with h | h
  · rw [h, List.take_zero]
    show tail b < _
    have := b.toNat_lt
    unfold tail; omega
  · have hs := acc_small b l (lead b - 1) (by omega)
    have e : l.take (lead b) = l.take (lead b - 1) ++ [l[lead b - 1]] := by
      have := List.take_succ_eq_append_getElem (l := l) (i := lead b - 1) (by omega)
      rwa [show lead b - 1 + 1 = lead b by omega] at this
    rw [e, acc_snoc]
    have := (l[lead b - 1]).toNat_lt
    omega

/-- The number that bytes begin with, how many bytes it has, an error. -/
def numB : List UInt8 → Nat × Nat × Int
  | [] => (0, 0, 12)
  | b :: t => if t.length < lead b then (0, 0, 12) else if bh (acc (tail b) (t.take (lead b))) = lead b then (acc (tail b) (t.take (lead b)), lead b + 1, 0) else (0, 0, 3)
theorem numB_cons (b : UInt8) (t : List UInt8) : numB (b :: t) = if t.length < lead b then (0, 0, 12) else if bh (acc (tail b) (t.take (lead b))) = lead b then (acc (tail b) (t.take (lead b)), lead b + 1, 0) else (0, 0, 3) := rfl
theorem numB_lt (l : List UInt8) : (numB l).1 < 2 ^ 64 ∧ (numB l).2.1 ≤ 9 ∧ (numB l).2.1 ≤ l.length ∧ ((numB l).2.2 = 0 ∨ (numB l).2.2 = 12 ∨ (numB l).2.2 = 3) := by
  cases l with
  | nil => simp [numB]
  | cons b t =>
    have := lead_le b
    rw [numB_cons]
    split
    · simp
    · split
      · refine ⟨acc_all b t (by omega), by show lead b + 1 ≤ 9; omega, by simp; omega, .inl rfl⟩
      · simp
end Go.Proofs.YtljinghhalcnnaaDoor
namespace Go.Proofs.YtljinghhalcnnaaDoor
open Go.RowKit
def errV (n : Int) : Value := if n = 0 then .nilIface else .iface 58 (.int .i64 n)
theorem errV_zero : errV 0 = .nilIface := rfl
theorem errV_other {n : Int} (h : n ≠ 0) : errV n = .iface 58 (.int .i64 n) := if_neg h
end Go.Proofs.YtljinghhalcnnaaDoor
