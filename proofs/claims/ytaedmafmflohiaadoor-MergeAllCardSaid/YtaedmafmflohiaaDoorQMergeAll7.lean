/- One step: a contract. Many rows in order as one: plain lists. No program is named here. -/
import Derived.Test.YtaedmafmflohiaaDoorQMergeAll6
import Derived.Test.YtaedmafmflohiaaDoorQMergeAll3
import Derived.Test.YtaedmafmflohiaaDoorQMergeAll4
namespace Go.Proofs.YtaedmafmflohiaaDoor
open Go.RowKit

/-- What is left of an order behind its first entry. -/
def nxt (o : Od) : Od := ⟨o.rk, secA o.A 1 o.c 3, o.c - 1, o.es.tail⟩
/-- What is left of all behind a step. -/
def after : List Od → List Od
  | [] => []
  | o :: T => if o.es.tail = [] then T else nxt o :: T
theorem after_cons (o : Od) (T : List Od) : after (o :: T) = if o.es.tail = [] then T else nxt o :: T := rfl
/-- A reader that has something left. -/
structure RS (w : World) (gR g c : Nat) (H : List Od) (b : Bool) (last : List UInt8) : Prop where
  blk : w.heap[gR]? = some (.cells #[.slice (some ⟨g, 0, none⟩) H.length c, .bool b, .string (strB last)] 48 (0, 0))
  hs : HS w gR g c H
  le : H.length ≤ 1000
  ne : ∀ o ∈ H, o.es ≠ [] ∧ o.es.length ≤ o.c ∧ o.es.length ≤ 1000
  hp : HeapX ltO H 0 H.length
theorem nxt_ok {w : World} {o : Od} {e : En} {es : List En} (he : o.es = e :: es) (hc : o.es.length ≤ o.c) (h : Rd w o.A o.es.length 3 (encEn o.es)) : Rd w (nxt o).A (nxt o).es.length 3 (encEn (nxt o).es) := by
  have hl : o.es.length = es.length + 1 := by rw [he]; rfl
  have h2 := h.sec 1 es.length o.c (by omega) (by omega)
  have e2 : ((encEn o.es).drop (1 * 3)).take (es.length * 3) = encEn es := by
    rw [he]
    show ((encEn (e :: es)).drop 3).take _ = _
    rw [encEn_cons, List.drop_left' (by simp), List.take_of_length_le (by rw [encEn_len]; omega)]
  rw [e2] at h2
  have e3 : (nxt o).es = es := by unfold nxt; rw [he]; rfl
  rw [e3]
  exact h2
theorem enc_nxt {o : Od} {T : List Od} : (encOd (o :: T)).set 1 (.slice (nxt o).A (nxt o).es.length (nxt o).c) = encOd (nxt o :: T) := by
  rw [encOd_cons, encOd_cons]
  rfl
/-- Behind the order's cut. -/
structure StepW (w W : World) (gR g c : Nat) (o : Od) (T : List Od) (e : En) (b : Bool) (last : List UInt8) : Prop where
  z : W.heap[w.heap.size]? = some (.cells #[.string ⟨#[]⟩, .string ⟨#[]⟩, .bool false] 39 (0, 0))
  e : W.heap[w.heap.size + 1]? = some (.cells #[.string (strB e.k), .string (strB e.v), .bool e.g] 39 (0, 0))
  blk : W.heap[gR]? = some (.cells #[.slice (some ⟨g, 0, none⟩) (nxt o :: T).length c, .bool b, .string (strB last)] 48 (0, 0))
  hs : HS W gR g c (nxt o :: T)
  kp : Keeps [g] w W
theorem StepW.make {gR g c : Nat} {o : Od} {T : List Od} {e : En} {es : List En} {b : Bool} {last : List UInt8} {w : World} (hr : RS w gR g c (o :: T) b last) (he : o.es = e :: es) :
    StepW w (((w.setCell ⟨g, 1, none⟩ (.slice (nxt o).A (nxt o).es.length (nxt o).c)).alloc (.cells #[.string ⟨#[]⟩, .string ⟨#[]⟩, .bool false] 39)).alloc (.cells #[.string (strB e.k), .string (strB e.v), .bool e.g] 39)) gR g c o T e b last := by
  obtain ⟨V, hV⟩ : ∃ V, V = w.setCell ⟨g, 1, none⟩ (.slice (nxt o).A (nxt o).es.length (nxt o).c) := ⟨_, rfl⟩
  have hk : Keeps [g] w V := by rw [hV]; exact (Keeps.refl [g] w).setCell (p := ⟨g, 1, none⟩) (.inl (by simp)) _
  have hsz : V.heap.size = w.heap.size := by rw [hV]; exact World.size_setCell _ _ _
  have ho : OwnOd V (some ⟨g, 0, none⟩) c (nxt o :: T) := by
    have k1 := World.ownsRow.stored hr.hs.own 1 (.slice (nxt o).A (nxt o).es.length (nxt o).c)
    unfold OwnOd
    rw [← enc_nxt, hV]
    exact k1.1
  have hS : HS V gR g c (nxt o :: T) := ⟨hk.cell hr.hs.cell (by simpa using hr.hs.ne), ho, hr.hs.ne, fun x hx => by
    rcases List.mem_cons.1 hx with rfl | hx
    · refine ⟨nxt_ok he (hr.ne o (by simp)).2.1 ((hr.hs.rd o (by simp)).1.keeps hk (fun a e _ => by simpa using ((hr.hs.rd o (by simp)).2 a e).1)), fun a ha => ?_⟩
      obtain ⟨b, hb, hbb⟩ := secA_block ha
      rw [hbb]
      exact (hr.hs.rd o (by simp)).2 b hb
    · exact ⟨(hr.hs.rd x (by simp [hx])).1.keeps hk (fun a e _ => by simpa using ((hr.hs.rd x (by simp [hx])).2 a e).1), (hr.hs.rd x (by simp [hx])).2⟩⟩
  have hb : V.heap[gR]? = some (.cells #[.slice (some ⟨g, 0, none⟩) (nxt o :: T).length c, .bool b, .string (strB last)] 48 (0, 0)) := (hk.block gR (lt_of_block hr.blk) (by simpa using hr.hs.ne)).trans hr.blk
  rw [← hV]
  have k2 : Keeps [] V (V.alloc (.cells #[.string ⟨#[]⟩, .string ⟨#[]⟩, .bool false] 39)) := (Keeps.refl [] V).alloc _
  obtain ⟨V2, hV2⟩ : ∃ V2, V2 = V.alloc (.cells #[.string ⟨#[]⟩, .string ⟨#[]⟩, .bool false] 39) := ⟨_, rfl⟩
  have hz : V2.heap[w.heap.size]? = some (.cells #[.string ⟨#[]⟩, .string ⟨#[]⟩, .bool false] 39 (0, 0)) := by rw [hV2, ← hsz]; exact heap_alloc_new _ _
  have hsz2 : V2.heap.size = w.heap.size + 1 := by rw [hV2, ← hsz]; show (V.heap.push _).size = _; rw [Array.size_push]
  rw [← hV2] at k2 ⊢
  have k3 := (Keeps.refl [] V2).alloc (.cells #[.string (strB e.k), .string (strB e.v), .bool e.g] 39)
  have k4 := k2.trans k3 (by simp)
  exact ⟨(k3.block _ (lt_of_block hz) (by simp)).trans hz, by rw [← hsz2]; exact heap_alloc_new _ _, (k4.block _ (lt_of_block hb) (by simp)).trans hb, hS.keeps0 k4, hk.trans k4 (by simp)⟩
theorem stepW_end {w W w5 : World} {gR g c : Nat} {o : Od} {T H' : List Od} {e : En} {es : List En} {b : Bool} {last : List UInt8} (hr : RS w gR g c (o :: T) b last) (he : o.es = e :: es) (hw : StepW w W gR g c o T e b last)
    (hp : H'.Perm (after (o :: T))) (hh : HeapX ltO H' 0 H'.length) (hs : HS w5 gR g c H') (hb : w5.heap[gR]? = some (.cells #[.slice (some ⟨g, 0, none⟩) H'.length c, .bool b, .string (strB last)] 48 (0, 0))) (hk : Keeps [g, gR] W w5) :
    H'.Perm (after (o :: T)) ∧ (RS w5 gR g c H' b last ∧ Keeps [g, gR] w w5) ∧ w5.heap[w.heap.size]? = some (.cells #[.string ⟨#[]⟩, .string ⟨#[]⟩, .bool false] 39 (0, 0)) ∧ w5.heap[w.heap.size + 1]? = some (.cells #[.string (strB e.k), .string (strB e.v), .bool e.g] 39 (0, 0)) ∧ gR < w.heap.size ∧ g < w.heap.size ∧ (∀ x ∈ H', ∀ a, x.A = some a → a.block < w.heap.size) := by
  have l1 := lt_of_block hr.blk
  have l2 : g < w.heap.size := block_lt_of_cell (hr.hs.own.at_ (i := 0) (by simp)).1
  have hA : ∀ x ∈ o :: T, ∀ a, x.A = some a → a.block < w.heap.size := fun x hx a e => (hr.hs.rd x hx).1.lt (by rw [encEn_len]; have := List.length_pos_iff.2 (hr.ne x hx).1; omega) e
  refine ⟨hp, ⟨⟨hb, hs, ?_, fun x hx => ?_, hh⟩, (hw.kp.mono (by simp)).trans hk (by simp)⟩, (hk.block _ (lt_of_block hw.z) (by simp; omega)).trans hw.z, (hk.block _ (lt_of_block hw.e) (by simp; omega)).trans hw.e, l1, l2, fun x hx a e => ?_⟩
  · rw [hp.length_eq, after_cons]
    have := hr.le
    rw [List.length_cons] at this
    split
    · omega
    · rw [List.length_cons]; omega
  · have hx2 := hp.mem_iff.1 hx
    rw [after_cons] at hx2
    split at hx2
    · exact hr.ne x (List.mem_cons_of_mem _ hx2)
    · rename_i hne
      rcases List.mem_cons.1 hx2 with rfl | h3
      · have h4 := hr.ne o (by simp)
        rw [he] at h4
        have h5 : (nxt o).es = es := by unfold nxt; rw [he]; rfl
        refine ⟨hne, ?_, ?_⟩
        · rw [h5]
          show es.length ≤ o.c - 1
          have := h4.2.1
          simp at this
          omega
        · rw [h5]
          have := h4.2.2
          simp at this
          omega
      · exact hr.ne x (List.mem_cons_of_mem _ h3)
  · have hx2 := hp.mem_iff.1 hx
    rw [after_cons] at hx2
    split at hx2
    · exact hA x (List.mem_cons_of_mem _ hx2) a e
    · rcases List.mem_cons.1 hx2 with rfl | h3
      · obtain ⟨b, hb2, hbb⟩ := secA_block e
        rw [hbb]
        exact hA o (by simp) b hb2
      · exact hA x (List.mem_cons_of_mem _ h3) a e
theorem step_end {w w5 w6 : World} {gR g c gz : Nat} {o : Od} {T H' : List Od} {e : En} {b : Bool} {last : List UInt8}
    (h : H'.Perm (after (o :: T)) ∧ (RS w5 gR g c H' b last ∧ Keeps [g, gR] w w5) ∧ w5.heap[w.heap.size]? = some (.cells #[.string ⟨#[]⟩, .string ⟨#[]⟩, .bool false] 39 (0, 0)) ∧ w5.heap[w.heap.size + 1]? = some (.cells #[.string (strB e.k), .string (strB e.v), .bool e.g] 39 (0, 0)) ∧ gR < w.heap.size ∧ g < w.heap.size ∧ (∀ x ∈ H', ∀ a, x.A = some a → a.block < w.heap.size))
    (hz : gz = w.heap.size) (hk : Keeps [gz] w5 w6) :
    ∃ H', Ending.returned (Value.agg #[.string (strB e.k), .string (strB e.v), .bool e.g]) = .returned e.val ∧ H'.Perm (after (o :: T)) ∧ RS w6 gR g c H' b last ∧ Keeps [g, gR] w w6 := by
  obtain ⟨hp, ⟨hr, hk5⟩, _, _, l1, l2, l3⟩ := h
  refine ⟨H', rfl, hp, ⟨(hk.block gR (by have := hk5.size; omega) (by simp; omega)).trans hr.blk, ⟨hk.cell hr.hs.cell (by simp; omega), ownsRow_keeps hr.hs.own hk (fun a e => by cases e; simp; omega), hr.hs.ne, fun x hx => ⟨(hr.hs.rd x hx).1.keeps hk (fun a e _ => by have := l3 x hx a e; simp; omega), (hr.hs.rd x hx).2⟩⟩, hr.le, hr.ne, hr.hp⟩, hk5.trans hk (fun t ht => .inr (by simp at ht; omega))⟩
set_option maxRecDepth 100000 in
set_option maxHeartbeats 8000000 in
theorem step_any (gR g c : Nat) (o : Od) (T : List Od) (e : En) (es : List En) (b : Bool) (last : List UInt8) (w : World) (hr : RS w gR g c (o :: T) b last) (he : o.es = e :: es) :
    Calls Tryd.prog 19 #[.pointer (some ⟨gR, 0, none⟩)] w fun r w' => ∃ H', r = .returned e.val ∧ H'.Perm (after (o :: T)) ∧ RS w' gR g c H' b last ∧ Keeps [g, gR] w w' := by
  have HR := Lib.hid hr
  have HE := Lib.hid he
  have HLC := Lib.hid (hr.ne o (by simp))
  have k0 := hr.hs.cell
  obtain ⟨a0, a1⟩ := hr.hs.own.at_ (i := 0) (by simp)
  rw [Nat.zero_mul] at a0 a1
  simp only [List.getElem_cons_zero, Nat.zero_add] at a0 a1
  have hlen : o.es.length = es.length + 1 := by rw [he]; rfl
  obtain ⟨go, oo, hA, x0, x1, x2⟩ := en_cells (hr.hs.rd o (by simp)).1 (i := 0) (by omega)
  simp only [he, List.getElem_cons_zero, Nat.zero_mul, Nat.add_zero] at x0 x1 x2
  obtain ⟨n, hn⟩ : ∃ n, n = (o :: T).length := ⟨_, rfl⟩
  obtain ⟨m, hm⟩ : ∃ m, m = o.es.length := ⟨_, rfl⟩
  obtain ⟨cx, hcx⟩ : ∃ cx, cx = o.c := ⟨_, rfl⟩
  have HN := Lib.hid (show n = (o :: T).length ∧ m = o.es.length ∧ m = es.length + 1 ∧ cx = o.c ∧ o.A = some ⟨go, oo, none⟩ from ⟨hn, hm, by omega, hcx, hA⟩)
  rw [← hn] at k0
  rw [← hm, hA, ← hcx] at a1
  have hn0 : 0 < n := by rw [hn]; simp
  have hm0 : 0 < m := by omega
  have hmc : m ≤ cx := by have := HLC.out; omega
  have fz : ∀ j, w.frozen? ⟨g, j, none⟩ = false := fun j => World.ownsRow.frozenAt hr.hs.own j
  have l1 : gR < w.heap.size := block_lt_of_cell k0
  have l2 : g < w.heap.size := block_lt_of_cell a0
  have l3 : go < w.heap.size := block_lt_of_cell x0
  clear hr he hlen hn hm hcx hA
  go_enter Tryd.func19, Tryd.ntmps19
  obtain ⟨V1, hV1⟩ : ∃ V1, V1 = Value.slice (nxt o).A (nxt o).es.length (nxt o).c := ⟨_, rfl⟩
  obtain ⟨m1, hm1⟩ : ∃ m1, m1 = m - 1 := ⟨_, rfl⟩
  obtain ⟨A1, hA1⟩ : ∃ A1, A1 = secA (some ⟨go, oo, none⟩) 1 cx 3 := ⟨_, rfl⟩
  obtain ⟨c1, hc1⟩ : ∃ c1, c1 = cx - 1 := ⟨_, rfl⟩
  have HV1 := Lib.hid (show Value.slice A1 m1 c1 = V1 ∧ m1 = es.length ∧ (nxt o).es = es from by
    have h5 := HN.out
    have h6 : (nxt o).es = es := by unfold nxt; rw [HE.out]; rfl
    refine ⟨?_, by omega, h6⟩
    rw [hV1, h6, hA1, hm1, hc1, ← h5.2.2.2.2, h5.2.2.2.1, h5.2.2.1]
    rfl)
  have HM1 := Lib.hid (And.intro hm1 (And.intro hA1 hc1))
  clear hm1 hA1 hc1
  have HST := Lib.hid (StepW.make HR.out HE.out)
  rw [← hV1, ← HV1.out.1] at HST
  clear hV1
  have HAL := Lib.hid hm0
  cases hes : es with
  | nil =>
    obtain rfl : m1 = 0 := by rw [HV1.out.2.1, hes]; rfl
    have HES := Lib.hid (show (nxt o).es = [] from by rw [HV1.out.2.2, hes])
    clear hes
    go_wp2_with (refine wpList_sec rfl 26 (.tmp 20) (some (.const (.int .i64 1))) none none rfl Tryd.underlying26 infoEn3 (some ⟨go, oo, none⟩) m cx 1 m cx rfl (Bnd.at_ (n := 1) (k := .i64) rfl) Bnd.no Bnd.no (by omega) (by omega) (Nat.le_refl _) (by simp) ?_; rw [← HM1.out.1, ← HM1.out.2.1, ← HM1.out.2.2])
    have HW := HST
    obtain ⟨W0, hW0⟩ : ∃ W0, W0 = (((w.setCell ⟨g, 1, none⟩ (.slice A1 0 c1)).alloc (.cells #[.string ⟨#[]⟩, .string ⟨#[]⟩, .bool false] 39)).alloc (.cells #[.string (strB e.k), .string (strB e.v), .bool e.g] 39)) := ⟨_, rfl⟩
    rw [← hW0] at HW ⊢
    clear hW0 HST k0 a0 a1 x0 x1 x2 fz
    refine (hpop_any gR g c T.length (nxt o :: T) _ _ W0 rfl HW.out.hs HW.out.blk (by have := HR.out.le; simpa using this) (fun t h ht => by
      cases t with
      | zero => omega
      | succ t => exact (HR.out.ne _ (List.mem_cons_of_mem _ (List.getElem_mem (by simpa using h)))).1) (by have := HR.out.hp.root (nxt o); simpa using this)).mono ?_
    rintro r w5 ⟨v, H', rfl, h1, h2, h3, h4, h5⟩
    have H5 := Lib.hid (stepW_end HR.out HE.out HW.out (by rw [after_cons, if_pos (show o.es.tail = [] from HES.out)]; exact h1) (by rw [h1.length_eq]; exact h2) h3 (by rw [h1.length_eq]; exact h4) h5)
    clear h1 h2 h3 h4 h5
    have z0 : w5.cell? ⟨w.heap.size, 0, none⟩ = some (.string ⟨#[]⟩) := by rw [cell_of_row _ _ _ _ _ _ H5.out.2.2.1]; rfl
    have z1 : w5.cell? ⟨w.heap.size, 1, none⟩ = some (.string ⟨#[]⟩) := by rw [cell_of_row _ _ _ _ _ _ H5.out.2.2.1]; rfl
    have z2 : w5.cell? ⟨w.heap.size, 2, none⟩ = some (.bool false) := by rw [cell_of_row _ _ _ _ _ _ H5.out.2.2.1]; rfl
    have y0 : w5.cell? ⟨w.heap.size + 1, 0, none⟩ = some (.string (strB e.k)) := by rw [cell_of_row _ _ _ _ _ _ H5.out.2.2.2.1]; rfl
    have y1 : w5.cell? ⟨w.heap.size + 1, 1, none⟩ = some (.string (strB e.v)) := by rw [cell_of_row _ _ _ _ _ _ H5.out.2.2.2.1]; rfl
    have y2 : w5.cell? ⟨w.heap.size + 1, 2, none⟩ = some (.bool e.g) := by rw [cell_of_row _ _ _ _ _ _ H5.out.2.2.2.1]; rfl
    have fz : ∀ j, w5.frozen? ⟨w.heap.size, j, none⟩ = false := fun j => frozen_of_row w5 _ j _ _ H5.out.2.2.1
    clear l1 l2 l3
    obtain ⟨gz, hgz⟩ : ∃ gz, gz = w.heap.size := ⟨_, rfl⟩
    rw [← hgz] at z0 z1 z2 y0 y1 y2 fz ⊢
    have HGZ := Lib.hid hgz
    clear hgz
    go_wp2_with fail
    have hks : Keeps [gz] w5 (((w5.setCell ⟨gz, 0, none⟩ (.string (strB e.k))).setCell ⟨gz, 1, none⟩ (.string (strB e.v))).setCell ⟨gz, 2, none⟩ (.bool e.g)) := (((Keeps.refl [gz] w5).setCell (p := ⟨gz, 0, none⟩) (.inl (by simp)) _).setCell (p := ⟨gz, 1, none⟩) (.inl (by simp)) _).setCell (p := ⟨gz, 2, none⟩) (.inl (by simp)) _
    have hrw : (((w5.setCell ⟨gz, 0, none⟩ (.string (strB e.k))).setCell ⟨gz, 1, none⟩ (.string (strB e.v))).setCell ⟨gz, 2, none⟩ (.bool e.g)).heap[gz]? = some (.cells #[.string (strB e.k), .string (strB e.v), .bool e.g] 39 (0, 0)) := by
      rw [heap_setCell_same _ gz 2 _ _ _ (heap_setCell_same _ gz 1 _ _ _ (heap_setCell_same _ gz 0 _ _ _ (by rw [HGZ.out]; exact H5.out.2.2.1)))]
      rfl
    refine bodyPost_ret (v := .agg #[.string (strB e.k), .string (strB e.v), .bool e.g]) (results_cell_row Tryd.results19 _ _ gz 39 _ (0, 0) _ rfl hrw Tryd.underlying39 rfl infoEn3) rfl ?_
    exact step_end H5.out HGZ.out hks
  | cons e2 es2 =>
    have hzi : ¬ (m1 : Int) = 0 := by rw [HV1.out.2.1, hes]; simp; omega
    have HES := Lib.hid (show (nxt o).es ≠ [] from by rw [HV1.out.2.2, hes]; simp)
    clear hes
    go_wp2_with (refine wpList_sec rfl 26 (.tmp 20) (some (.const (.int .i64 1))) none none rfl Tryd.underlying26 infoEn3 (some ⟨go, oo, none⟩) m cx 1 m cx rfl (Bnd.at_ (n := 1) (k := .i64) rfl) Bnd.no Bnd.no (by omega) (by omega) (Nat.le_refl _) (by simp) ?_; rw [← HM1.out.1, ← HM1.out.2.1, ← HM1.out.2.2])
    have HW := HST
    obtain ⟨W0, hW0⟩ : ∃ W0, W0 = (((w.setCell ⟨g, 1, none⟩ (.slice A1 m1 c1)).alloc (.cells #[.string ⟨#[]⟩, .string ⟨#[]⟩, .bool false] 39)).alloc (.cells #[.string (strB e.k), .string (strB e.v), .bool e.g] 39)) := ⟨_, rfl⟩
    rw [← hW0] at HW ⊢
    clear hW0 HST k0 a0 a1 x0 x1 x2 fz
    refine (fix_any gR g c (nxt o :: T) W0 HW.out.hs HR.out.le (fun x hx => by
      rcases List.mem_cons.1 hx with rfl | hx
      · exact HES.out
      · exact (HR.out.ne x (by simp [hx])).1) (by have := HR.out.hp.root (nxt o); simpa using this)).mono ?_
    rintro r w5 ⟨H', rfl, h1, h2, h3, h5⟩
    have H5 := Lib.hid (stepW_end HR.out HE.out HW.out (by rw [after_cons, if_neg (show ¬ o.es.tail = [] from HES.out)]; exact h1) (by rw [h1.length_eq]; exact h2) h3 (by rw [h1.length_eq]; exact (h5.block gR (lt_of_block HW.out.blk) (by simpa using HW.out.hs.ne)).trans HW.out.blk) (h5.mono (by simp)))
    clear h1 h2 h3 h5
    have z0 : w5.cell? ⟨w.heap.size, 0, none⟩ = some (.string ⟨#[]⟩) := by rw [cell_of_row _ _ _ _ _ _ H5.out.2.2.1]; rfl
    have z1 : w5.cell? ⟨w.heap.size, 1, none⟩ = some (.string ⟨#[]⟩) := by rw [cell_of_row _ _ _ _ _ _ H5.out.2.2.1]; rfl
    have z2 : w5.cell? ⟨w.heap.size, 2, none⟩ = some (.bool false) := by rw [cell_of_row _ _ _ _ _ _ H5.out.2.2.1]; rfl
    have y0 : w5.cell? ⟨w.heap.size + 1, 0, none⟩ = some (.string (strB e.k)) := by rw [cell_of_row _ _ _ _ _ _ H5.out.2.2.2.1]; rfl
    have y1 : w5.cell? ⟨w.heap.size + 1, 1, none⟩ = some (.string (strB e.v)) := by rw [cell_of_row _ _ _ _ _ _ H5.out.2.2.2.1]; rfl
    have y2 : w5.cell? ⟨w.heap.size + 1, 2, none⟩ = some (.bool e.g) := by rw [cell_of_row _ _ _ _ _ _ H5.out.2.2.2.1]; rfl
    have fz : ∀ j, w5.frozen? ⟨w.heap.size, j, none⟩ = false := fun j => frozen_of_row w5 _ j _ _ H5.out.2.2.1
    clear l1 l2 l3
    obtain ⟨gz, hgz⟩ : ∃ gz, gz = w.heap.size := ⟨_, rfl⟩
    rw [← hgz] at z0 z1 z2 y0 y1 y2 fz ⊢
    have HGZ := Lib.hid hgz
    clear hgz
    go_wp2_with fail
    have hks : Keeps [gz] w5 (((w5.setCell ⟨gz, 0, none⟩ (.string (strB e.k))).setCell ⟨gz, 1, none⟩ (.string (strB e.v))).setCell ⟨gz, 2, none⟩ (.bool e.g)) := (((Keeps.refl [gz] w5).setCell (p := ⟨gz, 0, none⟩) (.inl (by simp)) _).setCell (p := ⟨gz, 1, none⟩) (.inl (by simp)) _).setCell (p := ⟨gz, 2, none⟩) (.inl (by simp)) _
    have hrw : (((w5.setCell ⟨gz, 0, none⟩ (.string (strB e.k))).setCell ⟨gz, 1, none⟩ (.string (strB e.v))).setCell ⟨gz, 2, none⟩ (.bool e.g)).heap[gz]? = some (.cells #[.string (strB e.k), .string (strB e.v), .bool e.g] 39 (0, 0)) := by
      rw [heap_setCell_same _ gz 2 _ _ _ (heap_setCell_same _ gz 1 _ _ _ (heap_setCell_same _ gz 0 _ _ _ (by rw [HGZ.out]; exact H5.out.2.2.1)))]
      rfl
    refine bodyPost_ret (v := .agg #[.string (strB e.k), .string (strB e.v), .bool e.g]) (results_cell_row Tryd.results19 _ _ gz 39 _ (0, 0) _ rfl hrw Tryd.underlying39 rfl infoEn3) rfl ?_
    exact step_end H5.out HGZ.out hks
end Go.Proofs.YtaedmafmflohiaaDoor
namespace Go.Proofs.YtaedmafmflohiaaDoor
open Go.RowKit

/-- A row that has each key's entry of the first row that has one. -/
def IsM (Ls : List (List En)) (M : List En) : Prop := Srt M ∧ ∀ x, x ∈ M ↔ ∃ (r : Nat) (es : List En) (e : En), Ls[r]? = some es ∧ e ∈ es ∧ x = e.norm ∧ ∀ (r' : Nat) (es' : List En) (e' : En), r' < r → Ls[r']? = some es' → e' ∈ es' → e'.k ≠ e.k
structure MI (Ls : List (List En)) (M : List En) (H : List Od) (b : Bool) (last : List UInt8) (j : Nat) : Prop where
  rows : ∀ o ∈ H, ∃ pre, Ls[o.rk]? = some (pre ++ o.es)
  cover : ∀ (r : Nat) (es : List En) (x : En), Ls[r]? = some es → x ∈ es → (b = true → Op.bytesLess last x.k = true) → ∃ o ∈ H, o.rk = r ∧ x ∈ o.es
  above : b = true → ∀ o ∈ H, ∀ x ∈ o.es, Op.bytesLess x.k last = false
  at_ : if b then ∃ h : j - 1 < M.length, 1 ≤ j ∧ M[j - 1].k = last else j = 0
theorem MI.perm {Ls : List (List En)} {M : List En} {H H' : List Od} {b : Bool} {last : List UInt8} {j : Nat} (h : MI Ls M H b last j) (hp : H'.Perm H) : MI Ls M H' b last j :=
  ⟨fun o ho => h.rows o (hp.mem_iff.1 ho), fun r es x h1 h2 h3 => by
    obtain ⟨o, h4, h5⟩ := h.cover r es x h1 h2 h3
    exact ⟨o, hp.mem_iff.2 h4, h5⟩, fun hb o ho => h.above hb o (hp.mem_iff.1 ho), h.at_⟩
theorem MI.srt {Ls : List (List En)} {M : List En} {H : List Od} {b : Bool} {last : List UInt8} {j : Nat} (h : MI Ls M H b last j) (hS : ∀ es ∈ Ls, Srt es) {o : Od} (ho : o ∈ H) : Srt o.es := by
  obtain ⟨pre, hp⟩ := h.rows o ho
  exact (hS _ (List.mem_of_getElem? hp)).sublist (List.sublist_append_right _ _)
/-- The head is the least. -/
theorem srt_head {l : List En} (h : Srt l) {x : En} (hx : x ∈ l) : ¬ Op.bytesLess x.k (l.getD 0 zeroE).k = true := by
  cases l with
  | nil => cases hx
  | cons e l =>
    intro h2
    rcases List.mem_cons.1 hx with rfl | h3
    · have h2' : Op.bytesLess x.k x.k = true := h2
      rw [bl_same] at h2'; cases h2'
    · exact bl_not_both (h.head h3) h2
theorem od_k {o : Od} {e : En} {es : List En} (h : o.es = e :: es) : o.k = e.k := by unfold Od.k; rw [h]; rfl
/-- No key in any order is less than that of the least one's first. -/
theorem MI.least {Ls : List (List En)} {M : List En} {H : List Od} {b : Bool} {last : List UInt8} {j : Nat} (h : MI Ls M H b last j) (hS : ∀ es ∈ Ls, Srt es) {o o' : Od} (ht : ltO o' o = false) (ho : o' ∈ H) {x : En} (hx : x ∈ o'.es) : Op.bytesLess x.k o.k = false := by
  rw [Bool.eq_false_iff]
  intro h2
  have h3 := srt_head (h.srt hS ho) hx
  rw [Bool.eq_false_iff] at ht
  apply ht
  unfold ltO
  rcases bl_tri x.k o'.k with h4 | h4 | h4
  · exact absurd h4 h3
  · rw [← h4, h2]; rfl
  · rw [bl_trans h4 h2]; rfl
theorem mem_after {o x : Od} {T : List Od} (h : x ∈ after (o :: T)) : x ∈ T ∨ x = nxt o := by
  rw [after_cons] at h
  split at h
  · exact .inl h
  · rcases List.mem_cons.1 h with h | h
    · exact .inr h
    · exact .inl h
theorem MI.step {Ls : List (List En)} {M : List En} {o : Od} {T : List Od} {b : Bool} {last : List UInt8} {j : Nat} (h : MI Ls M (o :: T) b last j) {e : En} {es : List En} (he : o.es = e :: es) :
    (∀ y ∈ after (o :: T), ∃ pre, Ls[y.rk]? = some (pre ++ y.es)) ∧ (∀ y ∈ after (o :: T), ∀ x ∈ y.es, ∃ z ∈ o :: T, x ∈ z.es) ∧
      ∀ (B : Prop) (L : List UInt8), (∀ (r : Nat) (es : List En) (x : En), Ls[r]? = some es → x ∈ es → (B → Op.bytesLess L x.k = true) → (b = true → Op.bytesLess last x.k = true) ∧ x ≠ e) → ∀ (r : Nat) (es : List En) (x : En), Ls[r]? = some es → x ∈ es → (B → Op.bytesLess L x.k = true) → ∃ o' ∈ after (o :: T), o'.rk = r ∧ x ∈ o'.es := by
  have hn : (nxt o).es = es := by unfold nxt; rw [he]; rfl
  refine ⟨fun y hy => ?_, fun y hy x hx => ?_, fun B L hBL r es2 x h1 h2 h3 => ?_⟩
  · rcases mem_after hy with h4 | rfl
    · exact h.rows y (List.mem_cons_of_mem _ h4)
    · obtain ⟨pre, hp⟩ := h.rows o (by simp)
      refine ⟨pre ++ [e], ?_⟩
      rw [hn]
      show Ls[o.rk]? = _
      rw [hp, he]
      simp
  · rcases mem_after hy with h4 | rfl
    · exact ⟨y, List.mem_cons_of_mem _ h4, hx⟩
    · rw [hn] at hx
      exact ⟨o, by simp, by rw [he]; exact List.mem_cons_of_mem _ hx⟩
  · obtain ⟨h5, h6⟩ := hBL r es2 x h1 h2 h3
    obtain ⟨o', ho, hr, hx⟩ := h.cover r es2 x h1 h2 h5
    rw [after_cons]
    rcases List.mem_cons.1 ho with rfl | h7
    · rw [he] at hx
      rcases List.mem_cons.1 hx with h8 | h8
      · exact absurd h8 h6
      · have h9 : ¬ o'.es.tail = [] := by rw [he]; intro h10; have h11 : es = [] := h10; rw [h11] at h8; cases h8
        rw [if_neg h9]
        exact ⟨nxt o', by simp, hr, by rw [hn]; exact h8⟩
    · split
      · exact ⟨o', h7, hr, hx⟩
      · exact ⟨o', List.mem_cons_of_mem _ h7, hr, hx⟩
theorem MI.skip {Ls : List (List En)} {M : List En} {o : Od} {T : List Od} {last : List UInt8} {j : Nat} (h : MI Ls M (o :: T) true last j) {e : En} {es : List En} (he : o.es = e :: es) (hk : e.k = last) : MI Ls M (after (o :: T)) true last j := by
  obtain ⟨h1, h2, h3⟩ := h.step he
  refine ⟨h1, h3 (true = true) last fun r es2 x _ _ h5 => ⟨h5, fun h6 => ?_⟩, fun _ y hy x hx => ?_, h.at_⟩
  · have := h5 rfl
    rw [h6, hk, bl_same] at this
    cases this
  · obtain ⟨z, hz, hxz⟩ := h2 y hy x hx
    exact h.above rfl z hz x hxz
theorem MI.emit {Ls : List (List En)} {M : List En} {o : Od} {T : List Od} {b : Bool} {last : List UInt8} {j : Nat} (h : MI Ls M (o :: T) b last j) (hM : IsM Ls M) (hS : ∀ es ∈ Ls, Srt es) (ht : ∀ x ∈ o :: T, ltO x o = false) {e : En} {es : List En} (he : o.es = e :: es) (hk : b = true → e.k ≠ last) :
    ∃ hj : j < M.length, M[j] = e.norm ∧ MI Ls M (after (o :: T)) true e.k (j + 1) := by
  obtain ⟨h1, h2, h3⟩ := h.step he
  have hok := od_k he
  have heo : e ∈ o.es := by rw [he]; simp
  have hlast : b = true → Op.bytesLess last e.k = true := fun hb => by
    rcases bl_tri last e.k with h4 | h4 | h4
    · exact h4
    · exact absurd h4.symm (hk hb)
    · have := h.above hb o (by simp) e heo
      rw [this] at h4; cases h4
  obtain ⟨pre, hp⟩ := h.rows o (by simp)
  have hmem : e.norm ∈ M := (hM.2 _).2 ⟨o.rk, _, e, hp, by simp [heo], rfl, fun r' es' e' hr hes' he' hkk => by
    obtain ⟨o', ho', hr', hx⟩ := h.cover r' es' e' hes' he' (fun hb => by rw [hkk]; exact hlast hb)
    have h5 := h.srt hS ho'
    have h6 := srt_head h5 hx
    have h7 := ht o' ho'
    rw [Bool.eq_false_iff] at h7
    apply h7
    unfold ltO
    have h8 : Op.bytesLess o'.k o.k = true ∨ o'.k = o.k := by
      rcases bl_tri e'.k o'.k with h8 | h8 | h8
      · exact absurd h8 h6
      · exact .inr (by rw [← h8, hkk, hok])
      · exact .inl (by rw [hok, ← hkk]; exact h8)
    rcases h8 with h8 | h8
    · rw [h8]; rfl
    · rw [h8]; simp; exact .inr (by omega)⟩
  -- which one it is
  obtain ⟨i, hi, hie⟩ := List.mem_iff_getElem.1 hmem
  have hik : M[i].k = e.k := by rw [hie, En.norm_k]
  have hge : j ≤ i := by
    have h5 := h.at_
    cases b with
    | false => simp at h5; omega
    | true =>
      simp at h5
      obtain ⟨h6, hlt, h7⟩ := h5
      rcases Nat.lt_or_ge i j with h8 | h8
      · exfalso
        have h9 := hlast rfl
        rw [← h7, ← hik] at h9
        rcases Nat.lt_or_ge i (j - 1) with h10 | h10
        · exact bl_not_both h9 (hM.1.lt (by omega) h10)
        · have : i = j - 1 := by omega
          subst this
          rw [bl_same] at h9; cases h9
      · exact h8
  have hij : i = j := by
    rcases Nat.lt_or_ge j i with h5 | h5
    · exfalso
      have hj : j < M.length := by omega
      have h6 := hM.1.lt hi h5
      rw [hik] at h6
      obtain ⟨r, es', e', hr, he', hx, _⟩ := (hM.2 M[j]).1 (List.getElem_mem hj)
      rw [hx, En.norm_k] at h6
      obtain ⟨o', ho', hr', hxo⟩ := h.cover r es' e' hr he' (fun hb => by
        subst hb
        have h7 := h.at_
        simp at h7
        obtain ⟨h8, hlt, h9⟩ := h7
        have h10 := hM.1.lt hj (show j - 1 < j by omega)
        rw [hx, En.norm_k, h9] at h10
        exact h10)
      have h7 := h.least hS (ht o' ho') ho' hxo
      rw [hok, h6] at h7
      cases h7
    · omega
  subst hij
  refine ⟨hi, hie, h1, h3 (true = true) e.k fun r es2 x _ _ h5 => ⟨fun hb => bl_trans (hlast hb) (h5 rfl), fun h6 => ?_⟩, fun _ y hy x hx => ?_, ?_⟩
  · have := h5 rfl
    rw [h6, bl_same] at this
    cases this
  · obtain ⟨z, hz, hxz⟩ := h2 y hy x hx
    rw [← hok]
    exact h.least hS (ht z hz) hz hxz
  · simp only [if_true]
    exact ⟨by simpa using hi, by omega, by simpa using hik⟩
theorem MI.done {Ls : List (List En)} {M : List En} {b : Bool} {last : List UInt8} {j : Nat} (h : MI Ls M [] b last j) (hM : IsM Ls M) : ¬ j < M.length := by
  intro hj
  obtain ⟨r, es', e', hr, he', hx, _⟩ := (hM.2 M[j]).1 (List.getElem_mem hj)
  obtain ⟨o', ho', _⟩ := h.cover r es' e' hr he' (fun hb => by
    subst hb
    have h7 := h.at_
    simp at h7
    obtain ⟨h8, hlt, h9⟩ := h7
    have h10 := hM.1.lt hj (show j - 1 < j by omega)
    rw [hx, En.norm_k, h9] at h10
    exact h10)
  cases ho'
end Go.Proofs.YtaedmafmflohiaaDoor
