/- A print that a reader takes off: a contract. -/
import Derived.Test.YtficgbeolmdbiaaPackRq
namespace Go.Proofs.Ytficgbeolmdbiaa
open Go.RowKit

theorem info_pr : (Try.prog.info? 33).map (·.size) = some 32 := by kernel_rfl
/-- A print. -/
def printR (l : List UInt8) (e : Int) : List UInt8 × Int × List UInt8 := ((offR 32 l e).1, (offR 32 l e).2.1, (offR 32 l e).2.2 ++ List.replicate (32 - (offR 32 l e).2.2.length) 0)
theorem offR_len (n : Nat) (l : List UInt8) (e : Int) : (offR n l e).2.2.length ≤ n := by
  unfold offR
  split
  · exact Nat.zero_le _
  · split
    · exact Nat.zero_le _
    · simp; omega
theorem length_printR (l : List UInt8) (e : Int) : (printR l e).2.2.length = 32 := by
  have := offR_len 32 l e
  simp [printR]; omega

theorem zero32 : (#[.int .u8 0, .int .u8 0, .int .u8 0, .int .u8 0, .int .u8 0, .int .u8 0, .int .u8 0, .int .u8 0, .int .u8 0, .int .u8 0, .int .u8 0, .int .u8 0, .int .u8 0, .int .u8 0, .int .u8 0, .int .u8 0, .int .u8 0, .int .u8 0, .int .u8 0, .int .u8 0, .int .u8 0, .int .u8 0, .int .u8 0, .int .u8 0, .int .u8 0, .int .u8 0, .int .u8 0, .int .u8 0, .int .u8 0, .int .u8 0, .int .u8 0, .int .u8 0] : Array Value) = (encB (List.replicate 32 0)).toArray := by rfl

set_option maxHeartbeats 2000000 in
theorem rdprint_any (g : Nat) (A : Option Addr) (c : Nat) (l : List UInt8) (e : Int) (w : World) (h : Rdr w g A c l e) :
    Calls Try.prog 18 #[.pointer (some ⟨g, 0, none⟩)] w (RdPost g A (printR l e).1 (printR l e).2.1 (.agg (encB (printR l e).2.2).toArray) w) := by
  have H := Lib.hid h
  have hgl := h.lt
  have H32 := Lib.hid (length_printR l e)
  clear h
  go_enter Try.func18, Try.ntmps18
  go_wp2_with fail
  rw [zero32]
  obtain ⟨W, hW⟩ : ∃ W, W = (w.alloc (.cells (encB (List.replicate 32 0)).toArray 33)).alloc (.cells (encB (List.replicate 32 0)).toArray 33) := ⟨_, rfl⟩
  rw [← hW]
  have hb0 : W.heap[w.heap.size]? = some (.cells (encB (List.replicate 32 0)).toArray 33 (0, 0)) := by rw [hW]; exact heap_alloc2_old _ _ _
  have hb1 : W.heap[w.heap.size + 1]? = some (.cells (encB (List.replicate 32 0)).toArray 33 (0, 0)) := by rw [hW]; exact heap_alloc2_new _ _ _
  have hk : Keeps [] w W := by rw [hW]; exact ((Keeps.refl [] w).alloc _).alloc _
  have hsz : W.heap.size = w.heap.size + 2 := by rw [hW]; simp
  have B0 := Lib.hid hb0
  have B1 := Lib.hid hb1
  have HK := Lib.hid hk
  have SZ := Lib.hid hsz
  clear hW hb0 hb1 hk hsz
  have NB := Lib.hid (show ∀ a, A = some a → 0 < l.length → a.block < w.heap.size from fun a ha hl => Rd.lt H.out.2.1 (by simpa using hl) ha)
  refine seq_start (by kernel_rfl) (fun _ => True) 4 [0, 1, 2, 3] rfl (trivial) (fun hS => ?_)
  have HR := Lib.hid (show Rdr W.drew g A c l e from H.out.keeps0 HK.out.drew)
  have HKd := Lib.hid HK.out.drew
  have B0d := Lib.hid (show W.drew.heap[w.heap.size]? = _ from B0.out)
  have B1d := Lib.hid (show W.drew.heap[w.heap.size + 1]? = _ from B1.out)
  have SZd := Lib.hid (show W.drew.heap.size = _ from SZ.out)
  generalize W.drew = V at *
  clear B0 B1 HK SZ
  refine seq_take (v := ?_) rfl (by kernel_rfl) (by kernel_rfl) (by kernel_rfl) (Or.inl ⟨by rfl, fun w' hSw => ?_⟩) (by assumption) ?_
  rotate_left
  · go_simp
    with_reducible rfl
  simp only [Act.put, List.setIfInBounds_toArray, List.set_cons_zero, List.set_cons_succ]
  refine seq_take (v := ?_) rfl (by kernel_rfl) (by kernel_rfl) (by kernel_rfl) (Or.inl ⟨by rfl, fun w' hSw => ?_⟩) (by assumption) ?_
  rotate_left
  · go_simp
    with_reducible rfl
  simp only [Act.put, List.setIfInBounds_toArray, List.set_cons_zero, List.set_cons_succ]
  refine seq_do rfl (by kernel_rfl) (by rfl) (fun K hK => ?_)
  go_simp
  refine (off_any g A c l e V HR.out 32 (by decide)).mono ?_
  intro en w2 hp
  obtain ⟨A', c', l', A2, c2, t, rfl, hl', ht, hr, hrd, _, hA2, hk, hb⟩ := hp.cases
  have HP := Lib.hid (And.intro hl'.out (And.intro hr (And.intro hk hb)))
  have HT := Lib.hid ht.out
  have HRD := Lib.hid hrd
  have B0e := Lib.hid ((hk.block w.heap.size (by rw [SZd.out]; omega) (by simp; omega)).trans B0d.out)
  have B1e := Lib.hid ((hk.block (w.heap.size + 1) (by rw [SZd.out]; omega) (by simp; omega)).trans B1d.out)
  clear hp hl' ht hr hrd hA2 hk hb
  refine hK.out (fun _ => True) _ _ (fun _ h => h) trivial (fun _ => ?_)
  refine seq_do rfl (by kernel_rfl) (by rfl) (fun K hK => ?_)
  refine op_copyB (.tmp 4) (.tmp 6) 23 23 5 rfl Try.underlying23 infoB1 (w.heap.size + 1) 0 32 32 rfl A2 c2 t rfl HRD.out (List.replicate 32 0) 33 B1e.out (by simp) ?_
  intro w3 h3 hk3
  refine hK.out (fun _ => True) _ _ (fun _ h => h) trivial (fun _ => ?_)
  refine seq_done (by kernel_rfl) ?_
  all_goals skip
  have HL : ∃ cs : List UInt8, cs = (printR l e).2.2 ∧ cs.length = 32 ∧ w3.heap[w.heap.size + 1]? = some (.cells (encB cs).toArray 33 (0, 0)) := by
    refine ⟨_, rfl, H32.out, ?_⟩
    rw [h3.out]
    have h1 := offR_len 32 l e
    have h2 : t.length ≤ 32 := by rw [HT.out]; exact h1
    have e2 : (List.replicate 32 (0 : UInt8)).take 0 ++ t.take 32 ++ (List.replicate 32 (0 : UInt8)).drop (0 + min t.length 32) = (printR l e).2.2 := by
      rw [Nat.min_eq_left h2, List.take_of_length_le h2]
      simp only [printR, ← HT.out]
      rw [List.take_zero, List.nil_append, Nat.zero_add, List.drop_replicate]
    rw [e2]
  obtain ⟨cs, hcs, hl32, hb3⟩ := HL
  have B1f := Lib.hid hb3
  have B0f := Lib.hid ((hk3.block w.heap.size (by have := HP.out.2.2.1.size; rw [SZd.out] at this; omega) (by simp)).trans B0e.out)
  have HCS := Lib.hid (And.intro hcs hl32)
  have HI := Lib.hid (show (Try.prog.info? 33).map (·.size) = some (encB cs).length by rw [length_encB, hl32]; exact info_pr)
  have HI2 := Lib.hid (show (Try.prog.info? 33).map (·.size) = some (encB cs).toArray.size by rw [List.size_toArray]; exact HI.out)
  have K3 := Lib.hid hk3
  clear h3 hb3 hk3 hcs hl32
  go_wp2_with (first
    | (refine wpList_load_row rfl 33 (.tmp 3) rfl (w.heap.size + 1) rfl 33 (encB cs).toArray (0, 0) _ B1f.out Try.underlying33 rfl HI2.out ?_)
    | (refine wpList_store_rowK rfl 33 (.tmp 2) (.tmp 8) rfl w.heap.size (encB cs) (encB (List.replicate 32 0)) 33 rfl rfl B0f.out (by rw [length_encB, length_encB, HCS.out.2, List.length_replicate]) HI.out (encB_one _) ?_; intro w4 h4 hk4))
  have h4' : w4.heap[w.heap.size]? = _ := h4.out
  refine bodyPost_ret (v := .agg (encB cs).toArray) (results_cell_row Try.results18 _ _ w.heap.size 33 _ (0, 0) _ rfl h4' Try.underlying33 rfl HI2.out) rfl ?_
  obtain ⟨hl', hr, hk, hb⟩ := HP.out
  have hle : l'.length ≤ l.length := by
    rw [hl']
    unfold offR
    split
    · exact Nat.le_refl _
    · split
      · exact Nat.le_refl _
      · simp
  have hA' : ∀ a, A' = some a → 0 < l'.length → a.block < w.heap.size := by
    intro a ha hpos
    obtain ⟨b, e1, e2⟩ := mem_blk.1 (hb a ha)
    rw [← e2]
    exact NB.out b e1 (by omega)
  refine ⟨A', c', l', hl', by rw [HCS.out.1], (hr.keeps K3.out (by simp; omega) (fun a ha hpos => by have := hA' a ha hpos; simp; omega)).keeps hk4 (by simp; omega) (fun a ha hpos => by have := hA' a ha hpos; simp; omega), ?_, hb⟩
  exact (((HKd.out.mono (by simp)).trans hk (fun t ht => .inl ht)).trans K3.out (fun t ht => .inr (by simp at ht; omega))).trans hk4 (fun t ht => .inr (by simp at ht; omega))
end Go.Proofs.Ytficgbeolmdbiaa
