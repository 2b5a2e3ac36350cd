/- Bytes that come out: contracts. -/
import Derived.Test.YtomleanoofoejaaDoorKecWrite
import Derived.Test.YtomleanoofoejaaDoorMem
namespace Go.Proofs.YtomleanoofoejaaDoor
open Go.RowKit

attribute [local irreducible] turnK
def byteK (L : List Nat) (i : Nat) : UInt8 := UInt8.ofNat (ln L (i / 8) / 2 ^ (8 * (i % 8)))
def sqzL (L : List Nat) (i : Nat) : List Nat := if 0 < i ∧ i % 136 = 0 then turnK L else L
def sqz (s : List Nat × List UInt8) (i : Nat) : List Nat × List UInt8 := (sqzL s.1 i, s.2 ++ [byteK (sqzL s.1 i) (i % 136)])
def sqzTo (L : List Nat) (n : Nat) : List Nat × List UInt8 := (List.range n).foldl sqz (L, [])
theorem sqzTo_succ (L : List Nat) (n : Nat) : sqzTo L (n + 1) = sqz (sqzTo L n) n := foldl_range_succ _ _ _
def endK (s : List Nat × Nat) (kind : Nat) : List Nat := turnK (xorB (xorB s.1 s.2 kind) 135 128)
def outK (s : List Nat × Nat) (kind n : Nat) : List UInt8 := (sqzTo (endK s kind) n).2
theorem sqzL_ok {L : List Nat} (h : Wf 25 L) (i : Nat) : Wf 25 (sqzL L i) := by
  unfold sqzL
  split
  · exact h.turnK
  · exact h
theorem sqzTo_ok {L : List Nat} (h : Wf 25 L) (n : Nat) : Wf 25 (sqzTo L n).1 := foldl_inv (P := fun s : List Nat × List UInt8 => Wf 25 s.1) _ _ h (fun _ i _ hb => sqzL_ok hb i)
theorem sqzTo_len (L : List Nat) (n : Nat) : (sqzTo L n).2.length = n := by
  induction n with
  | zero => rfl
  | succ n ih => rw [sqzTo_succ]; simp [sqz, ih]
theorem outK_len (s : List Nat × Nat) (kind n : Nat) : (outK s kind n).length = n := sqzTo_len _ _
theorem endK_ok {s : List Nat × Nat} (h : Wf 25 s.1 ∧ s.2 < 136) (kind : Nat) (hk : kind < 256) : Wf 25 (endK s kind) := ((h.1.xorB _ _ hk).xorB _ _ (by decide)).turnK

theorem zero25 : (#[.int .u64 0, .int .u64 0, .int .u64 0, .int .u64 0, .int .u64 0, .int .u64 0, .int .u64 0, .int .u64 0, .int .u64 0, .int .u64 0, .int .u64 0, .int .u64 0, .int .u64 0, .int .u64 0, .int .u64 0, .int .u64 0, .int .u64 0, .int .u64 0, .int .u64 0, .int .u64 0, .int .u64 0, .int .u64 0, .int .u64 0, .int .u64 0, .int .u64 0] : Array Value) = (encN (List.replicate 25 0)).toArray := by rfl
theorem info_ks : (Tryd.prog.info? 71).map (·.size) = some 25 := by kernel_rfl
theorem infoBy : (Tryd.prog.info? 5).map (fun i => (i.zero, i.size, i.bytes)) = some (some (.int .u8 0), 1, 1) := by kernel_rfl
theorem byte_of (x : Nat) : IntKind.u8.wrap (x : Int) = ((UInt8.ofNat x).toNat : Int) := by
  rw [IntKind.wrap_u8]; simp

set_option maxHeartbeats 8000000 in
theorem out_any (g : Nat) (s : List Nat × Nat) (w : World) (h : StA w g s) (hs : Wf 25 s.1 ∧ s.2 < 136) (hc : Con w) (kind n : Nat) (hkind : kind < 256) (hn : n ≤ 1048576) :
    Calls Tryd.prog 35 #[.pointer (some ⟨g, 0, none⟩), .int .u8 kind, .int .i64 n] w (NewB 5 (outK s kind n) w) := by
  have H := Lib.hid h
  have HS := Lib.hid hs
  have HC := Lib.hid hc
  have HK := Lib.hid hkind
  have HI := Lib.hid (show (Tryd.prog.info? 71).map (·.size) = some (encN s.1).length by rw [length_encN, hs.1.1]; exact info_ks)
  have HRG := Lib.hid (show w.rangeAt g 0 (encN s.1) from fun i v hi => by
    have hlt : i < s.1.length := by
      have := (List.getElem?_eq_some_iff.1 hi).1
      simpa using this
    rw [encN_get s.1 i hlt] at hi
    rw [Nat.zero_add, ← hi]
    exact St.cell h i hlt)
  obtain ⟨L, at'⟩ := s
  have HL := Lib.hid hs.1
  have HAT := Lib.hid hs.2
  have q0 := h.at25 hs.1.1
  clear h hs hc hkind
  go_enter Tryd.func35, Tryd.ntmps35
  go_wp2_with (first
    | (refine wpList_load_mid rfl 71 (.tmp 13) rfl g 0 rfl (encN L) _ HRG.out Tryd.underlying71 rfl HI.out ?_)
    | (refine wpList_store_rowK rfl 71 (.tmp 7) (.tmp 14) rfl w.heap.size (encN L) (encN (List.replicate 25 0)) 71 rfl rfl (by rw [zero25]; exact heap_alloc_new _ _) (by simp [HL.out.1]) HI.out (encN_one _) ?_
       intro w1 h1 hk1
       have hK1 : Keeps [] w w1 := ((Keeps.refl [] w).alloc _).trans hk1 (fun t ht => .inr (by simp at ht; omega))
       have q1 := hK1.cell q0 (by simp)
       have hw1 := Lib.hid (And.intro h1.out hK1)
       clear h1 hk1 hK1 q0 HRG))
  have H1 := Lib.hid (show St w1 w.heap.size 71 [] L ∧ Keeps [] w w1 from ⟨by show _ = _; rw [List.append_nil]; exact hw1.out.1, hw1.out.2⟩)
  clear hw1 HI
  refine (xor_any w.heap.size 71 [] L w1 H1.out.1 HL.out at' kind (by have : at' < 136 := HAT.out; omega) HK.out).mono ?_
  rintro e w2 ⟨rfl, h2, hk2⟩
  have H2 := Lib.hid (And.intro h2 (H1.out.2.trans hk2 (fun t ht => .inr (by simp at ht; omega))))
  have HL2 := Lib.hid (HL.out.xorB at' kind HK.out)
  clear h2 hk2 H1 q1
  go_wp2_with fail
  refine (xor_any w.heap.size 71 [] _ w2 H2.out.1 HL2.out 135 128 (by decide) (by decide)).mono ?_
  rintro e w3 ⟨rfl, h3, hk3⟩
  have H3 := Lib.hid (And.intro h3 (H2.out.2.trans hk3 (fun t ht => .inr (by simp at ht; omega))))
  have HL3 := Lib.hid (HL2.out.xorB 135 128 (by decide))
  clear h3 hk3 H2 HL2
  go_wp2_with fail
  refine (turn_any w.heap.size 71 [] _ w3 H3.out.1 HL3.out (HC.out.keeps H3.out.2 (by simp)) (by have := HC.out.lt; omega)).mono ?_
  rintro e w4 ⟨rfl, h4, hk4⟩
  have INV := Lib.hid (show St w4 w.heap.size 71 [] (sqzTo (endK (L, at') kind) 0).1 ∧ OwnB 5 w4 none 0 (sqzTo (endK (L, at') kind) 0).2 ∧ Keeps [] w w4 ∧ (∀ a, (none : Option Addr) = some a → w.heap.size < a.block) ∧ w.heap.size < w4.heap.size from ⟨h4, OwnB.nil _ _, H3.out.2.trans hk4 (fun t ht => .inr (by simp at ht; omega)), by simp, h4.lt⟩)
  have HL4 := Lib.hid (show Wf 25 (endK (L, at') kind) from HL3.out.turnK)
  clear h4 hk4 H3 HL3
  have HCW := Lib.hid (show ∀ wr, Keeps [] w wr → Con wr ∧ w.heap.size ≠ 1 from fun wr hk => ⟨HC.out.keeps hk (by simp), by have := HC.out.lt; omega⟩)
  clear HC H HS HL HAT HK
  obtain ⟨E, hE⟩ : ∃ E, E = endK (L, at') kind := ⟨_, rfl⟩
  have HOUT := Lib.hid (show outK (L, at') kind n = (sqzTo E n).2 by rw [hE]; rfl)
  rw [← hE] at INV HL4
  clear hE
  go_wp2_with fail
  go_loopw [8, 24] (fun s i wr => ∃ (k : Nat) (A : Option Addr) (c : Nat) (l : List UInt8), k ≤ n ∧ l.length = k ∧ i = .int .i64 k ∧ s = .slice A l.length c ∧ Hid (l = (sqzTo E k).2) ∧ Hid (St wr w.heap.size 71 [] (sqzTo E k).1 ∧ OwnB 5 wr A c l ∧ Keeps [] w wr ∧ (∀ a, A = some a → w.heap.size < a.block) ∧ w.heap.size < wr.heap.size)) (fun _ i _ => n - (intOf i).toNat)
  case atStart => exact ⟨0, none, 0, [], Nat.zero_le _, rfl, rfl, rfl, rfl, INV.out⟩
  case round =>
    clear INV
    obtain ⟨k, A, c, l, hk, hlen, rfl, rfl, hl, hinv⟩ := hrel
    by_cases hlt : k < n
    · have hi : (k : Int) < (n : Int) := by omega
      obtain ⟨M, hM⟩ : ∃ M, M = (sqzTo E k).1 := ⟨_, rfl⟩
      have HM := Lib.hid (show Wf 25 M by rw [hM]; exact sqzTo_ok HL4.out k)
      rw [← hM] at hinv
      obtain ⟨r, hr⟩ : ∃ r, r = k % 136 := ⟨_, rfl⟩
      obtain ⟨q, hq⟩ : ∃ q, q = r / 8 := ⟨_, rfl⟩
      obtain ⟨m, hm⟩ : ∃ m, m = r % 8 := ⟨_, rfl⟩
      obtain ⟨sh, hsh⟩ : ∃ sh, sh = 8 * m := ⟨_, rfl⟩
      have HSTEP := Lib.hid (show ∀ X, X = sqzL M k → (sqzTo E (k + 1)).1 = X ∧ (sqzTo E (k + 1)).2 = l ++ [UInt8.ofNat (ln X q / 2 ^ sh)] by
        rintro X rfl
        rw [sqzTo_succ, hq, hsh, hm, hr, hl.out, hM]
        exact ⟨rfl, rfl⟩)
      have HOK := Lib.hid (show Wf 25 (sqzL M k) from sqzL_ok HM.out k)
      have tm : (k : Int).tmod 136 = (r : Int) := by rw [Int.tmod_eq_emod_of_nonneg (by omega)]; omega
      have d1 : (r : Int).tdiv 8 = (q : Int) := by rw [Int.tdiv_eq_ediv_of_nonneg (by omega)]; omega
      have d3 : (r : Int).tmod 8 = (m : Int) := by rw [Int.tmod_eq_emod_of_nonneg (by omega)]; omega
      have d4 : IntKind.i64.wrap (8 * (m : Int)) = (sh : Int) := by rw [IntKind.wrap_i64]; omega
      have b1 : (q : Int) < 25 := by omega
      have b2 : (sh : Int) < 64 := by omega
      have HQ := Lib.hid (show q < 25 by omega)
      have hlen' := Lib.hid (And.intro hlen hk)
      by_cases hz : r = 0
      · have e1 : ((r : Int) == 0) = true := by simp [hz]
        by_cases hk0 : k = 0
        · have e2 : ¬ (0 < (k : Int)) := by omega
          have HX := Lib.hid (show M = sqzL M k ∧ Wf 25 M from ⟨by unfold sqzL; rw [if_neg (by omega)], HM.out⟩)
          have HV := hinv
          clear hM hl hr hq hm hsh hz hk0 hlen
          obtain ⟨b, hb⟩ : ∃ b, b = UInt8.ofNat (ln M q / 2 ^ sh) := ⟨_, rfl⟩
          have dv : ((ln M q : Nat) : Int) / 2 ^ sh % 256 = ((b.toNat : Nat) : Int) := by rw [hb]; simp
          have HB := Lib.hid hb
          have qc := HV.out.1.cell q (by rw [HX.out.2.1]; exact HQ.out)
          have hlb : l.length ≤ 1048576 := by have := hlen'.out; omega
          clear hb hinv
          go_wp2_with (at_builtin; refine wpList_appendB rfl (.tmp 37) (.tmp 47) 35 5 rfl Tryd.underlying35 infoBy A c l rfl (HV.out.2.1.alloc _) (some ⟨wr.heap.size, 0, none⟩) 1 [b] rfl (RdB.lit wr [b] 5 (0, 0)) (by simp; omega) ?_; intro A3 c3 w3 l3 hl3 ho3 hk3 hb3; have HO3 := Lib.hid ho3; have HK3 := Lib.hid hk3; have HB3 := Lib.hid hb3; clear ho3 hk3 hb3)
          have HNB := Lib.hid (show w.heap.size ∉ blk A from fun hm => by
            obtain ⟨a1, e1, e2⟩ := mem_blk.1 hm
            have := HV.out.2.2.2.1 a1 e1
            omega)
          have HA1 : Keeps (blk A) wr w3 := ((Keeps.refl _ wr).alloc _).trans HK3.out (fun t ht => .inl ht)
          have HLL := Lib.hid (show l3.length = k + 1 by rw [hl3.out]; simp [hlen'.out.1])
          go_roundw
          case rel =>
            refine ⟨k + 1, A3, c3, l3, by omega, HLL.out, by go_num, rfl, ?_, ?_, HO3.out, ?_, ?_, ?_⟩
            · show _ = _
              rw [hl3.out, (HSTEP.out _ HX.out.1).2, HB.out]
            · rw [(HSTEP.out _ HX.out.1).1]
              exact HV.out.1.keeps HA1 HNB.out
            · exact HV.out.2.2.1.fresh HA1 (fun a ha => Nat.le_of_lt (HV.out.2.2.2.1 a ha))
            · intro a ha
              rcases HB3.out a ha with h | h
              · obtain ⟨a1, e1, e2⟩ := mem_blk.1 h
                have := HV.out.2.2.2.1 a1 e1
                omega
              · have := HV.out.2.2.2.2
                simp at h
                omega
            · have := HA1.size
              have := HV.out.2.2.2.2
              omega
          case measure => simp [intOf]; omega
        · have e2 : 0 < (k : Int) := by omega
          obtain ⟨X, hX⟩ : ∃ X, X = turnK M := ⟨_, rfl⟩
          have HX := Lib.hid (show X = sqzL M k ∧ Wf 25 X from ⟨by unfold sqzL; rw [if_pos (by omega), hX], by rw [hX]; exact HM.out.turnK⟩)
          have HXX := Lib.hid hX
          clear hM hl hr hq hm hsh hz hk0 hlen hX
          go_wp2_with fail
          refine (turn_any w.heap.size 71 [] M wr hinv.out.1 HM.out (HCW.out wr hinv.out.2.2.1).1 (HCW.out wr hinv.out.2.2.1).2).mono ?_
          rintro e w5 ⟨rfl, h5, hk5⟩
          have HV := Lib.hid (show St w5 w.heap.size 71 [] X ∧ OwnB 5 w5 A c l ∧ Keeps [] w w5 ∧ (∀ a, A = some a → w.heap.size < a.block) ∧ w.heap.size < w5.heap.size from ⟨by rw [HXX.out]; exact h5, hinv.out.2.1.keeps hk5 (fun a ha => by have := hinv.out.2.2.2.1 a ha; simp; omega), hinv.out.2.2.1.trans hk5 (fun t ht => .inr (by simp at ht; omega)), hinv.out.2.2.2.1, h5.lt⟩)
          clear h5 hk5 HXX
          obtain ⟨b, hb⟩ : ∃ b, b = UInt8.ofNat (ln X q / 2 ^ sh) := ⟨_, rfl⟩
          have dv : ((ln X q : Nat) : Int) / 2 ^ sh % 256 = ((b.toNat : Nat) : Int) := by rw [hb]; simp
          have HB := Lib.hid hb
          have qc := HV.out.1.cell q (by rw [HX.out.2.1]; exact HQ.out)
          have hlb : l.length ≤ 1048576 := by have := hlen'.out; omega
          clear hb hinv
          go_wp2_with (at_builtin; refine wpList_appendB rfl (.tmp 37) (.tmp 47) 35 5 rfl Tryd.underlying35 infoBy A c l rfl (HV.out.2.1.alloc _) (some ⟨w5.heap.size, 0, none⟩) 1 [b] rfl (RdB.lit w5 [b] 5 (0, 0)) (by simp; omega) ?_; intro A3 c3 w3 l3 hl3 ho3 hk3 hb3; have HO3 := Lib.hid ho3; have HK3 := Lib.hid hk3; have HB3 := Lib.hid hb3; clear ho3 hk3 hb3)
          have HNB := Lib.hid (show w.heap.size ∉ blk A from fun hm => by
            obtain ⟨a1, e1, e2⟩ := mem_blk.1 hm
            have := HV.out.2.2.2.1 a1 e1
            omega)
          have HA1 : Keeps (blk A) w5 w3 := ((Keeps.refl _ w5).alloc _).trans HK3.out (fun t ht => .inl ht)
          have HLL := Lib.hid (show l3.length = k + 1 by rw [hl3.out]; simp [hlen'.out.1])
          go_roundw
          case rel =>
            refine ⟨k + 1, A3, c3, l3, by omega, HLL.out, by go_num, rfl, ?_, ?_, HO3.out, ?_, ?_, ?_⟩
            · show _ = _
              rw [hl3.out, (HSTEP.out _ HX.out.1).2, HB.out]
            · rw [(HSTEP.out _ HX.out.1).1]
              exact HV.out.1.keeps HA1 HNB.out
            · exact HV.out.2.2.1.fresh HA1 (fun a ha => Nat.le_of_lt (HV.out.2.2.2.1 a ha))
            · intro a ha
              rcases HB3.out a ha with h | h
              · obtain ⟨a1, e1, e2⟩ := mem_blk.1 h
                have := HV.out.2.2.2.1 a1 e1
                omega
              · have := HV.out.2.2.2.2
                simp at h
                omega
            · have := HA1.size
              have := HV.out.2.2.2.2
              omega
          case measure => simp [intOf]; omega
      · have e1 : ((r : Int) == 0) = false := by simp [hz]
        have e2 : 0 < (k : Int) := by omega
        have HX := Lib.hid (show M = sqzL M k ∧ Wf 25 M from ⟨by unfold sqzL; rw [if_neg (by omega)], HM.out⟩)
        have HV := hinv
        clear hM hl hr hq hm hsh hz hlen
        obtain ⟨b, hb⟩ : ∃ b, b = UInt8.ofNat (ln M q / 2 ^ sh) := ⟨_, rfl⟩
        have dv : ((ln M q : Nat) : Int) / 2 ^ sh % 256 = ((b.toNat : Nat) : Int) := by rw [hb]; simp
        have HB := Lib.hid hb
        have qc := HV.out.1.cell q (by rw [HX.out.2.1]; exact HQ.out)
        have hlb : l.length ≤ 1048576 := by have := hlen'.out; omega
        clear hb hinv
        go_wp2_with (at_builtin; refine wpList_appendB rfl (.tmp 37) (.tmp 47) 35 5 rfl Tryd.underlying35 infoBy A c l rfl (HV.out.2.1.alloc _) (some ⟨wr.heap.size, 0, none⟩) 1 [b] rfl (RdB.lit wr [b] 5 (0, 0)) (by simp; omega) ?_; intro A3 c3 w3 l3 hl3 ho3 hk3 hb3; have HO3 := Lib.hid ho3; have HK3 := Lib.hid hk3; have HB3 := Lib.hid hb3; clear ho3 hk3 hb3)
        have HNB := Lib.hid (show w.heap.size ∉ blk A from fun hm => by
          obtain ⟨a1, e1, e2⟩ := mem_blk.1 hm
          have := HV.out.2.2.2.1 a1 e1
          omega)
        have HA1 : Keeps (blk A) wr w3 := ((Keeps.refl _ wr).alloc _).trans HK3.out (fun t ht => .inl ht)
        have HLL := Lib.hid (show l3.length = k + 1 by rw [hl3.out]; simp [hlen'.out.1])
        go_roundw
        case rel =>
          refine ⟨k + 1, A3, c3, l3, by omega, HLL.out, by go_num, rfl, ?_, ?_, HO3.out, ?_, ?_, ?_⟩
          · show _ = _
            rw [hl3.out, (HSTEP.out _ HX.out.1).2, HB.out]
          · rw [(HSTEP.out _ HX.out.1).1]
            exact HV.out.1.keeps HA1 HNB.out
          · exact HV.out.2.2.1.fresh HA1 (fun a ha => Nat.le_of_lt (HV.out.2.2.2.1 a ha))
          · intro a ha
            rcases HB3.out a ha with h | h
            · obtain ⟨a1, e1, e2⟩ := mem_blk.1 h
              have := HV.out.2.2.2.1 a1 e1
              omega
            · have := HV.out.2.2.2.2
              simp at h
              omega
          · have := HA1.size
            have := HV.out.2.2.2.2
            omega
        case measure => simp [intOf]; omega
    · have hi : ¬ (k : Int) < (n : Int) := by omega
      have HKN := Lib.hid (show k = n by omega)
      clear hlt hlen
      go_wp2_with fail
      go_ret
      obtain ⟨_, h2, h3, h4, _⟩ := hinv.out
      refine ⟨A, c, l, ?_, rfl, h2, fun a ha => Nat.le_of_lt (h4 a ha), h3⟩
      show _ = _
      rw [HOUT.out, hl.out, HKN.out]
end Go.Proofs.YtomleanoofoejaaDoor
