/- The law on ranges of what was put: called with any entries and any keys it answers true. -/
import Derived.Test.YtaedmafmflohiaaMemRef
import Derived.Test.YtaedmafmflohiaaMemRef2
namespace Go.Proofs.Ytaedmafmflohiaa
open Go.RowKit

/-- The package's row and the document's, apart. -/
structure MemW (w0 W : World) (g : Nat) (A B : Option Addr) (c d : Nat) (L : List En) : Prop where
  ms : MemS W g A c L
  ow : W.ownsRow 0 27 3 (.slice B L.length d) L.length (encEn L)
  kp : Keeps [] w0 W
  g0 : w0.heap.size ≤ g
  a0 : ∀ a, A = some a → w0.heap.size ≤ a.block
  b0 : ∀ b, B = some b → w0.heap.size ≤ b.block ∧ b.block ≠ g ∧ (∀ a, A = some a → a.block ≠ b.block)
theorem MemW.keeps0 {w0 W W' : World} {g : Nat} {A B : Option Addr} {c d : Nat} {L : List En} (h : MemW w0 W g A B c d L) (hk : Keeps [] W W') : MemW w0 W' g A B c d L :=
  ⟨h.ms.keeps0 hk, ownsRow_keeps h.ow hk (by simp), h.kp.trans hk (by simp), h.g0, h.a0, h.b0⟩
theorem MemW.rd {w0 W : World} {g : Nat} {A B : Option Addr} {c d : Nat} {L : List En} (h : MemW w0 W g A B c d L) : Rd W B L.length 3 (encEn L) := Rd.of_own h.ow
theorem own_cap {w : World} {n c : Nat} {A : Option Addr} {xs : List Value} (h : w.ownsRow 0 27 3 (.slice A n c) n xs) : n ≤ c := by
  rcases h.2 with ⟨_, h0⟩ | ⟨g', cap, cur, hv, hb, hh, hnc, _⟩
  · omega
  · injection hv with e1 e2 e3; omega
/-- Behind the package's Put: its row, and the document's as it was. -/
structure MemH (w0 W : World) (g : Nat) (A B : Option Addr) (c d : Nat) (L' L : List En) : Prop where
  ms : MemS W g A c L'
  ow : W.ownsRow 0 27 3 (.slice B L.length d) L.length (encEn L)
  kp : Keeps [] w0 W
  g0 : w0.heap.size ≤ g
  a0 : ∀ a, A = some a → w0.heap.size ≤ a.block
theorem MemW.put {w0 W W' : World} {g : Nat} {A B : Option Addr} {c d : Nat} {L L' : List En} {r : Ending} (h : MemW w0 W g A B c d L) (hp : PutP g A L' W r W') : r = .returned (.tuple #[]) ∧ ∃ A' c', MemH w0 W' g A' B c' d L' L := by
  obtain ⟨h1, A', c', h2, h3, h4⟩ := hp.step h.kp h.g0 h.a0
  obtain ⟨_, A2, c2, k2, k3, k4⟩ := hp
  refine ⟨h1, A', c', h2, ownsRow_keeps h.ow k3 (fun b hb hm => ?_), h3, h.g0, h4⟩
  rcases List.mem_cons.1 hm with e | e
  · exact (h.b0 b hb).2.1 e
  · obtain ⟨a, e1, e2⟩ := mem_blk.1 e
    exact (h.b0 b hb).2.2 a e1 e2
theorem MemH.put {w0 W W' : World} {g : Nat} {A B : Option Addr} {c d : Nat} {L L' : List En} {r : Ending} (h : MemH w0 W g A B c d L' L) (hn : NewEn L' W r W') : ∃ B' d', r = .returned (.slice B' L'.length d') ∧ MemW w0 W' g A B' c d' L' := by
  obtain ⟨B', d', h1, h2, h3, h4⟩ := hn
  refine ⟨B', d', h1, h.ms.keeps0 h3, h2, h.kp.trans h3 (by simp), h.g0, h.a0, fun b hb => ?_⟩
  have k1 := h4 b hb
  have k2 := h.kp.size
  have k3 := lt_of_block h.ms.1
  refine ⟨by omega, by omega, fun a ha => ?_⟩
  have := ownsRow_lt h.ms.2.1 a ha
  omega
theorem puts_ok (l : List En) (h : EnOk l) : ∀ i, EnOk (putsE (enAt l) i)
  | 0 => by intro e he; cases he
  | i + 1 => putE_ok (puts_ok l h i) (puts_srt _ i) (enAt_ok h i)
set_option maxRecDepth 100000 in
set_option maxHeartbeats 16000000 in
theorem ranges_any (A : Option Addr) (c : Nat) (l : List En) (a b : List UInt8) (w : World) (hr : Rd w A l.length 3 (encEn l)) (hok : EnOk l) :
    Calls Try.prog 3 #[.slice A l.length c, .string (strB a), .string (strB b)] w fun r w' => r = .returned (.bool true) ∧ Keeps [] w w' := by
  have HRD := Lib.hid hr
  have HOK := Lib.hid hok
  obtain ⟨N, hN⟩ : ∃ N, N = l.length := ⟨_, rfl⟩
  have HN := Lib.hid hN
  have hz : (⟨#[]⟩ : ByteArray) = strB [] := rfl
  rw [← hN]
  clear hr hok hN
  go_enter Try.func3, Try.ntmps3
  go_wp2_with fail
  refine (mnew_any w).mono ?_
  rintro r w1 ⟨g, rfl, hm1, hk1, hg1⟩
  have INV := Lib.hid (show MemW w w1 g none none 0 0 (putsE (enAt l) 0) from ⟨hm1, World.ownsRow_nil _ _ _ _, hk1, hg1, by simp, by simp⟩)
  clear hm1 hk1 hg1
  go_wp2_with fail
  go_loopw [8, 9] (fun so si wr => ∃ (i : Nat) (L : List En) (A1 B : Option Addr) (c1 d : Nat), si = .int .i64 i ∧ so = .slice B L.length d ∧ i ≤ 60 ∧ Hid (L = putsE (enAt l) i) ∧ Hid (MemW w wr g A1 B c1 d L)) (fun _ si _ => 60 - (intOf si).toNat)
  case atStart => exact ⟨0, [], none, none, 0, 0, rfl, rfl, by omega, rfl, INV.out⟩
  case round =>
    clear INV
    obtain ⟨i, L, A1, B, c1, d, rfl, rfl, hi, hL, hinv⟩ := hrel
    have HLL := Lib.hid (show Srt L ∧ L.length ≤ i ∧ EnOk L from by rw [hL.out]; exact ⟨puts_srt _ _, puts_len _ _, puts_ok l HOK.out i⟩)
    by_cases hgo : i < N ∧ i < 60
    · have hik : (i : Int) < (N : Int) := by omega
      have hi60 : (i : Int) < 60 := by omega
      have HIL := Lib.hid (show i < l.length ∧ i < 60 from by have := HN.out; omega)
      obtain ⟨ga, o, hA, k0, k1, k2⟩ := en_cells (HRD.out.keeps0 hinv.out.kp) (i := i) HIL.out.1
      rw [enAt_get] at k0 k1 k2
      obtain ⟨e, he⟩ : ∃ e, e = enAt l i := ⟨_, rfl⟩
      rw [← he] at k0 k1 k2
      have HE := Lib.hid he
      subst hA
      clear he hgo
      go_wp2_with fail
      have HPT := put_any g A1 c1 L e wr hinv.out.ms HLL.out.1 HLL.out.2.2 (by rw [HE.out]; exact (enAt_ok HOK.out i).1) (by rw [HE.out]; exact (enAt_ok HOK.out i).2) (by have := HLL.out.2.1; have := HIL.out; omega)
      unfold En.val at HPT
      refine HPT.mono ?_
      clear HPT
      intro r w3 hp
      obtain ⟨rfl, A3, c3, h3⟩ := hinv.out.put hp
      have H3 := Lib.hid h3
      obtain ⟨ga', o', hA', m0, m1, m2⟩ := en_cells (HRD.out.keeps0 h3.kp) (i := i) HIL.out.1
      obtain ⟨rfl, rfl⟩ : ga = ga' ∧ o = o' := by injection hA' with e1; injection e1 with e2 e3; exact ⟨e2, e3⟩
      rw [enAt_get, ← HE.out] at m0 m1 m2
      clear hp h3 hA' k0 k1 k2 hinv
      go_wp2_with fail
      have HRP := rput_any B d L e w3 (Rd.of_own H3.out.ow) (own_cap H3.out.ow) (by have := HLL.out.2.1; have := HIL.out; omega)
      unfold En.val at HRP
      refine HRP.mono ?_
      clear HRP
      intro r w4 hp
      obtain ⟨B4, d4, rfl, h4⟩ := H3.out.put hp
      have H4 := Lib.hid h4
      have HL4 := Lib.hid (show putE L e = putsE (enAt l) (i + 1) from by rw [hL.out, HE.out]; rfl)
      clear hp h4 H3 m0 m1 m2
      go_wp2_with fail
      go_roundw
      case rel => exact ⟨i + 1, _, A3, B4, c3, d4, by go_num, rfl, by have := HIL.out; omega, HL4.out, H4.out⟩
      case measure => have := HIL.out; simp [intOf]; omega
    · have HLX := Lib.hid (show L.length ≤ 60 from by have := HLL.out.2.1; omega)
      rcases (show (¬ (i : Int) < (N : Int)) ∨ ((i : Int) < (N : Int) ∧ ¬ (i : Int) < 60) from by omega) with hj1 | ⟨hj1, hj2⟩
      all_goals
        clear hgo hL
        go_wp2_with fail
        refine (range_any g A1 c1 L a b wr hinv.out.ms HLL.out.1 (by have := HLX.out; omega)).mono ?_
        rintro r w3 ⟨A3, c3, rfl, ho3, hk3, _⟩
        rw [rangeE_filter HLL.out.1] at ho3 ⊢
        have H3 := Lib.hid (And.intro (hinv.out.keeps0 hk3) (Rd.of_own ho3))
        clear ho3 hk3 hinv
        go_wp2_with fail
        refine (rrange_any B d L a b w3 H3.out.1.rd (by have := HLX.out; omega)).mono ?_
        rintro r w4 ⟨A4, c4, rfl, ho4, hk4, _⟩
        have H4 := Lib.hid (And.intro (H3.out.1.keeps0 hk4) (And.intro (H3.out.2.keeps0 hk4) (Rd.of_own ho4)))
        have HFL := Lib.hid (show ∀ b', (L.filter (inR a b')).length ≤ 1000000 from fun b' => by have := List.length_filter_le (inR a b') L; have := HLX.out; omega)
        clear ho4 hk4 H3
        go_wp2_with fail
        refine (entries_same _ A3 A4 c3 c4 w4 H4.out.2.1 H4.out.2.2 (HFL.out b)).mono ?_
        rintro r w5 ⟨rfl, hk5⟩
        have H5 := Lib.hid (H4.out.1.keeps0 hk5)
        clear hk5 H4
        go_wp2_with fail
        refine (range_any g A1 c1 L a [] w5 H5.out.ms HLL.out.1 (by have := HLX.out; omega)).mono ?_
        rintro r w6 ⟨A6, c6, rfl, ho6, hk6, _⟩
        rw [rangeE_filter HLL.out.1] at ho6 ⊢
        have H6 := Lib.hid (And.intro (H5.out.keeps0 hk6) (Rd.of_own ho6))
        clear ho6 hk6 H5
        go_wp2_with fail
        refine (rrange_any B d L a [] w6 H6.out.1.rd (by have := HLX.out; omega)).mono ?_
        rintro r w7 ⟨A7, c7, rfl, ho7, hk7, _⟩
        have H7 := Lib.hid (And.intro (H6.out.1.keeps0 hk7) (And.intro (H6.out.2.keeps0 hk7) (Rd.of_own ho7)))
        clear ho7 hk7 H6
        go_wp2_with fail
        refine (entries_same _ A6 A7 c6 c7 w7 H7.out.2.1 H7.out.2.2 (HFL.out [])).mono ?_
        rintro r w8 ⟨rfl, hk8⟩
        have H8 := Lib.hid (H7.out.1.kp.trans hk8 (by simp))
        clear hk8 H7
        go_wp2_with fail
        refine (msure_any w8).mono ?_
        rintro r w9 ⟨rfl, hk9⟩
        have H9 := Lib.hid (H8.out.trans hk9 (by simp))
        clear hk9
        go_wp2_with fail
        go_ret
        exact ⟨rfl, H9.out⟩
theorem ranges_row (A : Option Addr) (c : Nat) (xs : List (ByteArray × ByteArray × Bool × Unit)) (a b : ByteArray) (w : World) (hok : (K.slice 40 KE).ok w ((A, c), xs)) :
    Calls Try.prog 3 #[.slice A xs.length c, .string a, .string b] w fun e w' => e = .returned (.bool true) ∧ Below w.heap.size w w' := by
  obtain ⟨h1, h2, h3, _⟩ := read_en hok
  rw [← h1]
  exact (ranges_any A c _ a.data.toList b.data.toList w h2 h3).mono fun _ _ h => ⟨h.1, h.2.below (Nat.le_refl _) (by simp)⟩
end Go.Proofs.Ytaedmafmflohiaa
