/- The document's rounds, as it does them: lanes as numbers, lane (x, y) at 5x + y. No program is named here. -/
import Derived.Test.YtomleanoofoejaaDoorKecPlain
namespace Go.Proofs.YtomleanoofoejaaDoor

def dcol (D c : List Nat) (j : Nat) : List Nat := c.set (j / 5) (ln c (j / 5) ^^^ ln D j)
def dcolsTo (D : List Nat) (n : Nat) : List Nat := (List.range n).foldl (dcol D) (List.replicate 5 0)
theorem dcolsTo_succ (D : List Nat) (n : Nat) : dcolsTo D (n + 1) = dcol D (dcolsTo D n) n := foldl_range_succ _ _ _
theorem Wf.dcolsTo {D : List Nat} (h : Wf 25 D) (k : Nat) : Wf 5 (dcolsTo D k) :=
  foldl_inv _ _ (Wf.zero 5) (fun _ _ _ hb => hb.set _ _ (xor_lt _ _ (hb.2 _) (h.2 _)))
def dthetaStep (c D a : List Nat) (j : Nat) : List Nat := a.set j (ln D j ^^^ ln c ((j / 5 + 4) % 5) ^^^ rotl (ln c ((j / 5 + 1) % 5)) 1)
def dthetaTo (c D : List Nat) (n : Nat) : List Nat := (List.range n).foldl (dthetaStep c D) (List.replicate 25 0)
theorem dthetaTo_succ (c D : List Nat) (n : Nat) : dthetaTo c D (n + 1) = dthetaStep c D (dthetaTo c D n) n := foldl_range_succ _ _ _
theorem Wf.dthetaTo {c D : List Nat} (hc : Wf 5 c) (h : Wf 25 D) (k : Nat) : Wf 25 (dthetaTo c D k) :=
  foldl_inv _ _ (Wf.zero 25) (fun _ _ _ hb => hb.set _ _ (xor_lt _ _ (xor_lt _ _ (h.2 _) (hc.2 _)) (rotl_lt _ _ (hc.2 _))))
/-- Where the walk is. -/
structure Dw where
  x : Nat
  y : Nat
  b : List Nat
def dwStep (a : List Nat) (s : Dw) (t : Nat) : Dw := ⟨s.y, (2 * s.x + 3 * s.y) % 5, s.b.set (5 * s.y + (2 * s.x + 3 * s.y) % 5) (rotl (ln a (5 * s.x + s.y)) ((t + 1) * (t + 2) / 2))⟩
def dwTo (a : List Nat) (n : Nat) : Dw := (List.range n).foldl (dwStep a) ⟨1, 0, a⟩
theorem dwTo_succ (a : List Nat) (n : Nat) : dwTo a (n + 1) = dwStep a (dwTo a n) n := foldl_range_succ _ _ _
theorem Wf.dwTo {a : List Nat} (h : Wf 25 a) (k : Nat) : (dwTo a k).x < 5 ∧ (dwTo a k).y < 5 ∧ Wf 25 (dwTo a k).b :=
  foldl_inv (P := fun s : Dw => s.x < 5 ∧ s.y < 5 ∧ Wf 25 s.b) _ _ ⟨by show 1 < 5; decide, by show 0 < 5; decide, h⟩ (fun _ _ _ hb => ⟨hb.2.1, Nat.mod_lt _ (by decide), hb.2.2.set _ _ (rotl_lt _ _ (h.2 _))⟩)
def dchiStep (b s : List Nat) (j : Nat) : List Nat := s.set j (ln b j ^^^ andn (ln b (5 * ((j / 5 + 2) % 5) + j % 5)) (ln b (5 * ((j / 5 + 1) % 5) + j % 5)))
def dchiTo (b s : List Nat) (n : Nat) : List Nat := (List.range n).foldl (dchiStep b) s
theorem dchiTo_succ (b s : List Nat) (n : Nat) : dchiTo b s (n + 1) = dchiStep b (dchiTo b s n) n := foldl_range_succ _ _ _
theorem Wf.dchiTo {b s : List Nat} (hb : Wf 25 b) (h : Wf 25 s) (k : Nat) : Wf 25 (dchiTo b s k) :=
  foldl_inv _ _ h (fun _ _ _ hs => hs.set _ _ (xor_lt _ _ (hb.2 _) (andn_lt _ _ (hb.2 _))))
def rowNext (r : Nat) : Nat := if 255 < 2 * r then (2 * r - 256) ^^^ 113 else 2 * r
def diStep (s : List Nat × Nat) (j : Nat) : List Nat × Nat := (if s.2 % 2 = 1 then s.1.set 0 (ln s.1 0 ^^^ rotl 1 (2 ^ j - 1)) else s.1, rowNext s.2)
def diTo (s : List Nat × Nat) (n : Nat) : List Nat × Nat := (List.range n).foldl diStep s
theorem diTo_succ (s : List Nat × Nat) (n : Nat) : diTo s (n + 1) = diStep (diTo s n) n := foldl_range_succ _ _ _
theorem rowNext_lt (r : Nat) (h : r < 256) : rowNext r < 256 := by
  unfold rowNext
  split
  · exact Nat.xor_lt_two_pow (n := 8) (by omega) (by decide)
  · omega
theorem diTo_ok {s : List Nat × Nat} (h : Wf 25 s.1 ∧ s.2 < 256) (k : Nat) : Wf 25 (diTo s k).1 ∧ (diTo s k).2 < 256 :=
  foldl_inv (P := fun s : List Nat × Nat => Wf 25 s.1 ∧ s.2 < 256) _ _ h (fun b j _ hb => ⟨by
    unfold diStep
    split
    · exact hb.1.set _ _ (xor_lt _ _ (hb.1.2 _) (rotl_lt _ _ (by decide)))
    · exact hb.1, rowNext_lt _ hb.2⟩)
def dmid (D : List Nat) : List Nat := (dwTo (dthetaTo (dcolsTo D 25) D 25) 24).b
def dround (s : List Nat × Nat) (_ : Nat) : List Nat × Nat := diTo (dchiTo (dmid s.1) s.1 25, s.2) 7
def drTo (D : List Nat) (n : Nat) : List Nat × Nat := (List.range n).foldl dround (D, 1)
theorem drTo_succ (D : List Nat) (n : Nat) : drTo D (n + 1) = dround (drTo D n) n := foldl_range_succ _ _ _
theorem Wf.dmid {D : List Nat} (h : Wf 25 D) : Wf 25 (dmid D) := (Wf.dwTo (Wf.dthetaTo (h.dcolsTo 25) h 25) 24).2.2
section
attribute [local irreducible] dchiTo dmid diTo
theorem dround_ok (s : List Nat × Nat) (h : Wf 25 s.1 ∧ s.2 < 256) (i : Nat) : Wf 25 (dround s i).1 ∧ (dround s i).2 < 256 := by
  unfold dround
  exact diTo_ok (s := (dchiTo (dmid s.1) s.1 25, s.2)) ⟨Wf.dchiTo h.1.dmid h.1 25, h.2⟩ 7
attribute [local irreducible] dround
theorem drTo_ok {D : List Nat} (h : Wf 25 D) (k : Nat) : Wf 25 (drTo D k).1 ∧ (drTo D k).2 < 256 :=
  foldl_inv (P := fun s : List Nat × Nat => Wf 25 s.1 ∧ s.2 < 256) _ _ ⟨h, Nat.lt_of_lt_of_le (Nat.lt_succ_self 1) (by decide)⟩ (fun b i _ hb => dround_ok b hb i)
end
end Go.Proofs.YtomleanoofoejaaDoor
