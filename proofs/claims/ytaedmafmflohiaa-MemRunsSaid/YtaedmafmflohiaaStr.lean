/- 'append(xs, s...)' of a text onto bytes of one's own. No program is named here. -/
import Derived.Test.YtaedmafmflohiaaRegion
import Derived.Lib.AppendStr
namespace Go.Proofs.Ytaedmafmflohiaa
open Go.RowKit

theorem strCells_strB (l : List UInt8) : Lib.strCells (strB l) = encB l := by
  simp [Lib.strCells, strB, encB]
theorem wpList_appendS {P : Program} {w : World} {ops : Array Oper} {rest : List Oper} {o : Oper} {a : Act} {Q : Exit → Act → World → Prop} (hgd : o.guard = none) (s x : Operand) (t u E : TypeId)
    (ho : o.op = .call { callee := .builtin .append, args := #[s, x], argTypes := #[t, u] }) (ht : P.underlying t = some (.slice E)) (hu : P.underlying u = some .string)
    (hinfo : (P.info? E).map (fun i => (i.zero, i.size, i.bytes)) = some (some (.int .u8 0), 1, 1))
    (A : Option Addr) (cv : Nat) (l : List UInt8) (hs : a.eval s = .slice A l.length cv) (hown : OwnB E w A cv l)
    (l2 : List UInt8) (hx : a.eval x = .string (strB l2)) (hb : l.length + l2.length ≤ 140737488355328)
    (h : ∀ A' c' w' l', Hid (l' = l ++ l2) → OwnB E w' A' c' l' → Keeps (blk A) w w' → (∀ a, A' = some a → a.block ∈ blk A ∨ w.heap.size ≤ a.block) → wpList P ops Q rest (a.put o.dst (.slice A' l'.length c')) w') :
    wpList P ops Q (o :: rest) a w := by
  refine wpList_plain hgd fun K hK => ?_
  obtain ⟨i, hi, hz0, hz1, hz2⟩ := info_parts hinfo
  obtain ⟨v', w', hr, hown', hg, hn⟩ := Lib.run_append_own_string (P := P) w 0 t u o.type E i ht hu hi hz0 hz1 hz2 (.slice A l.length cv) l.length (encB l) hown (strB l2) (by show l.length + l2.length ≤ _; unfold maxLen; omega) hb (Nat.zero_le _)
  have hsz : (strB l2).size = l2.length := rfl
  rw [strCells_strB, ← encB_append, hsz] at hown'
  have hll : l.length + l2.length = (l ++ l2).length := by simp
  rw [hll] at hown'
  have hb' : ∀ A' m c', v' = .slice A' m c' → ∀ a, A' = some a → a.block ∈ blk A ∨ w.heap.size ≤ a.block := by
    intro A' m c' hv a ha
    subst hv ha
    rcases hown.2 with ⟨h1, h0⟩ | ⟨g, cap, cur, h1, _, hh, hnc, hcm, hcs, _⟩
    · injection h1 with e1 e2 e3
      subst e1 e3
      rw [h0] at hr
      have h2 : 0 < (strB l2).size := by
        rcases Nat.eq_zero_or_pos (strB l2).size with h | h
        · exact absurd (hn.2 ⟨by rw [h0], h⟩) (by simp)
        · exact h
      have hr2 := run_append_nil_string (P := P) w t u o.type E i (.int .u8 0) ht hu hi hz0 (strB l2) h2 (by rw [hsz]; omega) (by rw [hsz, hz2]; omega)
      rw [hr] at hr2
      injection hr2 with e4 _
      injection e4 with e5 _ _
      obtain rfl := Option.some.inj e5
      exact .inr (Nat.le_refl _)
    · injection h1 with e1 e2 e3
      subst e1 e3
      by_cases hroom : l.length + (strB l2).size ≤ cv
      · have hr2 := Lib.run_append_room_string (P := P) w t u o.type E i ht hu hi hz1 g l.length cv cur hh (strB l2) hroom (by simpa [hcs] using hroom)
        rw [hr] at hr2
        injection hr2 with e4 _
        injection e4 with e5 _ _
        obtain rfl := Option.some.inj e5
        exact .inl (by simp [blk])
      · have hr2 := Lib.run_append_grow_string (P := P) w t u o.type E i (.int .u8 0) ht hu hi hz0 ⟨g, 0, none⟩ l.length cv (encB l) (by rw [hz1]; simp) (World.ownsRow.cells hown (g := g) rfl) (strB l2) (by omega) (by rw [hsz]; omega) (by rw [hz2]; exact growslice_fits (by omega) (by rw [hsz]; omega))
        rw [hr] at hr2
        injection hr2 with e4 _
        injection e4 with e5 _ _
        obtain rfl := Option.some.inj e5
        exact .inr (Nat.le_refl _)
  have hshape : ∃ A' c', v' = .slice A' (l ++ l2).length c' := by
    rcases hown'.2 with ⟨h1, h0⟩ | ⟨g, cap, cur, h1, _⟩
    · exact ⟨none, 0, by rw [h1, h0]⟩
    · exact ⟨_, cap, h1⟩
  obtain ⟨A', c', rfl⟩ := hshape
  unfold Oper.wp execOp
  simp only [ho, resolve, invoke, builtin, Sem.run_bind, Sem.run_pure, Result.andThen_ok, List.map_toArray, List.map_cons, List.map_nil, hs, hx, hr]
  refine hK _ _ (h A' c' w' (l ++ l2) rfl hown' ⟨hg.os, hg.tape, hg.output, hg.size, fun k hk hnm => hg.block k hk (fun e => hnm ?_)⟩ (hb' A' _ c' rfl))
  cases A with
  | none => simp [Value.ownBlock] at e
  | some a0 => simp only [Value.ownBlock, Option.some.injEq] at e; exact mem_blk.2 ⟨a0, rfl, e.symm⟩
end Go.Proofs.Ytaedmafmflohiaa
