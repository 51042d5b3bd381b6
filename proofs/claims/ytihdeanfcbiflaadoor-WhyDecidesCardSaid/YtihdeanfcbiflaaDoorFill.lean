/- What a struct literal and a store into a part of a block come to. Over any program; no condition. -/
import Derived.Great.FillDense
import Derived.Laws.Tables
import Derived.Laws.CopyRow
import Derived.Test.YtihdeanfcbiflaaDoorMk
namespace Go.Proofs.YtihdeanfcbiflaaDoor.Mk
open Go.RowKit
/-- one part more is laid -/
theorem fill_part (place : Nat → Option (Nat × Nat)) (cells vs : List Value) (i off : Nat) (v : Value) (hv : v.cells = vs.toArray) (hp : place i = some (off, vs.length)) (hle : off + vs.length ≤ cells.length) (rest : List (Nat × Value)) :
    Instr.fill place cells.toArray ((i, v) :: rest) = Instr.fill place (cells.take off ++ vs ++ cells.drop (off + vs.length)).toArray rest := by
  conv => lhs; unfold Instr.fill
  simp only [hp, hv, List.size_toArray]
  rw [if_neg (by simp; omega)]
  congr 1
  rw [← Array.foldl_toList, Array.toList_zipIdx]
  obtain ⟨g1, g2⟩ := Great.foldl_set off vs 0 cells.toArray
  apply Array.ext_getElem?
  intro k
  rw [List.toList_toArray]
  rw [g2 k]
  simp only [Nat.add_zero, List.size_toArray, List.getElem?_toArray]
  have hl : (cells.take off ++ vs).length = off + vs.length := by rw [List.length_append, List.length_take]; omega
  by_cases h1 : off ≤ k ∧ k < off + vs.length ∧ k < cells.length
  · rw [if_pos h1, List.getElem?_append_left (by omega), List.getElem?_append_right (by rw [List.length_take]; omega), List.length_take, Nat.min_eq_left (by omega)]
  · rw [if_neg h1]
    by_cases h2 : k < off
    · rw [List.getElem?_append_left (by omega), List.getElem?_append_left (by rw [List.length_take]; omega), List.getElem?_take, if_pos h2]
    · rw [List.getElem?_append_right (by omega), hl, List.getElem?_drop]
      congr 1
      omega
theorem fill_end (place : Nat → Option (Nat × Nat)) (cells : Array Value) : Instr.fill place cells [] = some cells := rfl
section
variable {P : Program}
/-- a store into a part of a block that is known whole -/
theorem run_storeAt_part (w : World) (g o : Nat) (t ty : TypeId) (old vs : List Value) (hg : w.heap[g]? = some (.cells old.toArray t (0, 0))) (hi : (P.info? ty).map (·.size) = some vs.length) (hle : o + vs.length ≤ old.length) (h1 : ∀ v ∈ vs, v.oneCell' = true) :
    (Instr.storeAt ty (.pointer (some ⟨g, o, none⟩)) (.agg vs.toArray)).run P w = .ok () (w.setRow g (old.take o ++ vs ++ old.drop (o + vs.length)).toArray) := by
  have hst := run_storeCells_at (P := P) g o t vs 0 old.toArray w hg (by simpa using hle) h1
  simp only [Nat.add_zero] at hst
  cases hq : P.info? ty with
  | none => simp [hq] at hi
  | some i =>
    simp [hq] at hi
    simp [Instr.storeAt, Instr.sureAddr, storeVar, Value.cells, sizeOf, typeInfo, hq, hi, hst]
theorem wpList_buildV {ops : Array Oper} {rest : List Oper} {o : Oper} {a : Act} {w : World} {Q : Exit → Act → World → Prop} (hg : o.guard = none) (t : TypeId) (parts : Array (Nat × Operand)) (ho : o.op = .build t parts)
    (vals : Array (Nat × Value)) (hp : (parts.map fun (i, x) => (i, a.eval x)) = vals) (v : Value) (hr : (Instr.build t vals).run P w = .ok v w) (h : wpList P ops Q rest (a.put o.dst v) w) : wpList P ops Q (o :: rest) a w :=
  wpList_plain hg fun _ hK => by
    unfold Oper.wp execOp
    simp only [ho, hp, Sem.run_bind, hr, Result.andThen_ok]
    exact hK _ _ h
theorem wpList_moveV {ops : Array Oper} {rest : List Oper} {o : Oper} {a : Act} {w : World} {Q : Exit → Act → World → Prop} (hg : o.guard = none) (x : Operand) (ho : o.op = .move x) (v : Value) (hx : a.eval x = v) (h : wpList P ops Q rest (a.put o.dst v) w) : wpList P ops Q (o :: rest) a w :=
  wpList_plain hg fun _ hK => by
    unfold Oper.wp execOp
    simp only [ho, hx, Sem.run_pure]
    exact hK _ _ h
end
end Go.Proofs.YtihdeanfcbiflaaDoor.Mk
