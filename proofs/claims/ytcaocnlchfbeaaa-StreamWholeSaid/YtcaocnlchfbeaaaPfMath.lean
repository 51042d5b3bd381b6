/- Plain laws: what is taken as a proof. No condition. -/
import Derived.Test.YtcaocnlchfbeaaaTbMath
namespace Go.Proofs.Ytcaocnlchfbeaaa.Pf
open Go.RowKit Go.Proofs.Ytcaocnlchfbeaaa.Op Go.Proofs.Ytcaocnlchfbeaaa.Hd Go.Proofs.Ytcaocnlchfbeaaa.St Go.Proofs.Ytcaocnlchfbeaaa.Cur Go.Proofs.Ytcaocnlchfbeaaa.Stp Go.Proofs.Ytcaocnlchfbeaaa.Tk
/-- the greatest number of 64 bits -/
def top : Nat := 18446744073709551615
abbrev HO : Type := Hd × Opn
/-- so many steps, until the cursor fails -/
def stepsC : Nat → C → List HO → List HO × C
  | 0, c, p => (p, c)
  | k + 1, c, p => if c.e ≠ 0 then (p, c) else stepsC k (stepC c).2 (p ++ [(stepC c).1])
/-- the number of steps, and the cursor behind it -/
def headC (c : C) : Nat × C := ((numC c top).1, if 1024 < (numC c top).1 then failC (numC c top).2 4 else (numC c top).2)
/-- what is taken as a proof -/
def getP (c : C) : List HO × C :=
  if (stepsC (headC c).1 (headC c).2 []).2.e ≠ 0 then ([], (stepsC (headC c).1 (headC c).2 []).2) else stepsC (headC c).1 (headC c).2 []
/-- what is decoded -/
def decP (l : List UInt8) : List HO × Int := if doneC (getP ⟨l, 0⟩).2 ≠ 0 then ([], doneC (getP ⟨l, 0⟩).2) else ((getP ⟨l, 0⟩).1, 0)
theorem steps_stop {k : Nat} {c : C} {p : List HO} (h : k = 0 ∨ c.e ≠ 0) : stepsC k c p = (p, c) := by
  cases k with
  | zero => rfl
  | succ k =>
    rcases h with h | h
    · cases h
    · rw [stepsC, if_pos h]
theorem steps_go {k : Nat} {c : C} {p : List HO} (h : c.e = 0) : stepsC (k + 1) c p = stepsC k (stepC c).2 (p ++ [(stepC c).1]) := by
  rw [stepsC, if_neg (fun e => e h)]
theorem stepC_len (c : C) : (stepC c).2.b.length ≤ c.b.length := by
  have h1 := open_len (getC c).2
  have h2 := getC_len c
  unfold stepC
  dsimp only
  split <;> exact Nat.le_trans h1 h2
theorem stepC_ok (c : C) : (stepC c).1.1.Ok := by
  unfold stepC
  dsimp only
  split
  · exact hd0_ok
  · exact getC_ok c
theorem head_len (c : C) : (headC c).2.b.length ≤ c.b.length := by
  have h1 := num_len c top
  unfold headC
  dsimp only
  split
  · exact Nat.le_trans (fail_len _ _) h1
  · exact h1
/-- more than 1024: the cursor has failed -/
theorem head_many {c : C} (h : 1024 < (headC c).1) : (headC c).2.e ≠ 0 := by
  unfold headC at *
  dsimp only at *
  rw [if_pos h]
  unfold failC
  split
  · decide
  · rename_i h2
    intro e
    exact h2 ⟨e, by decide⟩
theorem steps_count : ∀ (k : Nat) (c : C) (p : List HO), (stepsC k c p).1.length ≤ p.length + k
  | 0, _, _ => Nat.le_refl _
  | k + 1, c, p => by
    unfold stepsC
    split
    · exact Nat.le_add_right _ _
    · have := steps_count k (stepC c).2 (p ++ [(stepC c).1])
      simp at this
      omega
theorem steps_len : ∀ (k : Nat) (c : C) (p : List HO), (stepsC k c p).2.b.length ≤ c.b.length
  | 0, _, _ => Nat.le_refl _
  | k + 1, c, p => by
    unfold stepsC
    split
    · exact Nat.le_refl _
    · exact Nat.le_trans (steps_len k _ _) (stepC_len c)
end Go.Proofs.Ytcaocnlchfbeaaa.Pf
