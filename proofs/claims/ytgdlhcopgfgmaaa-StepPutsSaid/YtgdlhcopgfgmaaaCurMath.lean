/- Plain laws on a cursor: what is left, and the first error. No condition. -/
import Derived.Test.YtgdlhcopgfgmaaaNumMath
namespace Go.Proofs.Ytgdlhcopgfgmaaa.Cur
structure C where
  b : List UInt8
  e : Int
def failC (c : C) (e : Int) : C := if c.e = 0 ∧ e ≠ 0 then ⟨[], e⟩ else c
def rawC (c : C) (n : Int) : List UInt8 × C :=
  if n < 0 then ([], failC c 3) else if c.e ≠ 0 then ([], c) else if (c.b.length : Int) < n then ([], ⟨[], 1⟩) else (c.b.take n.toNat, ⟨c.b.drop n.toNat, 0⟩)
def numC (c : C) (most : Nat) : Nat × C :=
  if c.e ≠ 0 then (0, c) else
  if (Num.takeR c.b).2.2 ≠ 0 then (0, ⟨[], ((Num.takeR c.b).2.2 : Nat)⟩) else
  if most < (Num.takeR c.b).1 then (0, ⟨[], 3⟩) else ((Num.takeR c.b).1, ⟨c.b.drop (Num.takeR c.b).2.1, 0⟩)
def hashC (c : C) : List UInt8 × C := ((rawC c 32).1 ++ List.replicate (32 - (rawC c 32).1.length) 0, (rawC c 32).2)
def textC (c : C) (most : Int) : List UInt8 × C := rawC (numC c (max most 0).toNat).2 (numC c (max most 0).toNat).1
def doneC (c : C) : Int := if c.e = 0 ∧ c.b ≠ [] then 2 else c.e
def byteC (c : C) : Nat × C := ((((rawC c 1).1.head?).map (·.toNat)).getD 0, (rawC c 1).2)
theorem fail_len (c : C) (e : Int) : (failC c e).b.length ≤ c.b.length := by unfold failC; split <;> simp
theorem raw_len (c : C) (n : Int) : (rawC c n).2.b.length ≤ c.b.length ∧ (rawC c n).1.length ≤ c.b.length := by
  unfold rawC
  split
  · exact ⟨fail_len c 3, by simp⟩
  split
  · exact ⟨Nat.le_refl _, by simp⟩
  split
  · simp
  · simp [List.length_take]; omega
theorem num_len (c : C) (most : Nat) : (numC c most).2.b.length ≤ c.b.length := by
  unfold numC
  split
  · exact Nat.le_refl _
  split
  · simp
  split
  · simp
  · simp
theorem num_le (c : C) (most : Nat) : (numC c most).1 ≤ most := by
  unfold numC
  split
  · simp
  split
  · simp
  split
  · simp
  · simp; omega
theorem raw_ok (l : List UInt8) (n : Nat) (h : n ≤ l.length) : rawC ⟨l, 0⟩ n = (l.take n, ⟨l.drop n, 0⟩) := by
  unfold rawC
  rw [if_neg (by omega), if_neg (by simp), if_neg (by simp; omega)]
  simp
theorem raw_short (l : List UInt8) (n : Nat) (h : l.length < n) : rawC ⟨l, 0⟩ n = ([], ⟨[], 1⟩) := by
  unfold rawC
  rw [if_neg (by omega), if_neg (by simp), if_pos (by simp; omega)]
theorem raw_err (l : List UInt8) (e : Int) (n : Nat) (h : e ≠ 0) : rawC ⟨l, e⟩ n = ([], ⟨l, e⟩) := by
  unfold rawC
  rw [if_neg (by omega), if_pos h]
theorem raw_neg (c : C) (n : Int) (h : n < 0) : rawC c n = ([], failC c 3) := by
  unfold rawC
  rw [if_pos h]
theorem fail_some (l : List UInt8) (e : Int) (h : e ≠ 0) : failC ⟨l, 0⟩ e = ⟨[], e⟩ := by unfold failC; rw [if_pos ⟨rfl, h⟩]
theorem fail_kept (c : C) (e : Int) (h : c.e ≠ 0) : failC c e = c := by unfold failC; rw [if_neg (fun x => h x.1)]
theorem num_err (c : C) (m : Nat) (h : c.e ≠ 0) : numC c m = (0, c) := by unfold numC; rw [if_pos h]
theorem num_bad (l : List UInt8) (m : Nat) (h : (Num.takeR l).2.2 ≠ 0) : numC ⟨l, 0⟩ m = (0, ⟨[], ((Num.takeR l).2.2 : Nat)⟩) := by
  unfold numC; rw [if_neg (by simp), if_pos h]
theorem num_big (l : List UInt8) (m : Nat) (h : (Num.takeR l).2.2 = 0) (h2 : m < (Num.takeR l).1) : numC ⟨l, 0⟩ m = (0, ⟨[], 3⟩) := by
  unfold numC; rw [if_neg (by simp), if_neg (by simpa using h), if_pos h2]
theorem num_ok (l : List UInt8) (m : Nat) (h : (Num.takeR l).2.2 = 0) (h2 : ¬ m < (Num.takeR l).1) : numC ⟨l, 0⟩ m = ((Num.takeR l).1, ⟨l.drop (Num.takeR l).2.1, 0⟩) := by
  unfold numC; rw [if_neg (by simp), if_neg (by simpa using h), if_neg h2]
end Go.Proofs.Ytgdlhcopgfgmaaa.Cur
