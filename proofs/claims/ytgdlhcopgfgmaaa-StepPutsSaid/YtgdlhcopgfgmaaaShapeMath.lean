/- Plain facts on the shape of a tree. No condition. -/
import Derived.RowKit
namespace Go.Proofs.Ytgdlhcopgfgmaaa.Shape
/-- how many leaves stand on the left side -/
def leftN (n : Nat) : Nat := if n < 2 then 0 else 2 ^ Nat.log2 (n - 1)
theorem left_spec (n : Nat) (h : 2 ≤ n) : leftN n < n ∧ n ≤ 2 * leftN n ∧ 1 ≤ leftN n := by
  unfold leftN
  rw [if_neg (by omega)]
  have h1 := Nat.log2_self_le (n := n - 1) (by omega)
  have h2 := Nat.lt_log2_self (n := n - 1)
  have h3 : 1 ≤ 2 ^ (n - 1).log2 := Nat.one_le_two_pow
  rw [Nat.pow_succ] at h2
  omega
theorem left_uniq (n j : Nat) (_h : 2 ≤ n) (h1 : 2 ^ j < n) (h2 : n ≤ 2 * 2 ^ j) : leftN n = 2 ^ j := by
  unfold leftN
  rw [if_neg (by omega)]
  congr 1
  rw [Nat.log2_eq_iff (by omega)]
  rw [Nat.pow_succ]
  omega
theorem left_small (n : Nat) (h : n < 2) : leftN n = 0 := by unfold leftN; rw [if_pos h]
/-- from the top down: to the right? -/
def downL (n i : Nat) : List Bool :=
  if _h : n < 2 then [] else if i < leftN n then false :: downL (leftN n) i else true :: downL (n - leftN n) (i - leftN n)
termination_by n
decreasing_by
  · have := left_spec n (by omega); omega
  · have := left_spec n (by omega); omega
theorem downL_one (n i : Nat) (h : n < 2) : downL n i = [] := by rw [downL, dif_pos h]
theorem downL_left (n i : Nat) (h : 2 ≤ n) (hi : i < leftN n) : downL n i = false :: downL (leftN n) i := by rw [downL, dif_neg (by omega), if_pos hi]
theorem downL_right (n i : Nat) (h : 2 ≤ n) (hi : leftN n ≤ i) : downL n i = true :: downL (n - leftN n) (i - leftN n) := by rw [downL, dif_neg (by omega), if_neg (by omega)]
/-- from a leaf up -/
def sidesL (n i : Nat) : List Bool := (downL n i).reverse
/-- how deep: no deeper than the bits of the number of leaves less 1 -/
theorem down_len : ∀ (k n i : Nat), n ≤ 2 ^ k → (downL n i).length ≤ k := by
  intro k
  induction k with
  | zero => intro n i h; rw [downL_one n i (by simp at h; omega)]; simp
  | succ k ih =>
    intro n i h
    by_cases hn : n < 2
    · rw [downL_one n i hn]; simp
    · have hs := left_spec n (by omega)
      have hp : leftN n ≤ 2 ^ k := by
        unfold leftN at hs ⊢
        rw [if_neg (by omega)] at hs ⊢
        by_cases hj : (n - 1).log2 ≤ k
        · exact Nat.pow_le_pow_right (by decide) hj
        · have : 2 ^ (k + 1) ≤ 2 ^ (n - 1).log2 := Nat.pow_le_pow_right (by decide) (by omega)
          omega
      by_cases hi : i < leftN n
      · rw [downL_left n i (by omega) hi, List.length_cons]
        have := ih (leftN n) i hp
        omega
      · rw [downL_right n i (by omega) (by omega), List.length_cons]
        have := ih (n - leftN n) (i - leftN n) (by omega)
        omega
theorem down_len64 (n i : Nat) (h : n ≤ 9223372036854775808) : (downL n i).length ≤ 63 := down_len 63 n i (by omega)
theorem down_apart : ∀ (k n i j : Nat), n ≤ k → i < n → j < n → downL n i = downL n j → i = j := by
  intro k
  induction k with
  | zero => intro n i j h hi; omega
  | succ k ih =>
    intro n i j h hi hj he
    by_cases hn : n < 2
    · omega
    · have hs := left_spec n (by omega)
      by_cases h1 : i < leftN n <;> by_cases h2 : j < leftN n
      · rw [downL_left n i (by omega) h1, downL_left n j (by omega) h2] at he
        exact ih (leftN n) i j (by omega) h1 h2 (List.cons.inj he).2
      · rw [downL_left n i (by omega) h1, downL_right n j (by omega) (by omega)] at he
        simp at he
      · rw [downL_right n i (by omega) (by omega), downL_left n j (by omega) h2] at he
        simp at he
      · rw [downL_right n i (by omega) (by omega), downL_right n j (by omega) (by omega)] at he
        have := ih (n - leftN n) (i - leftN n) (j - leftN n) (by omega) (by omega) (by omega) (List.cons.inj he).2
        omega
end Go.Proofs.Ytgdlhcopgfgmaaa.Shape
