/- Plain laws on levels. No condition. -/
import Derived.Test.YtalfgagcfjddcaaBitMath
namespace Go.Proofs.Ytalfgagcfjddcaa.Wk
open Go.RowKit Go.Proofs.Ytalfgagcfjddcaa.Ul Go.Proofs.Ytalfgagcfjddcaa.Wd Go.Proofs.Ytalfgagcfjddcaa.Wi Go.Proofs.Ytalfgagcfjddcaa.R4
def lvN (x t : Nat) : Nat → Nat → Nat
  | 0, m => m
  | d + 1, m => if x ≤ t / 2 ^ m then lvN x t d (m + 1) else m
def lvI (x t : Nat) : Int := (lvN x t 256 0 : Int) - 1
theorem lvN_step {x t k : Nat} (hk : k < 256) : (x ≤ t / 2 ^ k → lvN x t (256 - (k + 1)) (k + 1) = lvN x t (256 - k) k) ∧ (¬ x ≤ t / 2 ^ k → lvN x t (256 - k) k = k) := by
  rw [show 256 - k = 256 - (k + 1) + 1 by omega]
  refine ⟨fun h => ?_, fun h => ?_⟩
  · rw [lvN, if_pos h]
  · rw [lvN, if_neg h]
theorem lvN_bd (x t : Nat) : ∀ d m, m ≤ lvN x t d m ∧ lvN x t d m ≤ m + d
  | 0, m => by simp [lvN]
  | d + 1, m => by
    have := lvN_bd x t d (m + 1)
    rw [lvN]
    split <;> omega
theorem lvN_iff (x t : Nat) : ∀ d m j, m ≤ j → j < m + d → (j < lvN x t d m ↔ x ≤ t / 2 ^ j)
  | 0, m, j, h1, h2 => by omega
  | d + 1, m, j, h1, h2 => by
    rw [lvN]
    by_cases h : x ≤ t / 2 ^ m
    · rw [if_pos h]
      by_cases hj : j = m
      · subst hj
        have := (lvN_bd x t d (j + 1)).1
        exact ⟨fun _ => h, fun _ => by omega⟩
      · exact lvN_iff x t d (m + 1) j (by omega) (by omega)
    · rw [if_neg h]
      refine ⟨fun hc => by omega, fun hc => ?_⟩
      exfalso
      apply h
      refine Nat.le_trans hc (Nat.div_le_div_left (Nat.pow_le_pow_right (by decide) h1) (Nat.pow_pos (by decide)))
theorem lvI_bd (x t : Nat) : -1 ≤ lvI x t ∧ lvI x t ≤ 255 := by
  have := lvN_bd x t 256 0
  unfold lvI
  omega
theorem lvI_iff {x t j : Nat} (hj : j < 256) : (j : Int) ≤ lvI x t ↔ x ≤ t / 2 ^ j := by
  have := lvN_iff x t 256 0 j (Nat.zero_le _) (by omega)
  rw [← this]
  unfold lvI
  omega
theorem shrI_nat (t k : Nat) : shrI t (k : Int) = t / 2 ^ k := by
  unfold shrI
  split
  · obtain rfl : k = 0 := by omega
    simp
  · simp
theorem cmpI_pos (X Y : Nat) : (0 < cmpI X Y ↔ ¬ X ≤ Y) ∧ (cmpI X Y ≤ 0 ↔ X ≤ Y) := by
  unfold cmpI
  split
  · omega
  split <;> omega
def okB (x t : Nat) : Bool := decide (x ≤ t)
theorem okB_cmp (X Y : Nat) : decide (cmpI X Y ≤ 0) = okB X Y := by
  unfold okB
  exact decide_eq_decide.2 (cmpI_pos X Y).2
theorem okB_lv (x t : Nat) : decide (0 ≤ lvI x t) = okB x t := by
  unfold okB
  refine decide_eq_decide.2 ?_
  have := lvI_iff (x := x) (t := t) (j := 0) (by decide)
  simpa using this
theorem okB_just {x t j : Nat} (hj : j < 256) : okB x (t / 2 ^ j) = decide ((j : Int) ≤ lvI x t) := by
  unfold okB
  exact decide_eq_decide.2 (lvI_iff hj).symm
theorem beN_beL32 {Y : Nat} (h : Y < 2 ^ 256) : beN (beL 32 Y) = Y := beN_beL 32 Y (by rwa [show (256 : Nat) ^ 32 = 2 ^ 256 by decide])
end Go.Proofs.Ytalfgagcfjddcaa.Wk
