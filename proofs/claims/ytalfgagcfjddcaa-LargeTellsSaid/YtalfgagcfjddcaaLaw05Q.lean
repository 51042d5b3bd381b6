/- Plain laws on a number's digits read from the highest on. No condition. -/
import Derived.Test.YtalfgagcfjddcaaLgTMath
namespace Go.Proofs.Ytalfgagcfjddcaa.Lg
open Go.RowKit Go.Proofs.Ytalfgagcfjddcaa.Mk
theorem d10_get : ∀ (k X : Nat) (h : k < (d10 X).length), (d10 X)[k] = UInt8.ofNat (48 + X / 10 ^ k % 10)
  | 0, X, h => by
    have e : d10 X = UInt8.ofNat (48 + X % 10) :: (d10 X).tail := by
      by_cases h0 : X / 10 = 0
      · rw [d10_last h0]; rfl
      · rw [d10_more h0]; rfl
    have e2 : (d10 X)[0]? = some (UInt8.ofNat (48 + X % 10)) := by rw [e]; rfl
    rw [List.getElem?_eq_getElem h] at e2
    rw [Option.some.inj e2, Nat.pow_zero, Nat.div_one]
  | k + 1, X, h => by
    have h0 : X / 10 ≠ 0 := fun h0 => by rw [d10_last h0] at h; simp at h
    have hl : k < (d10 (X / 10)).length := by rw [d10_more h0] at h; simpa using h
    have e2 : (d10 X)[k + 1]? = some ((d10 (X / 10))[k]) := by rw [d10_more h0, List.getElem?_cons_succ, List.getElem?_eq_getElem hl]
    rw [List.getElem?_eq_getElem h] at e2
    rw [Option.some.inj e2, d10_get k (X / 10) hl, Nat.div_div_eq_div_mul, Nat.pow_succ, Nat.mul_comm 10]
theorem d10_lt (X : Nat) : X < 10 ^ (d10 X).length := by
  induction X using Nat.strongRecOn with
  | ind X ih =>
    by_cases h0 : X / 10 = 0
    · rw [d10_last h0]; simp; omega
    · rw [d10_more h0, List.length_cons, Nat.pow_succ]
      have := ih (X / 10) (by omega)
      omega
/-- what the first i digits tell -/
def pf (X i : Nat) : Nat := X / 10 ^ ((decL X).length - i)
/-- the digit at i -/
def dgt (X i : Nat) : Nat := X / 10 ^ ((decL X).length - 1 - i) % 10
theorem dgt_lt (X i : Nat) : dgt X i < 10 := Nat.mod_lt _ (by decide)
theorem decL_get (X i : Nat) (h : i < (decL X).length) : ((decL X)[i]).toNat = 48 + dgt X i := by
  have hl : (decL X).length = (d10 X).length := by simp [decL]
  have e : (decL X)[i] = (d10 X)[(d10 X).length - 1 - i]'(by omega) := by simp only [decL, List.getElem_reverse]
  have := dgt_lt X i
  rw [e, d10_get, ← hl]
  show (UInt8.ofNat (48 + dgt X i)).toNat = _
  rw [UInt8.toNat_ofNat_of_lt' (by show _ < 256; omega)]
theorem pf_zero (X : Nat) : pf X 0 = 0 := by
  have hl : (decL X).length = (d10 X).length := by simp [decL]
  unfold pf
  rw [Nat.sub_zero, hl]
  exact Nat.div_eq_of_lt (d10_lt X)
theorem pf_step (X i : Nat) (h : i < (decL X).length) : pf X i * 10 + dgt X i = pf X (i + 1) := by
  unfold pf dgt
  rw [show (decL X).length - i = (decL X).length - 1 - i + 1 by omega, show (decL X).length - (i + 1) = (decL X).length - 1 - i by omega, Nat.pow_succ, ← Nat.div_div_eq_div_mul]
  have := Nat.div_add_mod (X / 10 ^ ((decL X).length - 1 - i)) 10
  omega
theorem pf_done (X : Nat) : pf X (decL X).length = X := by unfold pf; rw [Nat.sub_self, Nat.pow_zero, Nat.div_one]
theorem pf_le (X i : Nat) : pf X i ≤ X := Nat.div_le_self _ _
end Go.Proofs.Ytalfgagcfjddcaa.Lg
