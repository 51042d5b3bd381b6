/- Plain laws: the bytes of a number of 256 bits, eight by eight. No condition. -/
import Derived.Test.YtalfgagcfjddcaaWiMath
import Derived.Test.YtalfgagcfjddcaaWdMath
namespace Go.Proofs.Ytalfgagcfjddcaa.Wi
open Go.RowKit Go.Proofs.Ytalfgagcfjddcaa.Ul Go.Proofs.Ytalfgagcfjddcaa.Wd Go.Proofs.Ytalfgagcfjddcaa.Mk
theorem beL_app (a b X : Nat) : beL (a + b) X = beL a (X / 256 ^ b) ++ beL b X := by
  induction a with
  | zero => simp [beL]
  | succ a ih =>
    rw [show a + 1 + b = (a + b) + 1 by omega, beL, beL, ih, List.cons_append, Nat.div_div_eq_div_mul, ← Nat.pow_add, Nat.add_comm b a]
theorem beL_mod (a X : Nat) : beL a (X % 256 ^ a) = beL a X := by
  have h := beL_add a (X / 256 ^ a) (X % 256 ^ a)
  rw [Nat.mul_comm, Nat.div_add_mod] at h
  exact h.symm
theorem lb_256 (X m : Nat) : lb X m = X / 256 ^ (8 * m) % 256 ^ 8 := by
  unfold lb dg
  rw [show (2 : Nat) ^ 64 = 256 ^ 8 by decide, ← Nat.pow_mul]
theorem chunk (X k : Nat) (hk : k < 4) : ((beL 32 X).drop (8 * k)).take 8 = beL 8 (lb X (3 - k)) := by
  have e1 : beL 32 X = beL (8 * k) (X / 256 ^ (32 - 8 * k)) ++ beL (32 - 8 * k) X := by rw [← beL_app]; congr 1; omega
  have e2 : beL (32 - 8 * k) X = beL 8 (X / 256 ^ (8 * (3 - k))) ++ beL (8 * (3 - k)) X := by rw [← beL_app]; congr 1; omega
  rw [e1, List.drop_left' (beL_len _ _), e2, List.take_left' (beL_len _ _), lb_256, beL_mod]
theorem chunk_of (h : List UInt8) (hl : h.length = 32) (k : Nat) (hk : k < 4) : beN ((h.drop (8 * k)).take 8) = lb (beN h) (3 - k) := by
  have e := beL_beN h
  rw [hl] at e
  have c := chunk (beN h) k hk
  rw [e] at c
  rw [c, beN_beL _ _ (by have := lb_lt (beN h) (3 - k); simpa using this)]
theorem beN32 {h : List UInt8} (hl : h.length = 32) : beN h < (2 ^ 64) ^ 4 := by
  have := beN_lt h
  rw [hl] at this
  exact Nat.lt_of_lt_of_le this (by decide)
/-- the first k bytes of a sum, the others 0 -/
def fst (x : List UInt8) (k : Nat) : List UInt8 := x.take k ++ List.replicate (32 - k) 0
theorem fst_len (x : List UInt8) (k : Nat) (hx : x.length = 32) (hk : k ≤ 32) : (fst x k).length = 32 := by
  unfold fst
  rw [List.length_append, List.length_take, List.length_replicate]
  omega
theorem fst_zero (x : List UInt8) : fst x 0 = List.replicate 32 0 := by simp [fst]
theorem fst_all (x : List UInt8) (hx : x.length = 32) : fst x 32 = x := by
  unfold fst
  rw [List.take_of_length_le (by omega)]
  simp
theorem fst_step (x : List UInt8) (k : Nat) (hx : x.length = 32) (hk : k < 4) : (fst x (8 * k)).take (8 * k) ++ (x.drop (8 * k)).take 8 ++ (fst x (8 * k)).drop (8 * k + 8) = fst x (8 * (k + 1)) := by
  unfold fst
  have e0 : (x.take (8 * k)).length = 8 * k := by rw [List.length_take]; omega
  have e1 : (x.take (8 * k) ++ List.replicate (32 - 8 * k) (0 : UInt8)).take (8 * k) = x.take (8 * k) := List.take_left' e0
  have e2 : (x.take (8 * k) ++ List.replicate (32 - 8 * k) (0 : UInt8)).drop (8 * k + 8) = List.replicate (32 - 8 * (k + 1)) 0 := by
    rw [← List.drop_drop, List.drop_left' e0, List.drop_replicate]
    congr 1
  have e3 : x.take (8 * (k + 1)) = x.take (8 * k) ++ (x.drop (8 * k)).take 8 := by rw [show 8 * (k + 1) = 8 * k + 8 by omega, List.take_add]
  rw [e1, e2, e3]
end Go.Proofs.Ytalfgagcfjddcaa.Wi
