/- Plain laws on the bytes of a number, the highest first. No condition. -/
import Derived.WalkKit
namespace Go.Proofs.YtihdeanfcbiflaaDoor.Wd
open Go.RowKit
/-- the lowest n bytes of x, the highest first -/
def beL : Nat → Nat → List UInt8
  | 0, _ => []
  | k + 1, x => UInt8.ofNat (x / 256 ^ k) :: beL k x
theorem beL_len (k x : Nat) : (beL k x).length = k := by
  induction k with
  | zero => rfl
  | succ k ih => simp [beL, ih]
def beN (l : List UInt8) : Nat := l.foldl (fun a c => a * 256 + c.toNat) 0
theorem beN_snoc (l : List UInt8) (c : UInt8) : beN (l ++ [c]) = beN l * 256 + c.toNat := by simp [beN]
theorem beN_take (l : List UInt8) (k : Nat) (h : k < l.length) : beN (l.take (k + 1)) = beN (l.take k) * 256 + l[k].toNat := by
  rw [List.take_succ_eq_append_getElem h, beN_snoc]
theorem beN_cons (c : UInt8) (l : List UInt8) : beN (c :: l) = c.toNat * 256 ^ l.length + beN l := by
  have : ∀ (l : List UInt8) (a : Nat), l.foldl (fun a c => a * 256 + c.toNat) a = a * 256 ^ l.length + l.foldl (fun a c => a * 256 + c.toNat) 0 := by
    intro l
    induction l with
    | nil => intro a; simp
    | cons d l ih =>
      intro a
      rw [List.foldl_cons, List.foldl_cons, ih, ih (0 * 256 + d.toNat), List.length_cons, Nat.pow_succ, Nat.add_mul]
      rw [Nat.mul_assoc, Nat.mul_comm 256, Nat.zero_mul, Nat.zero_add, Nat.add_assoc]
  unfold beN
  rw [List.foldl_cons, this, Nat.zero_mul, Nat.zero_add]
theorem beN_lt (l : List UInt8) : beN l < 256 ^ l.length := by
  induction l with
  | nil => simp [beN]
  | cons c l ih =>
    rw [beN_cons, List.length_cons, Nat.pow_succ]
    have h1 := c.toNat_lt
    have h2 : c.toNat * 256 ^ l.length + 256 ^ l.length ≤ 256 ^ l.length * 256 := by
      rw [← Nat.succ_mul, Nat.mul_comm]
      exact Nat.mul_le_mul_left _ (by omega)
    omega
theorem beN_beL (k x : Nat) (h : x < 256 ^ k) : beN (beL k x) = x := by
  have : ∀ k x, beN (beL k x) = x % 256 ^ k := by
    intro k
    induction k with
    | zero => intro x; simp [beL, beN, Nat.mod_one]
    | succ k ih =>
      intro x
      have e : x % 256 ^ (k + 1) = x % 256 ^ k + 256 ^ k * (x / 256 ^ k % 256) := by rw [Nat.pow_succ, Nat.mod_mul]
      rw [beL, beN_cons, beL_len, ih, UInt8.toNat_ofNat', e, Nat.mul_comm, Nat.add_comm]
  rw [this, Nat.mod_eq_of_lt h]
theorem beL_add (k a x : Nat) : beL k (a * 256 ^ k + x) = beL k x := by
  induction k generalizing a with
  | zero => rfl
  | succ k ih =>
    have e : a * 256 ^ (k + 1) + x = (a * 256) * 256 ^ k + x := by rw [Nat.pow_succ, Nat.mul_assoc, Nat.mul_comm 256]
    rw [beL, beL, e, ih]
    congr 1
    apply UInt8.toNat.inj
    rw [UInt8.toNat_ofNat', UInt8.toNat_ofNat', Nat.add_comm, Nat.add_mul_div_right _ _ (Nat.pos_of_ne_zero (by simp)), Nat.add_mul_mod_self_right]
theorem beL_beN (l : List UInt8) : beL l.length (beN l) = l := by
  induction l with
  | nil => rfl
  | cons c l ih =>
    rw [List.length_cons, beL, beN_cons, beL_add, ih]
    congr 1
    have h := beN_lt l
    apply UInt8.toNat.inj
    rw [UInt8.toNat_ofNat', Nat.add_comm, Nat.add_mul_div_right _ _ (by omega), Nat.div_eq_of_lt h, Nat.zero_add]
    exact Nat.mod_eq_of_lt c.toNat_lt
theorem beN_lt8 (l : List UInt8) (h : l.length ≤ 7) : beN l < 72057594037927936 :=
  Nat.lt_of_lt_of_le (beN_lt l) (Nat.le_trans (Nat.pow_le_pow_right (by decide) h) (by decide))
theorem beN_lt64 (l : List UInt8) (h : l.length ≤ 8) : beN l < 18446744073709551616 :=
  Nat.lt_of_lt_of_le (beN_lt l) (Nat.le_trans (Nat.pow_le_pow_right (by decide) h) (by decide))
theorem div_step (x k : Nat) : x / 256 ^ k / 256 = x / 256 ^ (k + 1) := by rw [Nat.div_div_eq_div_mul, Nat.pow_succ]
end Go.Proofs.YtihdeanfcbiflaaDoor.Wd
