/- Plain laws of chapter 6: how numbers stand to others less their part of delta. No condition. -/
import Derived.Test.YtfelbjiflceopaaLgMath
namespace Go.Proofs.Ytfelbjiflceopaa.Rt
open Go.RowKit Go.Proofs.Ytfelbjiflceopaa.Ul Go.Proofs.Ytfelbjiflceopaa.Wi Go.Proofs.Ytfelbjiflceopaa.Lg
/-- may delta be? -/
def mayR (a b : Int) : Bool := decide (0 < a ∧ a < b ∧ b ≤ 65536)
/-- may a power be? -/
def upR (up : Int) : Bool := decide (0 ≤ up ∧ up ≤ 255)
theorem mayR_iff {a b : Int} : mayR a b = true ↔ 0 < a ∧ a < b ∧ b ≤ 65536 := decide_eq_true_iff
theorem upR_iff {u : Int} : upR u = true ↔ 0 ≤ u ∧ u ≤ 255 := decide_eq_true_iff
/-- a product -/
def prodX (n b : Nat) (up : Int) : Nat := if upR up = true then n * b * 2 ^ up.toNat else 0
theorem prod_lt {n b u : Nat} (hn : n < 4294967296) (hb : b < 4294967296) (hu : u ≤ 255) : n * b * 2 ^ u < (2 ^ 64) ^ 5 := by
  have h1 : n * b < 2 ^ 64 := Nat.lt_of_le_of_lt (Nat.mul_le_mul (Nat.le_of_lt_succ hn) (Nat.le_of_lt_succ hb)) (by decide)
  have h2 : 2 ^ u ≤ 2 ^ 255 := Nat.pow_le_pow_right (by decide) hu
  have h3 : n * b * 2 ^ u < 2 ^ 64 * 2 ^ 255 := Nat.lt_of_lt_of_le ((Nat.mul_lt_mul_right (Nat.two_pow_pos u)).2 h1) (Nat.mul_le_mul_left _ h2)
  exact Nat.lt_trans h3 (by decide)
theorem prodX_lt {n b : Nat} (up : Int) (hn : n < 4294967296) (hb : b < 4294967296) : prodX n b up < (2 ^ 64) ^ 5 := by
  unfold prodX
  split
  · rename_i h
    have := upR_iff.1 h
    exact prod_lt hn hb (by omega)
  · exact Nat.pow_pos (by decide)
/-- is it above? -/
def aboveR (n d : Nat) (up a b : Int) : Bool := mayR a b && (upR up && decide (d * (b - a).toNat < n * b.toNat * 2 ^ up.toNat))
/-- is it that, or above? -/
def leastR (n d : Nat) (up a b : Int) : Bool := mayR a b && (upR up && decide (d * (b - a).toNat ≤ n * b.toNat * 2 ^ up.toNat))
/-- how it stands -/
def cmpR (n d : Nat) (up a b : Int) : Int := if mayR a b = true ∧ upR up = true then cmpI (n * b.toNat * 2 ^ up.toNat) (d * (b - a).toNat) else 2
theorem cmpI_one {x y : Nat} : (cmpI x y = 1) ↔ y < x := by
  unfold cmpI
  split
  · constructor
    · intro h; omega
    · intro h; omega
  · split
    · constructor
      · intro _; omega
      · intro _; rfl
    · constructor
      · intro h; omega
      · intro h; omega
theorem cmpI_ge {x y : Nat} : (cmpI x y = 0 ∨ cmpI x y = 1) ↔ y ≤ x := by
  unfold cmpI
  split
  · constructor
    · intro h; omega
    · intro h; omega
  · split
    · constructor
      · intro _; omega
      · intro _; exact .inr rfl
    · constructor
      · intro h; omega
      · intro h; exact .inl rfl
theorem cmpI_pos {x y : Nat} : 0 < cmpI x y ↔ y < x := by
  unfold cmpI
  split
  · constructor <;> intro h <;> omega
  · split
    · constructor <;> intro h <;> omega
    · constructor <;> intro h <;> omega
theorem cmpI_nn {x y : Nat} : 0 ≤ cmpI x y ↔ y ≤ x := by
  unfold cmpI
  split
  · constructor <;> intro h <;> omega
  · split
    · constructor <;> intro h <;> omega
    · constructor <;> intro h <;> omega
theorem above_cmp (n d : Nat) (up a b : Int) : aboveR n d up a b = (cmpR n d up a b == 1) := by
  unfold aboveR cmpR
  cases mayR a b <;> cases upR up <;> simp <;> try rfl
  rw [Bool.eq_iff_iff]
  simp [cmpI_one]
theorem least_cmp (n d : Nat) (up a b : Int) : leastR n d up a b = ((cmpR n d up a b == 0) || (cmpR n d up a b == 1)) := by
  unfold leastR cmpR
  cases mayR a b <;> cases upR up <;> simp <;> try rfl
  rw [Bool.eq_iff_iff]
  simp [cmpI_ge]
theorem grow {n1 n2 d1 d2 u1 u2 b c : Nat} (hn : n1 ≤ n2) (hd : d2 ≤ d1) (hu : u1 ≤ u2) : n1 * b * 2 ^ u1 ≤ n2 * b * 2 ^ u2 ∧ d2 * c ≤ d1 * c :=
  ⟨Nat.mul_le_mul (Nat.mul_le_mul_right _ hn) (Nat.pow_le_pow_right (by decide) hu), Nat.mul_le_mul_right _ hd⟩
theorem above_least {n d : Nat} {up a b : Int} (h : aboveR n d up a b = true) : leastR n d up a b = true := by
  unfold aboveR at h
  unfold leastR
  simp only [Bool.and_eq_true, decide_eq_true_eq] at *
  exact ⟨h.1, h.2.1, Nat.le_of_lt h.2.2⟩
theorem above_grows {n1 n2 d1 d2 : Nat} {u1 u2 a b : Int} (hn : n1 ≤ n2) (hd : d2 ≤ d1) (hu : u1 ≤ u2) (h2 : u2 ≤ 255) (h : aboveR n1 d1 u1 a b = true) : aboveR n2 d2 u2 a b = true := by
  unfold aboveR at *
  simp only [Bool.and_eq_true, decide_eq_true_eq, upR_iff] at *
  have := grow (b := b.toNat) (c := (b - a).toNat) hn hd (show u1.toNat ≤ u2.toNat by omega)
  exact ⟨h.1, ⟨by omega, h2⟩, by omega⟩
theorem least_grows {n1 n2 d1 d2 : Nat} {u1 u2 a b : Int} (hn : n1 ≤ n2) (hd : d2 ≤ d1) (hu : u1 ≤ u2) (h2 : u2 ≤ 255) (h : leastR n1 d1 u1 a b = true) : leastR n2 d2 u2 a b = true := by
  unfold leastR at *
  simp only [Bool.and_eq_true, decide_eq_true_eq, upR_iff] at *
  have := grow (b := b.toNat) (c := (b - a).toNat) hn hd (show u1.toNat ≤ u2.toNat by omega)
  exact ⟨h.1, ⟨by omega, h2⟩, by omega⟩
end Go.Proofs.Ytfelbjiflceopaa.Rt
