/- Plain laws: sums, products and quotients in halves of limbs. No condition. -/
import Derived.Test.YtihdeanfcbiflaaDoorWiMath
namespace Go.Proofs.YtihdeanfcbiflaaDoor.Lg
open Go.RowKit Go.Proofs.YtihdeanfcbiflaaDoor.Ul Go.Proofs.YtihdeanfcbiflaaDoor.Wi
theorem wu64 (x : Int) (h0 : 0 ≤ x) (h1 : x < 18446744073709551616) : IntKind.u64.wrap x = x := by rw [IntKind.wrap_u64]; omega
theorem and_mask (a : Nat) (ha : a < 18446744073709551616) : Go.bits .and .u64 (a : Int) 4294967295 = ((a % 4294967296 : Nat) : Int) := by
  rw [show (4294967295 : Int) = ((4294967295 : Nat) : Int) from rfl, u64_and_nat a _ ha (by decide), show (4294967295 : Nat) = 2 ^ 32 - 1 by decide, Nat.and_two_pow_sub_one_eq_mod]
theorem or_halves (h l : Nat) (hl : l < 4294967296) : Go.bits .or .u64 (IntKind.u64.wrap ((h : Int) * 4294967296)) (l : Int) = ((h % 4294967296 * 4294967296 + l : Nat) : Int) := by
  have e : IntKind.u64.wrap ((h : Int) * 4294967296) = ((h % 4294967296 * 4294967296 : Nat) : Int) := by rw [IntKind.wrap_u64]; omega
  rw [e, u64_or_nat _ _ (by omega) (by omega), nat_join 32 _ _ (by omega) (by omega)]
/-- two halves of a sum: s is the whole -/
theorem halves (lo hi s : Nat) (hs : s = hi * 4294967296 + lo) (hl : lo < 18446744073709551616) :
    ((hi : Int) + (lo : Int) / 4294967296 = ((hi + lo / 4294967296 : Nat) : Int)) ∧
    (((hi + lo / 4294967296 : Nat) : Int) / 4294967296 = ((s / 18446744073709551616 : Nat) : Int)) ∧
    (Go.bits .or .u64 (IntKind.u64.wrap (((hi + lo / 4294967296 : Nat) : Int) * 4294967296)) (Go.bits .and .u64 (lo : Int) 4294967295) = ((s % 18446744073709551616 : Nat) : Int)) := by
  refine ⟨by omega, by omega, ?_⟩
  rw [and_mask lo hl, or_halves _ _ (by omega)]
  omega
theorem add_halves {a b c : Nat} (ha : a < 18446744073709551616) (hb : b < 18446744073709551616) (hc : c ≤ 1) :
    IntKind.u64.wrap ((a : Int) / 4294967296 + (b : Int) / 4294967296 + IntKind.u64.wrap (IntKind.u64.wrap (Go.bits .and .u64 (a : Int) 4294967295 + Go.bits .and .u64 (b : Int) 4294967295) + (c : Int)) / 4294967296) / 4294967296 = (((a + b + c) / 18446744073709551616 : Nat) : Int) ∧
    Go.bits .or .u64 (IntKind.u64.wrap (IntKind.u64.wrap ((a : Int) / 4294967296 + (b : Int) / 4294967296 + IntKind.u64.wrap (IntKind.u64.wrap (Go.bits .and .u64 (a : Int) 4294967295 + Go.bits .and .u64 (b : Int) 4294967295) + (c : Int)) / 4294967296) * 4294967296))
      (Go.bits .and .u64 (IntKind.u64.wrap (IntKind.u64.wrap (Go.bits .and .u64 (a : Int) 4294967295 + Go.bits .and .u64 (b : Int) 4294967295) + (c : Int))) 4294967295) = (((a + b + c) % 18446744073709551616 : Nat) : Int) := by
  rw [and_mask a ha, and_mask b hb]
  have e1 : IntKind.u64.wrap (IntKind.u64.wrap (((a % 4294967296 : Nat) : Int) + ((b % 4294967296 : Nat) : Int)) + (c : Int)) = ((a % 4294967296 + b % 4294967296 + c : Nat) : Int) := by
    rw [wu64 (((a % 4294967296 : Nat) : Int) + ((b % 4294967296 : Nat) : Int)) (by omega) (by omega), wu64 _ (by omega) (by omega)]
    omega
  have h := halves (a % 4294967296 + b % 4294967296 + c) (a / 4294967296 + b / 4294967296) (a + b + c) (by omega) (by omega)
  have e2 : IntKind.u64.wrap ((a : Int) / 4294967296 + (b : Int) / 4294967296 + ((a % 4294967296 + b % 4294967296 + c : Nat) : Int) / 4294967296) = ((a / 4294967296 + b / 4294967296 + (a % 4294967296 + b % 4294967296 + c) / 4294967296 : Nat) : Int) := by
    rw [wu64 _ (by omega) (by omega)]
    omega
  rw [e1, e2]
  exact h.2
theorem cr5 {X Y : Nat} (hX : X < (2 ^ 64) ^ 5) (hY : Y < (2 ^ 64) ^ 5) : cr X Y 5 = 0 ↔ X + Y < (2 ^ 64) ^ 5 := by
  unfold cr
  generalize (2 ^ 64) ^ 5 = P at *
  rw [Nat.mod_eq_of_lt hX, Nat.mod_eq_of_lt hY, Nat.div_eq_zero_iff]
  omega
/-- a number that has at most 320 bits -/
def fits (Z : Nat) : Bool := decide (Z < (2 ^ 64) ^ 5)
/-- a number, 0 where there is none -/
def okX (b : Bool) (Z : Nat) : Nat := if b = true then Z else 0
/-- a number and whether it is one -/
def LR (Z : Nat) : Value := .tuple #[UV 5 (okX (fits Z) Z), .bool (fits Z)]
theorem LR_yes {Z : Nat} (h : Z < (2 ^ 64) ^ 5) : LR Z = .tuple #[UV 5 Z, .bool true] := by unfold LR fits okX; rw [decide_eq_true h, if_pos rfl]
theorem LR_no {Z : Nat} (h : ¬ Z < (2 ^ 64) ^ 5) : LR Z = .tuple #[UV 5 0, .bool false] := by unfold LR fits okX; rw [decide_eq_false h, if_neg (by decide)]
/-- what a product carries into a limb -/
def mc (X y k : Nat) : Nat := (X % (2 ^ 64) ^ k * y) / (2 ^ 64) ^ k
theorem mc_zero (X y : Nat) : mc X y 0 = 0 := by simp [mc, Nat.mod_one]
theorem mc_le (X y k : Nat) : mc X y k ≤ y := by
  have hP : 0 < (2 ^ 64) ^ k := Nat.pow_pos (n := k) (show 0 < 2 ^ 64 by decide)
  unfold mc
  rw [Nat.div_le_iff_le_mul hP]
  have h1 := Nat.mul_le_mul_right y (Nat.le_of_lt (Nat.mod_lt X hP))
  rw [Nat.mul_comm ((2 ^ 64) ^ k) y] at h1
  omega
theorem dg_mul {B : Nat} (hB : 0 < B) (X y k : Nat) : dg B (X * y) k = (dg B X k * y + (X % B ^ k * y) / B ^ k) % B ∧ (X % B ^ (k + 1) * y) / B ^ (k + 1) = (dg B X k * y + (X % B ^ k * y) / B ^ k) / B := by
  have hP : 0 < B ^ k := Nat.pow_pos hB
  constructor
  · have e : X * y / B ^ k = X / B ^ k * y + (X % B ^ k * y) / B ^ k := by
      have e1 : X * y = X % B ^ k * y + B ^ k * (X / B ^ k * y) := by
        have h1 := Nat.div_add_mod X (B ^ k)
        rw [← Nat.mul_assoc, ← Nat.add_mul, Nat.add_comm, h1]
      have e2 : (X % B ^ k * y + B ^ k * (X / B ^ k * y)) / B ^ k = (X % B ^ k * y) / B ^ k + X / B ^ k * y := Nat.add_mul_div_left _ _ hP
      rw [← e1] at e2
      omega
    unfold dg
    rw [e]
    generalize X / B ^ k = q
    generalize X % B ^ k * y / B ^ k = m
    have h1 : q * y % B = q % B * y % B := by simp [Nat.mul_mod]
    rw [Nat.add_mod, h1, ← Nat.add_mod]
  · have e : X % B ^ (k + 1) * y = X % B ^ k * y + B ^ k * (dg B X k * y) := by rw [mod_succ hB X k, Nat.add_mul, Nat.mul_assoc]
    rw [e, Nat.pow_succ, ← Nat.div_div_eq_div_mul, Nat.add_mul_div_left _ _ hP, Nat.add_comm]
theorem mc_step (X y k : Nat) : lb (X * y) k = (lb X k * y + mc X y k) % 18446744073709551616 ∧ mc X y (k + 1) = (lb X k * y + mc X y k) / 18446744073709551616 := dg_mul (B := 2 ^ 64) (by decide) X y k
theorem mc5 {X y : Nat} (hX : X < (2 ^ 64) ^ 5) : mc X y 5 = 0 ↔ X * y < (2 ^ 64) ^ 5 := by
  unfold mc
  rw [Nat.mod_eq_of_lt hX, Nat.div_eq_zero_iff]
  have : (2 ^ 64) ^ 5 ≠ 0 := by decide
  omega
theorem mul_halves {a y c : Nat} (ha : a < 18446744073709551616) (hy : y < 4294967296) (hc : c ≤ y) :
    IntKind.u64.wrap (IntKind.u64.wrap ((a : Int) / 4294967296 * (y : Int)) + IntKind.u64.wrap (IntKind.u64.wrap (Go.bits .and .u64 (a : Int) 4294967295 * (y : Int)) + (c : Int)) / 4294967296) / 4294967296 = (((a * y + c) / 18446744073709551616 : Nat) : Int) ∧
    Go.bits .or .u64 (IntKind.u64.wrap (IntKind.u64.wrap (IntKind.u64.wrap ((a : Int) / 4294967296 * (y : Int)) + IntKind.u64.wrap (IntKind.u64.wrap (Go.bits .and .u64 (a : Int) 4294967295 * (y : Int)) + (c : Int)) / 4294967296) * 4294967296))
      (Go.bits .and .u64 (IntKind.u64.wrap (IntKind.u64.wrap (Go.bits .and .u64 (a : Int) 4294967295 * (y : Int)) + (c : Int))) 4294967295) = (((a * y + c) % 18446744073709551616 : Nat) : Int) := by
  rw [and_mask a ha]
  have p1 : a % 4294967296 * y ≤ 4294967295 * 4294967295 := Nat.mul_le_mul (by omega) (by omega)
  have p2 : a / 4294967296 * y ≤ 4294967295 * 4294967295 := Nat.mul_le_mul (by omega) (by omega)
  have p3 : a * y = a / 4294967296 * y * 4294967296 + a % 4294967296 * y := by
    have := Nat.div_add_mod a 4294967296
    rw [Nat.mul_right_comm, ← Nat.add_mul, Nat.mul_comm (a / 4294967296), this]
  have q1 : ((a % 4294967296 : Nat) : Int) * (y : Int) = ((a % 4294967296 * y : Nat) : Int) := by simp
  have q2 : (a : Int) / 4294967296 * (y : Int) = ((a / 4294967296 * y : Nat) : Int) := by simp
  rw [q1, q2, p3]
  generalize a % 4294967296 * y = P at *
  generalize a / 4294967296 * y = Q at *
  have e1 : IntKind.u64.wrap (IntKind.u64.wrap (P : Int) + (c : Int)) = ((P + c : Nat) : Int) := by
    rw [wu64 (P : Int) (by omega) (by omega), wu64 _ (by omega) (by omega)]
    omega
  have h := halves (P + c) Q (Q * 4294967296 + P + c) (by omega) (by omega)
  have e2 : IntKind.u64.wrap (IntKind.u64.wrap (Q : Int) + ((P + c : Nat) : Int) / 4294967296) = ((Q + (P + c) / 4294967296 : Nat) : Int) := by
    rw [wu64 (Q : Int) (by omega) (by omega), wu64 _ (by omega) (by omega)]
    omega
  rw [e1, e2]
  exact h.2
theorem lb_shl_low (X s b i : Nat) (hi : i < s) : lb (X * 2 ^ (64 * s + b)) i = 0 := dg_shl_low 64 X s b i hi
theorem lb_shl0 (X s i : Nat) (hi : s ≤ i) : lb (X * 2 ^ (64 * s + 0)) i = lb X (i - s) := dg_shl0 64 X s i hi
theorem lb_shl (X s b i : Nat) (hb : b < 64) (hb0 : 0 < b) (hi : s ≤ i) : lb (X * 2 ^ (64 * s + b)) i = (lb X (i - s) * 2 ^ b) % 18446744073709551616 ||| (if s < i then lb X (i - s - 1) / 2 ^ (64 - b) else 0) := dg_shl 64 X s b i hb hb0 hi
theorem shl_fits {X n : Nat} (h : X ≠ 0) : X * 2 ^ n < (2 ^ 64) ^ 5 ↔ n + bl X ≤ 320 := by
  have e : (2 ^ 64) ^ 5 = 2 ^ (64 * 5) := (Nat.pow_mul 2 64 5).symm
  obtain ⟨m, hm⟩ : ∃ m, m = 64 * 5 := ⟨_, rfl⟩
  rw [← hm] at e
  have h1 := bl_le m (X * 2 ^ n)
  rw [bl_shl h] at h1
  rw [e, ← h1]
  omega
theorem bl_pos' {X : Nat} (h : X ≠ 0) : 0 < bl X := by
  apply Nat.pos_of_ne_zero
  intro e
  have := (bl_le 0 X).1 (by omega)
  omega
theorem shl_wrap (a m : Nat) : IntKind.u64.wrap ((a : Int) * 2 ^ m) = (((a * 2 ^ m) % 18446744073709551616 : Nat) : Int) := by
  rw [IntKind.wrap_u64]
  simp
theorem or_nats (a c m : Nat) (ha : a < 18446744073709551616) (hc : c < 18446744073709551616) : Go.bits .or .u64 (a : Int) ((c : Int) / 2 ^ m) = ((a ||| c / 2 ^ m : Nat) : Int) := by
  have e : ((c : Int) / 2 ^ m) = ((c / 2 ^ m : Nat) : Int) := by simp
  rw [e, u64_or_nat _ _ ha (Nat.lt_of_le_of_lt (Nat.div_le_self _ _) hc)]
def shlV (X : Nat) (n : Int) : Value := if n < 0 then .tuple #[UV 5 0, .bool false] else LR (X * 2 ^ n.toNat)
theorem shlV_neg {X : Nat} {n : Int} (h : n < 0) : shlV X n = .tuple #[UV 5 0, .bool false] := if_pos h
theorem shlV_nat (X n : Nat) : shlV X n = LR (X * 2 ^ n) := by unfold shlV; rw [if_neg (by omega)]; rfl
theorem shlV_pos {X : Nat} {n : Int} (h : 0 ≤ n) : shlV X n = LR (X * 2 ^ n.toNat) := if_neg (by omega)
theorem bl320 {X : Nat} (h : X < (2 ^ 64) ^ 5) : bl X ≤ 320 := by
  obtain ⟨m, hm⟩ : ∃ m, m = 64 * 5 := ⟨_, rfl⟩
  have e : (2 ^ 64) ^ 5 = 2 ^ m := by rw [hm]; exact (Nat.pow_mul 2 64 5).symm
  have := (bl_le m X).2 (e ▸ h)
  omega
theorem mul_parts (X y : Nat) : X * (y % 4294967296) + X * (y / 4294967296) * 2 ^ 32 = X * y := by
  have e : y = y % 4294967296 + y / 4294967296 * 2 ^ 32 := by omega
  rw [Nat.mul_assoc, ← Nat.mul_add, ← e]
/-- what is left of the limbs from m on -/
def rm (X y m : Nat) : Nat := X / (2 ^ 64) ^ m % y
theorem rm_lt {X y m : Nat} (hy : 0 < y) : rm X y m < y := Nat.mod_lt _ hy
theorem rm_top {X y : Nat} (hX : X < (2 ^ 64) ^ 5) : rm X y 5 = 0 := by unfold rm; rw [Nat.div_eq_of_lt hX, Nat.zero_mod]
theorem rm_zero (X y : Nat) : rm X y 0 = X % y := by unfold rm; rw [Nat.pow_zero, Nat.div_one]
theorem dg_div {B : Nat} (hB : 0 < B) {X y m : Nat} (hy : 0 < y) : X / B ^ m % y = (X / B ^ (m + 1) % y * B + dg B X m) % y ∧ dg B (X / y) m = (X / B ^ (m + 1) % y * B + dg B X m) / y := by
  have h1 := dg_hi hB X m
  have hd := dg_lt hB X m
  generalize dg B X m = a at *
  have h2 := Nat.div_add_mod (X / B ^ (m + 1)) y
  have hl := Nat.mod_lt (X / B ^ (m + 1)) hy
  have e3 : dg B (X / y) m = X / B ^ m / y % B := by
    unfold dg
    rw [Nat.div_div_eq_div_mul, Nat.div_div_eq_div_mul, Nat.mul_comm]
  generalize X / B ^ (m + 1) / y = Q at *
  generalize X / B ^ (m + 1) % y = l at *
  have e : X / B ^ m = (l * B + a) + y * (Q * B) := by
    rw [h1, ← h2, Nat.add_mul, Nat.mul_assoc]
    omega
  constructor
  · rw [e, Nat.add_mul_mod_self_left]
  · rw [e3, e, Nat.add_mul_div_left _ _ hy, Nat.add_mul_mod_self_right, Nat.mod_eq_of_lt]
    rw [Nat.div_lt_iff_lt_mul hy]
    have h5 : (l + 1) * B ≤ y * B := Nat.mul_le_mul_right B hl
    rw [Nat.succ_mul] at h5
    rw [Nat.mul_comm B y]
    omega
theorem rm_step {X y m : Nat} (hy : 0 < y) : rm X y m = (rm X y (m + 1) * 2 ^ 64 + lb X m) % y ∧ lb (X / y) m = (rm X y (m + 1) * 2 ^ 64 + lb X m) / y := dg_div (B := 2 ^ 64) (by decide) hy
/-- one limb divided, half by half -/
theorem div_halves {a l y : Nat} (ha : a < 18446744073709551616) (hy : 0 < y) (hy2 : y < 4294967296) (hl : l < y) : ∃ H L : Nat, H < 18446744073709551616 ∧ L < 18446744073709551616 ∧
    Go.bits .or .u64 (IntKind.u64.wrap ((l : Int) * 4294967296)) ((a : Int) / 4294967296) = (H : Int) ∧
    Go.bits .or .u64 (IntKind.u64.wrap (((H % y : Nat) : Int) * 4294967296)) (Go.bits .and .u64 (a : Int) 4294967295) = (L : Int) ∧
    L % y = (l * 2 ^ 64 + a) % y ∧
    Go.bits .or .u64 (IntKind.u64.wrap (((H / y : Nat) : Int) * 4294967296)) ((L / y : Nat) : Int) = (((l * 2 ^ 64 + a) / y : Nat) : Int) := by
  have r1 := Nat.mod_lt (l * 4294967296 + a / 4294967296) hy
  refine ⟨l * 4294967296 + a / 4294967296, (l * 4294967296 + a / 4294967296) % y * 4294967296 + a % 4294967296, by omega, by omega, ?_, ?_, ?_, ?_⟩
  · have e : (a : Int) / 4294967296 = ((a / 4294967296 : Nat) : Int) := by omega
    rw [e, or_halves _ _ (by omega)]
    omega
  · rw [and_mask a ha, or_halves _ _ (by omega)]
    omega
  · have e : l * 2 ^ 64 + a = ((l * 4294967296 + a / 4294967296) % y * 4294967296 + a % 4294967296) + y * ((l * 4294967296 + a / 4294967296) / y * 4294967296) := by
      have := Nat.div_add_mod (l * 4294967296 + a / 4294967296) y
      rw [← Nat.mul_assoc]
      omega
    rw [e, Nat.add_mul_mod_self_left]
  · have e : l * 2 ^ 64 + a = ((l * 4294967296 + a / 4294967296) % y * 4294967296 + a % 4294967296) + y * ((l * 4294967296 + a / 4294967296) / y * 4294967296) := by
      have := Nat.div_add_mod (l * 4294967296 + a / 4294967296) y
      rw [← Nat.mul_assoc]
      omega
    have b1 : (l * 4294967296 + a / 4294967296) / y < 4294967296 := by
      rw [Nat.div_lt_iff_lt_mul hy]
      have h5 : (l + 1) * 4294967296 ≤ y * 4294967296 := Nat.mul_le_mul_right _ hl
      omega
    have b2 : ((l * 4294967296 + a / 4294967296) % y * 4294967296 + a % 4294967296) / y < 4294967296 := by
      rw [Nat.div_lt_iff_lt_mul hy]
      have h5 : ((l * 4294967296 + a / 4294967296) % y + 1) * 4294967296 ≤ y * 4294967296 := Nat.mul_le_mul_right _ r1
      omega
    rw [e, Nat.add_mul_div_left _ _ hy, or_halves _ _ b2, Nat.mod_eq_of_lt b1, Nat.add_comm]
end Go.Proofs.YtihdeanfcbiflaaDoor.Lg
