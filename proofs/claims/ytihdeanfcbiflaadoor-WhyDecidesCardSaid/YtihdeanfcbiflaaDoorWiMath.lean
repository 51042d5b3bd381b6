/- Plain laws: sums and differences limb by limb. No condition. -/
import Derived.Test.YtihdeanfcbiflaaDoorUl
import Derived.Laws.BitsAllLaws
namespace Go.Proofs.YtihdeanfcbiflaaDoor.Wi
open Go.RowKit Go.Proofs.YtihdeanfcbiflaaDoor.Ul
/-- what is carried into a limb -/
def cr (X Y k : Nat) : Nat := (X % (2 ^ 64) ^ k + Y % (2 ^ 64) ^ k) / (2 ^ 64) ^ k
theorem cr_zero (X Y : Nat) : cr X Y 0 = 0 := by simp [cr, Nat.mod_one]
theorem lb_add (X Y k : Nat) : lb (X + Y) k = (lb X k + lb Y k + cr X Y k) % 18446744073709551616 := (dg_add (B := 2 ^ 64) (by decide) X Y k).1
theorem cr_succ (X Y k : Nat) : cr X Y (k + 1) = (lb X k + lb Y k + cr X Y k) / 18446744073709551616 := (dg_add (B := 2 ^ 64) (by decide) X Y k).2
theorem cr_le (X Y k : Nat) : cr X Y k ≤ 1 := by
  have hP : 0 < (2 ^ 64) ^ k := Nat.pow_pos (n := k) (show 0 < 2 ^ 64 by decide)
  have h1 := Nat.mod_lt X hP
  have h2 := Nat.mod_lt Y hP
  unfold cr
  rw [Nat.div_le_iff_le_mul_add_pred hP]
  omega
/-- what is borrowed from a limb -/
def bo (X Y k : Nat) : Nat := if X % (2 ^ 64) ^ k < Y % (2 ^ 64) ^ k then 1 else 0
theorem bo_zero (X Y : Nat) : bo X Y 0 = 0 := by simp [bo, Nat.mod_one]
theorem bo_le (X Y k : Nat) : bo X Y k ≤ 1 := by unfold bo; split <;> omega
theorem bo_succ (X Y k : Nat) : bo X Y (k + 1) = if lb X k < lb Y k + bo X Y k then 1 else 0 := by
  have h : X % (2 ^ 64) ^ (k + 1) < Y % (2 ^ 64) ^ (k + 1) ↔ lb X k < lb Y k + bo X Y k := borrow_succ (B := 2 ^ 64) (by decide) X Y k
  have e : bo X Y (k + 1) = if X % (2 ^ 64) ^ (k + 1) < Y % (2 ^ 64) ^ (k + 1) then 1 else 0 := rfl
  rw [e]
  by_cases c : X % (2 ^ 64) ^ (k + 1) < Y % (2 ^ 64) ^ (k + 1)
  · rw [if_pos c, if_pos (h.1 c)]
  · rw [if_neg c, if_neg (mt h.2 c)]
def df (X Y : Nat) : Nat := X + 2 ^ 256 - Y
theorem lb_sub {X Y k : Nat} (hY : Y < 2 ^ 256) (hk : k < 4) : lb X k = (lb (df X Y) k + lb Y k + bo X Y k) % 18446744073709551616 := by
  have h := dg_sub (B := 2 ^ 64) (by decide) (X := X) (Y := Y) (n := 4) (k := k) (Nat.le_of_lt hY) hk
  exact h
theorem add_step {a b c d n : Nat} (hb : b < 18446744073709551616) (ha : a < 18446744073709551616) (hc : c ≤ 1) (h : d = (a + b + c) % 18446744073709551616) (hn : n = (a + b + c) / 18446744073709551616) :
    ∃ s : Nat, IntKind.u64.wrap ((a : Int) + b) = s ∧ IntKind.u64.wrap ((s : Int) + c) = d ∧ ((s < a ∧ n = 1) ∨ (a ≤ s ∧ d < s ∧ n = 1) ∨ (a ≤ s ∧ s ≤ d ∧ n = 0)) := by
  refine ⟨(a + b) % 18446744073709551616, ?_, ?_, ?_⟩
  · rw [IntKind.wrap_u64]; omega
  · rw [IntKind.wrap_u64]; omega
  · omega
theorem sub_step {a b c d n : Nat} (hb : b < 18446744073709551616) (ha : a < 18446744073709551616) (hd : d < 18446744073709551616) (hc : c ≤ 1) (h : a = (d + b + c) % 18446744073709551616) (hn : n = if a < b + c then 1 else 0) :
    ∃ s : Nat, IntKind.u64.wrap ((a : Int) - b) = s ∧ IntKind.u64.wrap ((s : Int) - c) = d ∧ ((a < s ∧ n = 1) ∨ (s ≤ a ∧ s < d ∧ n = 1) ∨ (s ≤ a ∧ d ≤ s ∧ n = 0)) := by
  by_cases hab : b ≤ a
  · refine ⟨a - b, ?_, ?_, ?_⟩
    · rw [IntKind.wrap_u64]; omega
    · rw [IntKind.wrap_u64]; omega
    · split at hn <;> omega
  · refine ⟨(d + c) % 18446744073709551616, ?_, ?_, ?_⟩
    · rw [IntKind.wrap_u64]; omega
    · rw [IntKind.wrap_u64]; omega
    · split at hn <;> omega
/-- how two numbers stand -/
def cmpI (X Y : Nat) : Int := if X < Y then -1 else if Y < X then 1 else 0
theorem cmpI_lt {X Y : Nat} (h : X < Y) : cmpI X Y = -1 := if_pos h
theorem cmpI_gt {X Y : Nat} (h : Y < X) : cmpI X Y = 1 := by unfold cmpI; rw [if_neg (by omega), if_pos h]
theorem cmpI_eq {X Y : Nat} (h : X = Y) : cmpI X Y = 0 := by unfold cmpI; rw [if_neg (by omega), if_neg (by omega)]
def HiEq (X Y m : Nat) : Prop := X / (2 ^ 64) ^ m = Y / (2 ^ 64) ^ m
theorem HiEq.top {X Y n : Nat} (hX : X < (2 ^ 64) ^ n) (hY : Y < (2 ^ 64) ^ n) : HiEq X Y n := by
  unfold HiEq
  rw [Nat.div_eq_of_lt hX, Nat.div_eq_of_lt hY]
theorem HiEq.zero {X Y : Nat} (h : HiEq X Y 0) : X = Y := by simpa [HiEq] using h
theorem HiEq.step {X Y m : Nat} (h : HiEq X Y (m + 1)) : (lb X m < lb Y m → cmpI X Y = -1) ∧ (lb Y m < lb X m → cmpI X Y = 1) ∧ (lb X m = lb Y m → HiEq X Y m) :=
  ⟨fun hl => cmpI_lt ((dg_cmp (B := 2 ^ 64) (by decide) h).1 hl), fun hl => cmpI_gt ((dg_cmp (B := 2 ^ 64) (by decide) h.symm).1 hl), fun he => (dg_cmp (B := 2 ^ 64) (by decide) h).2 he⟩
def Hi0 (X m : Nat) : Prop := X / (2 ^ 64) ^ m = 0
theorem Hi0.top {X n : Nat} (hX : X < (2 ^ 64) ^ n) : Hi0 X n := Nat.div_eq_of_lt hX
theorem Hi0.zero {X : Nat} (h : Hi0 X 0) : bl X = 0 := by
  have : X = 0 := by simpa [Hi0] using h
  rw [this, bl_zero]
theorem Hi0.step {X m : Nat} (h : Hi0 X (m + 1)) : (lb X m ≠ 0 → bl X = 64 * m + bl (lb X m)) ∧ (lb X m = 0 → Hi0 X m) := by
  have h1 : X / (2 ^ 64) ^ m = X / (2 ^ 64) ^ (m + 1) * 2 ^ 64 + lb X m := dg_hi (B := 2 ^ 64) (by decide) X m
  have h2 : X / (2 ^ 64) ^ (m + 1) = 0 := h
  rw [h2, Nat.zero_mul, Nat.zero_add] at h1
  refine ⟨fun h0 => bl_split ?_ h0, fun h0 => ?_⟩
  · rw [← pow_two]; exact h1
  · unfold Hi0; rw [h1, h0]
theorem bl64 (X m : Nat) : bl (lb X m) ≤ 64 := (bl_le 64 _).2 (lb_lt X m)
theorem lb_shr (X s b i : Nat) (hb : b < 64) (hb0 : 0 < b) : lb (X / 2 ^ (64 * s + b)) i = lb X (i + s) / 2 ^ b ||| (lb X (i + s + 1) * 2 ^ (64 - b)) % 18446744073709551616 := dg_shr 64 X s b i hb hb0
theorem lb_shr0 (X s i : Nat) : lb (X / 2 ^ (64 * s + 0)) i = lb X (i + s) := dg_shr0 64 X s i
theorem lb_top {X n i : Nat} (h : X < (2 ^ 64) ^ n) (hi : n ≤ i) : lb X i = 0 := dg_big (Nat.lt_of_lt_of_le h (Nat.pow_le_pow_right (by decide) hi))
theorem shr_top {X s b i : Nat} (h : X < (2 ^ 64) ^ 4) (hi : 4 ≤ i + s) : lb (X / 2 ^ (64 * s + b)) i = 0 := by
  refine dg_big ?_
  rw [Nat.div_lt_iff_lt_mul (Nat.pow_pos (by decide)), ← Nat.pow_mul, ← Nat.pow_add]
  rw [← Nat.pow_mul] at h
  exact Nat.lt_of_lt_of_le h (Nat.pow_le_pow_right (by decide) (by omega))
/-- a number without its lowest bits -/
def shrI (X : Nat) (n : Int) : Nat := if n ≤ 0 then X else X / 2 ^ n.toNat
theorem shrI_big {X : Nat} {n : Int} (h : X < (2 ^ 64) ^ 4) (hn : 256 ≤ n) : shrI X n = 0 := by
  unfold shrI
  rw [if_neg (by omega)]
  refine Nat.div_eq_of_lt (Nat.lt_of_lt_of_le h ?_)
  rw [← Nat.pow_mul]
  exact Nat.pow_le_pow_right (by decide) (by omega)
theorem lb_zero : lb 0 = fun _ => 0 := by
  funext i
  exact dg_zero i
theorem shrI_le (X : Nat) (n : Int) : shrI X n ≤ X := by
  unfold shrI
  split
  · exact Nat.le_refl _
  · exact Nat.div_le_self _ _
theorem or_shl (a c m : Nat) (ha : a < 18446744073709551616) : Go.bits .or .u64 (a : Int) (IntKind.u64.wrap ((c : Int) * 2 ^ m)) = ((a ||| (c * 2 ^ m) % 18446744073709551616 : Nat) : Int) := by
  have e : IntKind.u64.wrap ((c : Int) * 2 ^ m) = (((c * 2 ^ m) % 18446744073709551616 : Nat) : Int) := by
    rw [IntKind.wrap_u64]
    simp
  rw [e, u64_or_nat _ _ ha (Nat.mod_lt _ (by decide))]
theorem upd_upd (f : Nat → Nat) (k u v : Nat) : upd (upd f k u) k v = upd f k v := by
  funext i
  unfold upd
  split <;> rfl
theorem int_one (c : Nat) : ((c : Int) == 1) = (c == 1) := by
  rw [Bool.eq_iff_iff]
  simp
  omega
end Go.Proofs.YtihdeanfcbiflaaDoor.Wi
