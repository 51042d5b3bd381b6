/- Plain laws on a number's bits, the lowest first. No condition. -/
import Derived.Test.YtalfgagcfjddcaaWiB
namespace Go.Proofs.Ytalfgagcfjddcaa.R4
open Go.RowKit Go.Proofs.Ytalfgagcfjddcaa.Ul Go.Proofs.Ytalfgagcfjddcaa.Wd Go.Proofs.Ytalfgagcfjddcaa.Wi
def bitsL (X n : Nat) : List Bool := (List.range n).map fun i => X.testBit i
theorem bitsL_len (X n : Nat) : (bitsL X n).length = n := by simp [bitsL]
theorem bitsL_succ (X n : Nat) : bitsL X (n + 1) = bitsL X n ++ [X.testBit n] := by simp [bitsL, List.range_succ]
theorem bitsL_get (X n i : Nat) (h : i < n) : (bitsL X n)[i]? = some (X.testBit i) := by simp [bitsL, h]
theorem byteAt (h : List UInt8) (j : Nat) (hl : h.length = 32) (hj : j < 32) : (h[31 - j]'(by omega)).toNat = dg 256 (beN h) j := by
  have e := beL_beN h
  rw [hl] at e
  have g : ∀ n X i, i < n → (beL n X)[i]? = some (UInt8.ofNat (X / 256 ^ (n - 1 - i))) := by
    intro n
    induction n with
    | zero => intro X i hi; omega
    | succ n ih =>
      intro X i hi
      rw [beL]
      cases i with
      | zero => simp
      | succ i => rw [List.getElem?_cons_succ, ih X i (by omega), show n + 1 - 1 - (i + 1) = n - 1 - i by omega]
  have h1 := g 32 (beN h) (31 - j) (by omega)
  rw [e, List.getElem?_eq_getElem (by omega), show 32 - 1 - (31 - j) = j by omega] at h1
  rw [Option.some.inj h1, UInt8.toNat_ofNat']
  rfl
theorem bit_of_byte (X j k : Nat) (hk : k < 8) : (((dg 256 X j / 2 ^ k : Nat) : Int) % 2 == 1) = X.testBit (8 * j + k) := by
  have e := dg_bit 8 X j k
  rw [show (2 : Nat) ^ 8 = 256 by decide] at e
  rw [decide_eq_true hk, Bool.true_and] at e
  rw [← e, Nat.testBit_eq_decide_div_mod_eq]
  generalize dg 256 X j / 2 ^ k = y
  rw [Bool.eq_iff_iff]
  simp only [beq_iff_eq, decide_eq_true_eq]
  omega
theorem byte_half (y k : Nat) : y / 2 ^ k / 2 = y / 2 ^ (k + 1) := by rw [Nat.div_div_eq_div_mul, Nat.pow_succ]
def HiB (X Y m : Nat) : Prop := X / 2 ^ m = Y / 2 ^ m
theorem HiB.top {X Y n : Nat} (hX : X < 2 ^ n) (hY : Y < 2 ^ n) : HiB X Y n := by
  unfold HiB
  rw [Nat.div_eq_of_lt hX, Nat.div_eq_of_lt hY]
theorem HiB.zero {X Y : Nat} (h : HiB X Y 0) : X = Y := by simpa [HiB] using h
theorem HiB.step {X Y m : Nat} (h : HiB X Y (m + 1)) : (X.testBit m = false → Y.testBit m = true → cmpI X Y = -1) ∧ (X.testBit m = true → Y.testBit m = false → cmpI X Y = 1) ∧ (X.testBit m = Y.testBit m → HiB X Y m) := by
  have hx := dg2 X m
  have hy := dg2 Y m
  refine ⟨fun h1 h2 => cmpI_lt ((dg_cmp (B := 2) (by decide) h).1 ?_), fun h1 h2 => cmpI_gt ((dg_cmp (B := 2) (by decide) h.symm).1 ?_), fun he => (dg_cmp (B := 2) (by decide) h).2 ?_⟩
  · rw [hx, hy, h1, h2]; decide
  · rw [hx, hy, h1, h2]; decide
  · rw [hx, hy, he]
theorem lim (X : Nat) : X < (2 ^ 64) ^ 4 ↔ X < 2 ^ 256 := by rw [← Nat.pow_mul]
def bn (b : Bool) : Nat := if b = true then 1 else 0
theorem bn_le (b : Bool) : bn b ≤ 1 := by cases b <;> decide
def cr2 (X Y k : Nat) : Nat := (X % 2 ^ k + Y % 2 ^ k) / 2 ^ k
theorem cr2_zero (X Y : Nat) : cr2 X Y 0 = 0 := by simp [cr2, Nat.mod_one]
theorem cr2_le (X Y k : Nat) : cr2 X Y k ≤ 1 := by
  have hP : 0 < 2 ^ k := Nat.pow_pos (by decide)
  have h1 := Nat.mod_lt X hP
  have h2 := Nat.mod_lt Y hP
  unfold cr2
  rw [Nat.div_le_iff_le_mul_add_pred hP]
  omega
theorem add2_step (X Y k : Nat) : ((((bn (X.testBit k) + bn (Y.testBit k) + cr2 X Y k : Nat) : Int) % 2 == 1) = (X + Y).testBit k) ∧ cr2 X Y (k + 1) = (bn (X.testBit k) + bn (Y.testBit k) + cr2 X Y k) / 2 := by
  have h := dg_add (B := 2) (by decide) X Y k
  have hx := dg2 X k
  have hy := dg2 Y k
  have hs := dg2 (X + Y) k
  have h1 : dg 2 (X + Y) k = (bn (X.testBit k) + bn (Y.testBit k) + cr2 X Y k) % 2 := by rw [h.1, hx, hy]; rfl
  have h2 : cr2 X Y (k + 1) = (bn (X.testBit k) + bn (Y.testBit k) + cr2 X Y k) / 2 := by
    have := h.2
    rw [hx, hy] at this
    exact this
  refine ⟨?_, h2⟩
  generalize bn (X.testBit k) + bn (Y.testBit k) + cr2 X Y k = n at *
  cases hb : (X + Y).testBit k
  · rw [hb] at hs
    rw [beq_eq_false_iff_ne]
    simp at hs
    omega
  · rw [hb] at hs
    rw [beq_iff_eq]
    simp at hs
    omega
def bo2 (X Y k : Nat) : Nat := if X % 2 ^ k < Y % 2 ^ k then 1 else 0
theorem bo2_zero (X Y : Nat) : bo2 X Y 0 = 0 := by simp [bo2, Nat.mod_one]
theorem bo2_le (X Y k : Nat) : bo2 X Y k ≤ 1 := by unfold bo2; split <;> omega
theorem sub2_step {X Y k : Nat} (hY : Y ≤ 2 ^ 256) (hk : k < 256) : ∃ d : Nat, d ≤ 1 ∧ (((d : Int) == 1) = (df X Y).testBit k) ∧
    (((0 : Int) ≤ bn (X.testBit k) - bn (Y.testBit k) - bo2 X Y k ∧ (bn (X.testBit k) : Int) - bn (Y.testBit k) - bo2 X Y k = d ∧ bo2 X Y (k + 1) = 0) ∨
     ((bn (X.testBit k) : Int) - bn (Y.testBit k) - bo2 X Y k < 0 ∧ (bn (X.testBit k) : Int) - bn (Y.testBit k) - bo2 X Y k + 2 = d ∧ bo2 X Y (k + 1) = 1)) := by
  have h := dg_sub (B := 2) (by decide) (X := X) (Y := Y) (n := 256) (k := k) hY hk
  have h2 := borrow_succ (B := 2) (by decide) X Y k
  have hx := dg2 X k
  have hy := dg2 Y k
  have hs := dg2 (df X Y) k
  have hxl := bn_le (X.testBit k)
  have hyl := bn_le (Y.testBit k)
  have hbl := bo2_le X Y k
  have e1 : dg 2 X k = (dg 2 (df X Y) k + dg 2 Y k + bo2 X Y k) % 2 := h
  have e2 : bo2 X Y (k + 1) = if dg 2 X k < dg 2 Y k + bo2 X Y k then 1 else 0 := by
    have e : bo2 X Y (k + 1) = if X % 2 ^ (k + 1) < Y % 2 ^ (k + 1) then 1 else 0 := rfl
    have h2' : X % 2 ^ (k + 1) < Y % 2 ^ (k + 1) ↔ dg 2 X k < dg 2 Y k + bo2 X Y k := h2
    rw [e]
    by_cases c : X % 2 ^ (k + 1) < Y % 2 ^ (k + 1)
    · rw [if_pos c, if_pos (h2'.1 c)]
    · rw [if_neg c, if_neg (mt h2'.2 c)]
  have hx' : dg 2 X k = bn (X.testBit k) := hx
  have hy' : dg 2 Y k = bn (Y.testBit k) := hy
  have hd := dg_lt (B := 2) (by decide) (df X Y) k
  rw [hx', hy'] at e1 e2
  refine ⟨dg 2 (df X Y) k, by omega, ?_, ?_⟩
  · cases hb : (df X Y).testBit k
    · rw [hb] at hs
      rw [beq_eq_false_iff_ne]
      simp at hs
      omega
    · rw [hb] at hs
      rw [beq_iff_eq]
      simp at hs
      omega
  · clear h h2 hx hy hs hx' hy'
    generalize bn (X.testBit k) = x at *
    generalize bn (Y.testBit k) = y at *
    generalize bo2 X Y k = b at *
    generalize dg 2 (df X Y) k = d at *
    split at e2 <;> omega
theorem shr_bit0 {X i : Nat} {n : Int} (h : n ≤ 0) : (shrI X n).testBit i = X.testBit i := by rw [shrI, if_pos h]
theorem shr_bit {X i : Nat} {n : Int} (h : 0 < n) : (shrI X n).testBit i = X.testBit (i + n.toNat) := by
  rw [shrI, if_neg (by omega), Nat.testBit_div_two_pow]
theorem shr_bit1 {X i : Nat} {n : Int} (hX : X < 2 ^ 256) (h : 0 < n) (hn : 256 - (i : Int) ≤ n) : (shrI X n).testBit i = false := by
  rw [shr_bit h]
  exact Nat.testBit_lt_two_pow (Nat.lt_of_lt_of_le hX (Nat.pow_le_pow_right (by decide) (by omega)))
theorem bl_mod_succ (X k : Nat) : bl (X % 2 ^ (k + 1)) = if X.testBit k = true then k + 1 else bl (X % 2 ^ k) := by
  have h := mod_succ (B := 2) (by decide) X k
  rw [dg2] at h
  have hP := Nat.mod_lt X (Nat.pow_pos (n := k) (show 0 < 2 by decide))
  by_cases hb : X.testBit k = true
  · rw [if_pos hb, Nat.mul_one] at h
    rw [if_pos hb]
    refine bl_eq ?_ (fun _ => ?_)
    · rw [h, Nat.pow_succ]; omega
    · rw [h, Nat.add_sub_cancel]; omega
  · rw [if_neg hb, Nat.mul_zero] at h
    rw [if_neg hb, h, Nat.add_zero]
def hiX (X i : Nat) : Nat := X / 2 ^ (256 - i) * 2 ^ (256 - i)
theorem hiX_bit (X i j : Nat) : (hiX X i).testBit j = (decide (256 - i ≤ j) && X.testBit j) := by
  unfold hiX
  rw [Nat.testBit_mul_two_pow, Nat.testBit_div_two_pow]
  by_cases h : 256 - i ≤ j
  · simp [h]
  · simp [h]
theorem hiX_all (X : Nat) : hiX X 256 = X := by simp [hiX]
theorem hiX_zero {X : Nat} (h : X < 2 ^ 256) : hiX X 0 = 0 := by
  unfold hiX
  rw [Nat.sub_zero, Nat.div_eq_of_lt h, Nat.zero_mul]
theorem hiX_same {X i : Nat} (hi : i < 256) (hb : X.testBit (255 - i) = false) : hiX X (i + 1) = hiX X i := by
  apply Nat.eq_of_testBit_eq
  intro j
  rw [hiX_bit, hiX_bit]
  by_cases h : j = 255 - i
  · subst h
    simp [hb]
  · rw [decide_eq_decide.2 (show (256 - (i + 1) ≤ j) ↔ (256 - i ≤ j) by omega)]
theorem byte_bit (Y m r : Nat) : (dg 256 Y m).testBit r = (decide (r < 8) && Y.testBit (8 * m + r)) := dg_bit 8 Y m r
/-- the byte in place q -/
def hb (X i q : Nat) : Nat := dg 256 (hiX X i) (31 - q)
theorem hb_other {X i q : Nat} (hi : i < 256) (hq : q < 32) (hn : q ≠ i / 8) : hb X (i + 1) q = hb X i q := by
  unfold hb
  apply Nat.eq_of_testBit_eq
  intro r
  rw [byte_bit, byte_bit, hiX_bit, hiX_bit]
  by_cases hr : r < 8
  · rw [decide_eq_decide.2 (show (256 - (i + 1) ≤ 8 * (31 - q) + r) ↔ (256 - i ≤ 8 * (31 - q) + r) by omega)]
  · simp [hr]
theorem hb_this {X i : Nat} (hi : i < 256) (h1 : X.testBit (255 - i) = true) : hb X (i + 1) (i / 8) = hb X i (i / 8) + 2 ^ (7 - i % 8) := by
  have hz : hb X i (i / 8) % 2 ^ (8 - i % 8) = 0 := by
    apply Nat.eq_of_testBit_eq
    intro r
    rw [Nat.testBit_mod_two_pow, hb, byte_bit, hiX_bit, Nat.zero_testBit]
    by_cases hr : r < 8 - i % 8
    · have : ¬ 256 - i ≤ 8 * (31 - i / 8) + r := by omega
      simp [this]
    · simp [hr]
  rw [← nat_join (8 - i % 8) _ _ hz (Nat.pow_lt_pow_right (by decide) (by omega))]
  apply Nat.eq_of_testBit_eq
  intro r
  rw [Nat.testBit_or, Nat.testBit_two_pow, hb, hb, byte_bit, byte_bit, hiX_bit, hiX_bit]
  by_cases hr : r < 8
  · by_cases h7 : 7 - i % 8 = r
    · have e : 8 * (31 - i / 8) + r = 255 - i := by omega
      rw [e]
      simp [hr, h7, h1]
    · have e : decide (256 - (i + 1) ≤ 8 * (31 - i / 8) + r) = decide (256 - i ≤ 8 * (31 - i / 8) + r) := decide_eq_decide.2 (by omega)
      rw [e]
      simp [h7]
  · have : ¬ 7 - i % 8 = r := by omega
    simp [hr, this]
theorem pow7 (i : Nat) : (128 : Int) / 2 ^ (i % 8) = ((2 ^ (7 - i % 8) : Nat) : Int) := by
  have : i % 8 < 8 := Nat.mod_lt _ (by decide)
  generalize i % 8 = r at *
  match r, this with
  | 0, _ | 1, _ | 2, _ | 3, _ | 4, _ | 5, _ | 6, _ | 7, _ => decide
theorem hb_lt (X i q : Nat) : hb X i q < 256 := dg_lt (by decide) _ _
theorem lb_bit (X i : Nat) : Go.bits .and .u64 ((lb X (i / 64) : Int) / 2 ^ (i % 64)) 1 = if X.testBit i = true then 1 else 0 := by
  have e1 : ((lb X (i / 64) : Int) / 2 ^ (i % 64)) = ((lb X (i / 64) / 2 ^ (i % 64) : Nat) : Int) := by simp
  have e2 := dg_bit 64 X (i / 64) (i % 64)
  have e3 : 64 * (i / 64) + i % 64 = i := by omega
  rw [e3, decide_eq_true (Nat.mod_lt _ (by decide)), Bool.true_and] at e2
  have hl : lb X (i / 64) / 2 ^ (i % 64) < 18446744073709551616 := Nat.lt_of_le_of_lt (Nat.div_le_self _ _) (lb_lt _ _)
  rw [e1, show (1 : Int) = ((1 : Nat) : Int) from rfl, u64_and_nat _ _ hl (by decide), Nat.and_one_is_mod]
  have e4 : X.testBit i = decide (lb X (i / 64) / 2 ^ (i % 64) % 2 = 1) := by rw [← e2, Nat.testBit_eq_decide_div_mod_eq]; rfl
  rw [e4]
  generalize lb X (i / 64) / 2 ^ (i % 64) = y
  by_cases hy : y % 2 = 1
  · simp [hy]
  · have : y % 2 = 0 := by omega
    simp [this]
theorem cr_cr2 (X Y : Nat) : cr2 X Y 256 = cr X Y 4 := by unfold cr cr2; rw [← Nat.pow_mul]
theorem bo_bo2 (X Y : Nat) : bo2 X Y 256 = bo X Y 4 := by unfold bo bo2; rw [← Nat.pow_mul]
theorem beL_mod256 (X : Nat) : beL 32 (X % 2 ^ 256) = beL 32 X := by
  have := beL_mod 32 X
  rwa [show (256 : Nat) ^ 32 = 2 ^ 256 by decide] at this
theorem back_fc {X Y : Nat} (hX : X < (2 ^ 64) ^ 4) : ∀ i, i < 4 → lb (df (X + Y) Y) i = lb X i := by
  intro i hi
  have e : df (X + Y) Y = X + (2 ^ 64) ^ 4 := by
    unfold df
    rw [show (2 : Nat) ^ 256 = (2 ^ 64) ^ 4 by decide]
    omega
  unfold lb
  rw [e, ← dg_mod (B := 2 ^ 64) (by decide) (X + (2 ^ 64) ^ 4) 4 i hi, Nat.add_mod_right, dg_mod (B := 2 ^ 64) (by decide) X 4 i hi]
theorem back_bo {X Y : Nat} (hX : X < (2 ^ 64) ^ 4) (hY : Y < (2 ^ 64) ^ 4) : bo (X + Y) Y 4 = cr X Y 4 := by
  unfold bo cr
  generalize (2 ^ 64) ^ 4 = P at *
  rw [Nat.mod_eq_of_lt hX, Nat.mod_eq_of_lt hY]
  by_cases h : X + Y < P
  · rw [Nat.mod_eq_of_lt h, if_neg (by omega), Nat.div_eq_of_lt h]
  · have e : X + Y = (X + Y - P) + P := by omega
    have e1 : (X + Y) % P = X + Y - P := by
      have : (X + Y - P + P) % P = X + Y - P := by rw [Nat.add_mod_right, Nat.mod_eq_of_lt (by omega)]
      rwa [← e] at this
    have e2 : (X + Y) / P = 1 := by
      have : (X + Y - P + P) / P = 1 := by rw [Nat.add_div_right _ (by omega), Nat.div_eq_of_lt (by omega)]
      rwa [← e] at this
    rw [e1, e2, if_pos (by omega)]
def Hi8 (X Y m : Nat) : Prop := X / 256 ^ m = Y / 256 ^ m
theorem Hi8.top {X Y n : Nat} (hX : X < 256 ^ n) (hY : Y < 256 ^ n) : Hi8 X Y n := by
  unfold Hi8
  rw [Nat.div_eq_of_lt hX, Nat.div_eq_of_lt hY]
theorem Hi8.zero {X Y : Nat} (h : Hi8 X Y 0) : X = Y := by simpa [Hi8] using h
theorem Hi8.step {X Y m : Nat} (h : Hi8 X Y (m + 1)) : (dg 256 X m < dg 256 Y m → cmpI X Y = -1) ∧ (dg 256 Y m < dg 256 X m → cmpI X Y = 1) ∧ (dg 256 X m = dg 256 Y m → Hi8 X Y m) :=
  ⟨fun hl => cmpI_lt ((dg_cmp (B := 256) (by decide) h).1 hl), fun hl => cmpI_gt ((dg_cmp (B := 256) (by decide) h.symm).1 hl), fun he => (dg_cmp (B := 256) (by decide) h).2 he⟩
theorem byteFor (h : List UInt8) (i : Nat) (hl : h.length = 32) (hi : i < 32) : (h[i]'(by omega)).toNat = dg 256 (beN h) (31 - i) := by
  have e := byteAt h (31 - i) hl (by omega)
  have : 31 - (31 - i) = i := by omega
  simp only [this] at e
  exact e
end Go.Proofs.Ytalfgagcfjddcaa.R4
