/- Plain laws on the digits of a number to any base, the lowest first; on bits. No condition. -/
import Derived.WalkKit
namespace Go.Proofs.YtihdeanfcbiflaaDoor.Ul
/-- the i-th digit to base B -/
def dg (B X i : Nat) : Nat := X / B ^ i % B
set_option linter.unusedVariables false
section
variable {B : Nat}
theorem dg_lt (hB : 0 < B) (X i : Nat) : dg B X i < B := Nat.mod_lt _ hB
theorem dg_hi (hB : 0 < B) (X m : Nat) : X / B ^ m = X / B ^ (m + 1) * B + dg B X m := by
  have h := Nat.div_add_mod (X / B ^ m) B
  rw [Nat.div_div_eq_div_mul, ← Nat.pow_succ, Nat.mul_comm] at h
  exact h.symm
theorem mod_succ (hB : 0 < B) (X k : Nat) : X % B ^ (k + 1) = X % B ^ k + B ^ k * dg B X k := by
  rw [Nat.pow_succ, Nat.mod_mul]
  rfl
theorem dg_cmp (hB : 0 < B) {X Y m : Nat} (h : X / B ^ (m + 1) = Y / B ^ (m + 1)) : (dg B X m < dg B Y m → X < Y) ∧ (dg B X m = dg B Y m → X / B ^ m = Y / B ^ m) := by
  have h1 := dg_hi hB X m
  have h2 := dg_hi hB Y m
  rw [h] at h1
  refine ⟨fun hl => ?_, fun he => by rw [h1, h2, he]⟩
  apply Nat.lt_of_not_le
  intro hle
  have := Nat.div_le_div_right (c := B ^ m) hle
  omega
theorem dg_add (hB : 0 < B) (X Y k : Nat) : dg B (X + Y) k = (dg B X k + dg B Y k + (X % B ^ k + Y % B ^ k) / B ^ k) % B ∧
    (X % B ^ (k + 1) + Y % B ^ (k + 1)) / B ^ (k + 1) = (dg B X k + dg B Y k + (X % B ^ k + Y % B ^ k) / B ^ k) / B := by
  have hP : 0 < B ^ k := Nat.pow_pos hB
  constructor
  · have e : (X + Y) / B ^ k = X / B ^ k + Y / B ^ k + (X % B ^ k + Y % B ^ k) / B ^ k := by
      have e1 : X + Y = (X % B ^ k + Y % B ^ k) + B ^ k * (X / B ^ k + Y / B ^ k) := by
        have h1 := Nat.div_add_mod X (B ^ k)
        have h2 := Nat.div_add_mod Y (B ^ k)
        rw [Nat.mul_add]
        omega
      rw [e1, Nat.add_mul_div_left _ _ hP]
      omega
    unfold dg
    rw [e]
    simp only [Nat.add_mod, Nat.mod_mod]
  · rw [mod_succ hB X k, mod_succ hB Y k]
    have e : X % B ^ k + B ^ k * dg B X k + (Y % B ^ k + B ^ k * dg B Y k) = (X % B ^ k + Y % B ^ k) + B ^ k * (dg B X k + dg B Y k) := by
      rw [Nat.mul_add]
      omega
    rw [e, Nat.pow_succ, ← Nat.div_div_eq_div_mul, Nat.add_mul_div_left _ _ hP, Nat.add_comm]
theorem dg_mod (hB : 0 < B) (X n i : Nat) (h : i < n) : dg B (X % B ^ n) i = dg B X i := by
  unfold dg
  have e : B ^ n = B ^ i * (B * B ^ (n - i - 1)) := by rw [← Nat.pow_succ', ← Nat.pow_add]; congr 1; omega
  rw [e, Nat.mod_mul_right_div_self, Nat.mod_mul_right_mod]
theorem dg_ext (hB : 0 < B) {X Y : Nat} : ∀ n, (∀ i, i < n → dg B X i = dg B Y i) → X % B ^ n = Y % B ^ n
  | 0, _ => by simp [Nat.mod_one]
  | n + 1, h => by rw [mod_succ hB, mod_succ hB, dg_ext hB n (fun i hi => h i (by omega)), h n (by omega)]
theorem dg_ext' (hB : 0 < B) {X Y n : Nat} (hx : X < B ^ n) (hy : Y < B ^ n) (h : ∀ i, i < n → dg B X i = dg B Y i) : X = Y := by
  have := dg_ext hB n h
  rwa [Nat.mod_eq_of_lt hx, Nat.mod_eq_of_lt hy] at this
theorem lex_lt (hB : 0 < B) {P a b x y : Nat} (hx : x < P) (hy : y < P) : x + P * a < y + P * b ↔ a < b + (if x < y then 1 else 0) := by
  have key : ∀ {a b x y : Nat}, x < P → a < b → x + P * a < y + P * b := by
    intro a b x y hx h
    have := Nat.mul_le_mul_left P (show a + 1 ≤ b by omega)
    rw [Nat.mul_succ] at this
    omega
  rcases Nat.lt_trichotomy a b with h | h | h
  · exact ⟨fun _ => by omega, fun _ => key hx h⟩
  · subst h
    by_cases hxy : x < y
    · rw [if_pos hxy]; omega
    · rw [if_neg hxy]; omega
  · have h2 := key (y := x) hy h
    constructor
    · intro h3; omega
    · intro h3
      split at h3 <;> omega
/-- what is borrowed below a digit -/
theorem borrow_succ (hB : 0 < B) (X Y k : Nat) : (X % B ^ (k + 1) < Y % B ^ (k + 1)) ↔ dg B X k < dg B Y k + (if X % B ^ k < Y % B ^ k then 1 else 0) := by
  have hP : 0 < B ^ k := Nat.pow_pos hB
  rw [mod_succ hB X k, mod_succ hB Y k]
  exact lex_lt hB (Nat.mod_lt _ hP) (Nat.mod_lt _ hP)
theorem dg_sub (hB : 0 < B) {X Y n k : Nat} (hY : Y ≤ B ^ n) (hk : k < n) : dg B X k = (dg B (X + B ^ n - Y) k + dg B Y k + (if X % B ^ k < Y % B ^ k then 1 else 0)) % B := by
  have hP : 0 < B ^ k := Nat.pow_pos hB
  have hs : X + B ^ n - Y + Y = X + B ^ n := by omega
  have h1 := (dg_add hB (X + B ^ n - Y) Y k).1
  rw [hs] at h1
  have e0 : dg B (X + B ^ n) k = dg B X k := by
    rw [← dg_mod hB (X + B ^ n) n k hk, Nat.add_mod_right, dg_mod hB X n k hk]
  rw [e0] at h1
  rw [h1]
  have e1 : B ^ n = B ^ k * B ^ (n - k) := by rw [← Nat.pow_add]; congr 1; omega
  have e2 : ((X + B ^ n - Y) % B ^ k + Y % B ^ k) % B ^ k = X % B ^ k := by
    rw [← Nat.add_mod, hs, e1, Nat.add_mul_mod_self_left]
  have l1 := Nat.mod_lt (X + B ^ n - Y) hP
  have l2 := Nat.mod_lt Y hP
  have l3 := Nat.mod_lt X hP
  generalize (X + B ^ n - Y) % B ^ k = d at *
  generalize Y % B ^ k = y at *
  generalize X % B ^ k = x at *
  generalize B ^ k = P at *
  congr 2
  by_cases hdy : d + y < P
  · rw [Nat.mod_eq_of_lt hdy] at e2
    rw [Nat.div_eq_of_lt hdy, if_neg (by omega)]
  · have e3 : d + y = (d + y - P) + P := by omega
    have e4 : (d + y) % P = d + y - P := by
      have : (d + y - P + P) % P = d + y - P := by rw [Nat.add_mod_right, Nat.mod_eq_of_lt (by omega)]
      rwa [← e3] at this
    rw [e4] at e2
    have e5 : (d + y) / P = 1 := by
      have : (d + y - P + P) / P = 1 := by rw [Nat.add_div_right _ hP, Nat.div_eq_of_lt (by omega)]
      rwa [← e3] at this
    rw [e5, if_pos (by omega)]
theorem dg_zero (i : Nat) : dg B 0 i = 0 := by simp [dg]
theorem dg_big {X i : Nat} (h : X < B ^ i) : dg B X i = 0 := by
  unfold dg
  rw [Nat.div_eq_of_lt h, Nat.zero_mod]
end
/-! ### lists of digits -/
def val (B : Nat) : List Nat → Nat
  | [] => 0
  | a :: l => a + B * val B l
def digs (B n X : Nat) : List Nat := (List.range n).map (dg B X)
theorem digs_len (B n X : Nat) : (digs B n X).length = n := by simp [digs]
theorem digs_get (B n X i : Nat) (h : i < n) : (digs B n X)[i]? = some (dg B X i) := by simp [digs, h]
theorem val_lt {B : Nat} : ∀ (l : List Nat), (∀ x ∈ l, x < B) → val B l < B ^ l.length
  | [], _ => by simp [val]
  | a :: l, h => by
    have h1 := val_lt l (fun x hx => h x (by simp [hx]))
    have h2 := h a (by simp)
    rw [val, List.length_cons, Nat.pow_succ']
    have := Nat.mul_le_mul_left B (show val B l + 1 ≤ B ^ l.length by omega)
    rw [Nat.mul_succ] at this
    omega
theorem dg_val {B : Nat} : ∀ (l : List Nat) (i : Nat), (∀ x ∈ l, x < B) → (h : i < l.length) → dg B (val B l) i = l[i]
  | [], i, _, h => by simp at h
  | a :: l, 0, hl, _ => by
    have := hl a (by simp)
    rw [val, dg, Nat.pow_zero, Nat.div_one, Nat.add_mul_mod_self_left, Nat.mod_eq_of_lt this]
    rfl
  | a :: l, i + 1, hl, h => by
    have ha := hl a (by simp)
    have ih := dg_val l i (fun x hx => hl x (by simp [hx])) (by simpa using h)
    rw [List.getElem_cons_succ, ← ih, val, dg, Nat.pow_succ', ← Nat.div_div_eq_div_mul, Nat.add_mul_div_left _ _ (by omega), Nat.div_eq_of_lt ha, Nat.zero_add]
    rfl
theorem digs_val {B : Nat} (l : List Nat) (h : ∀ x ∈ l, x < B) : digs B l.length (val B l) = l := by
  apply List.ext_getElem
  · simp [digs]
  · intro i h1 h2
    simp only [digs, List.getElem_map, List.getElem_range]
    exact dg_val l i h h2
theorem val_digs {B : Nat} (hB : 0 < B) (n X : Nat) (h : X < B ^ n) : val B (digs B n X) = X := by
  have hl : ∀ x ∈ digs B n X, x < B := by
    intro x hx
    obtain ⟨i, _, rfl⟩ := List.mem_map.1 hx
    exact dg_lt hB X i
  refine dg_ext' hB (n := n) ?_ h ?_
  · have := val_lt _ hl
    rwa [digs_len] at this
  · intro i hi
    have := dg_val (digs B n X) i hl (by rw [digs_len]; exact hi)
    rw [this]
    simp [digs]
/-! ### how many bits -/
def bl (x : Nat) : Nat := if h : x = 0 then 0 else bl (x / 2) + 1
termination_by x
decreasing_by omega
theorem bl_zero : bl 0 = 0 := by rw [bl]; simp
theorem bl_pos (x : Nat) (h : 0 < x) : bl x = bl (x / 2) + 1 := by rw [bl, dif_neg (by omega)]
theorem bl_le (n : Nat) : ∀ x, bl x ≤ n ↔ x < 2 ^ n := by
  induction n with
  | zero =>
    intro x
    by_cases h : x = 0
    · subst h; simp [bl_zero]
    · rw [bl_pos x (by omega)]; omega
  | succ n ih =>
    intro x
    by_cases h : x = 0
    · subst h; simp [bl_zero, Nat.pow_pos]
    · rw [bl_pos x (by omega)]
      have := ih (x / 2)
      rw [Nat.pow_succ]
      omega
theorem bl_eq {x n : Nat} (h1 : x < 2 ^ n) (h2 : 0 < n → 2 ^ (n - 1) ≤ x) : bl x = n := by
  have a := (bl_le n x).2 h1
  by_cases hn : 0 < n
  · have b := mt (bl_le (n - 1) x).1 (by have := h2 hn; omega)
    omega
  · omega
theorem bl_split {X m s : Nat} (h : X / 2 ^ s = m) (h0 : m ≠ 0) : bl X = s + bl m := by
  have key : ∀ j, X < 2 ^ (s + j) ↔ m < 2 ^ j := by
    intro j
    rw [← h, Nat.div_lt_iff_lt_mul (Nat.pow_pos (by decide)), ← Nat.pow_add, Nat.add_comm]
  have hm : 0 < bl m := by
    apply Nat.pos_of_ne_zero
    intro e
    have := (bl_le 0 m).1 (by omega)
    omega
  refine bl_eq ((key _).2 ((bl_le _ _).1 (Nat.le_refl _))) (fun _ => ?_)
  rw [show s + bl m - 1 = s + (bl m - 1) by omega]
  apply Nat.le_of_not_lt
  intro hlt
  have := (bl_le _ _).2 ((key _).1 hlt)
  omega
theorem bl_big {X n : Nat} (h : X < 2 ^ n) : bl X ≤ n := (bl_le n X).2 h
/-! ### bits -/
theorem bit_dg (X i : Nat) : (dg 2 X i == 1) = X.testBit i := by
  rw [Nat.testBit_eq_decide_div_mod_eq]
  rfl
theorem dg2 (X i : Nat) : dg 2 X i = if X.testBit i = true then 1 else 0 := by
  have h1 := bit_dg X i
  have h2 := dg_lt (B := 2) (by decide) X i
  rw [← h1]
  by_cases h : dg 2 X i = 1
  · simp [h]
  · have : dg 2 X i = 0 := by omega
    simp [this]
theorem pow_two (s i : Nat) : (2 ^ s) ^ i = 2 ^ (s * i) := (Nat.pow_mul 2 s i).symm
theorem dg_bit (s X i j : Nat) : (dg (2 ^ s) X i).testBit j = (decide (j < s) && X.testBit (s * i + j)) := by
  unfold dg
  rw [pow_two, Nat.testBit_mod_two_pow, Nat.testBit_div_two_pow, Nat.add_comm j]
/-- a digit of what is shifted -/
theorem dg_shr (s X n b i : Nat) (hb : b < s) (hb0 : 0 < b) : dg (2 ^ s) (X / 2 ^ (s * n + b)) i = dg (2 ^ s) X (i + n) / 2 ^ b ||| (dg (2 ^ s) X (i + n + 1) * 2 ^ (s - b)) % 2 ^ s := by
  apply Nat.eq_of_testBit_eq
  intro j
  rw [dg_bit, Nat.testBit_or, Nat.testBit_div_two_pow, Nat.testBit_div_two_pow, dg_bit, Nat.testBit_mod_two_pow, Nat.testBit_mul_two_pow, dg_bit]
  by_cases hj : j < s
  · by_cases h1 : j + b < s
    · have e1 : s * i + j + (s * n + b) = s * (i + n) + (j + b) := by rw [Nat.mul_add]; omega
      have n1 : ¬ s - b ≤ j := by omega
      simp [hj, h1, n1, e1]
    · have e1 : s * i + j + (s * n + b) = s * (i + n + 1) + (j - (s - b)) := by rw [Nat.mul_add, Nat.mul_add]; omega
      have n1 : s - b ≤ j := by omega
      have n2 : j - (s - b) < s := by omega
      simp [hj, h1, n1, n2, e1]
  · have n1 : ¬ j + b < s := by omega
    simp [hj, n1]
theorem dg_shr0 (s X n i : Nat) : dg (2 ^ s) (X / 2 ^ (s * n)) i = dg (2 ^ s) X (i + n) := by
  unfold dg
  rw [pow_two, pow_two, Nat.div_div_eq_div_mul, ← Nat.pow_add, ← Nat.mul_add, Nat.add_comm n i]
/-- digits of what is shifted up -/
theorem dg_shl_low (s X n b i : Nat) (hi : i < n) : dg (2 ^ s) (X * 2 ^ (s * n + b)) i = 0 := by
  apply Nat.eq_of_testBit_eq
  intro j
  rw [dg_bit, Nat.testBit_mul_two_pow, Nat.zero_testBit]
  by_cases hj : j < s
  · have h1 := Nat.mul_le_mul_left s (show i + 1 ≤ n by omega)
    rw [Nat.mul_succ] at h1
    have : ¬ s * n + b ≤ s * i + j := by omega
    simp [this]
  · simp [hj]
theorem dg_shl0 (s X n i : Nat) (hi : n ≤ i) : dg (2 ^ s) (X * 2 ^ (s * n + 0)) i = dg (2 ^ s) X (i - n) := by
  apply Nat.eq_of_testBit_eq
  intro j
  have h1 : s * i = s * (i - n) + s * n := by rw [← Nat.mul_add]; congr 1; omega
  rw [dg_bit, dg_bit, Nat.testBit_mul_two_pow]
  have h2 : s * n + 0 ≤ s * i + j := by omega
  have h3 : s * i + j - (s * n + 0) = s * (i - n) + j := by omega
  simp only [h2, decide_true, Bool.true_and, h3]
theorem dg_shl (s X n b i : Nat) (hb : b < s) (hb0 : 0 < b) (hi : n ≤ i) : dg (2 ^ s) (X * 2 ^ (s * n + b)) i = (dg (2 ^ s) X (i - n) * 2 ^ b) % 2 ^ s ||| (if n < i then dg (2 ^ s) X (i - n - 1) / 2 ^ (s - b) else 0) := by
  apply Nat.eq_of_testBit_eq
  intro j
  have h1 : s * i = s * (i - n) + s * n := by rw [← Nat.mul_add]; congr 1; omega
  rw [dg_bit, Nat.testBit_mul_two_pow, Nat.testBit_or, Nat.testBit_mod_two_pow, Nat.testBit_mul_two_pow, dg_bit]
  by_cases hj : j < s
  · by_cases hbj : b ≤ j
    · have h2 : s * n + b ≤ s * i + j := by omega
      have h3 : s * i + j - (s * n + b) = s * (i - n) + (j - b) := by omega
      have h4 : j - b < s := by omega
      have h5 : (if n < i then dg (2 ^ s) X (i - n - 1) / 2 ^ (s - b) else 0).testBit j = false := by
        split
        · rw [Nat.testBit_div_two_pow, dg_bit, decide_eq_false (by omega), Bool.false_and]
        · exact Nat.zero_testBit j
      rw [h5, h3]
      simp only [hj, h2, hbj, h4, decide_true, Bool.true_and, Bool.or_false]
    · by_cases hni : n < i
      · have hm : s * (i - n) = s * (i - n - 1) + s := by
          rw [show i - n = (i - n - 1) + 1 by omega, Nat.mul_succ]
          rfl
        have h2 : s * n + b ≤ s * i + j := by omega
        have h3 : s * i + j - (s * n + b) = s * (i - n - 1) + (j + (s - b)) := by omega
        have h4 : j + (s - b) < s := by omega
        rw [if_pos hni, Nat.testBit_div_two_pow, dg_bit, h3]
        simp only [hj, h2, hbj, h4, decide_true, decide_false, Bool.true_and, Bool.false_and, Bool.and_false, Bool.false_or]
      · have h2 : ¬ s * n + b ≤ s * i + j := by
          have : i - n = 0 := by omega
          rw [this, Nat.mul_zero] at h1
          omega
        rw [if_neg hni, Nat.zero_testBit]
        simp only [hj, h2, hbj, decide_true, decide_false, Bool.false_and, Bool.and_false, Bool.or_false]
  · have h5 : (if n < i then dg (2 ^ s) X (i - n - 1) / 2 ^ (s - b) else 0).testBit j = false := by
      split
      · rw [Nat.testBit_div_two_pow, dg_bit, decide_eq_false (by omega), Bool.false_and]
      · exact Nat.zero_testBit j
    rw [h5]
    simp only [hj, decide_false, Bool.false_and, Bool.or_false]
theorem bl_shl {X n : Nat} (h : X ≠ 0) : bl (X * 2 ^ n) = n + bl X := bl_split (Nat.mul_div_cancel _ (Nat.pow_pos (by decide))) h
end Go.Proofs.YtihdeanfcbiflaaDoor.Ul
