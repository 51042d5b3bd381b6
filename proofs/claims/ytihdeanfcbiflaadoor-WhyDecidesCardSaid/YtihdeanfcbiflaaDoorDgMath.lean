/- Plain laws on digits of 16 bits, as many as are needed. No condition. -/
import Derived.Test.YtihdeanfcbiflaaDoorWiMath
namespace Go.Proofs.YtihdeanfcbiflaaDoor.R5
open Go.RowKit Go.Proofs.YtihdeanfcbiflaaDoor.Ul Go.Proofs.YtihdeanfcbiflaaDoor.Wi
def dl (X : Nat) : List Nat := if h : X = 0 then [] else X % 65536 :: dl (X / 65536)
termination_by X
decreasing_by omega
theorem dl_zero : dl 0 = [] := by rw [dl]; simp
theorem dl_pos {X : Nat} (h : X ≠ 0) : dl X = X % 65536 :: dl (X / 65536) := by rw [dl, dif_neg h]
theorem dl_len (n : Nat) : ∀ X, (dl X).length ≤ n ↔ X < 65536 ^ n := by
  induction n with
  | zero =>
    intro X
    by_cases h : X = 0
    · subst h; simp [dl_zero]
    · rw [dl_pos h]; simp; omega
  | succ n ih =>
    intro X
    by_cases h : X = 0
    · subst h; simp [dl_zero, Nat.pow_pos]
    · rw [dl_pos h, List.length_cons, Nat.pow_succ]
      have := ih (X / 65536)
      rw [Nat.div_lt_iff_lt_mul (by decide)] at this
      omega
theorem dl_get : ∀ (i X : Nat), i < (dl X).length → (dl X)[i]? = some (dg 65536 X i)
  | i, X, h => by
    by_cases h0 : X = 0
    · subst h0; rw [dl_zero] at h; simp at h
    · rw [dl_pos h0] at h ⊢
      cases i with
      | zero => simp [dg]
      | succ i =>
        rw [List.getElem?_cons_succ, dl_get i (X / 65536) (by simpa using h)]
        unfold dg
        rw [Nat.div_div_eq_div_mul, Nat.pow_succ']
theorem dl_digs {X n : Nat} (h : (dl X).length = n) : dl X = digs 65536 n X := by
  apply List.ext_getElem?
  intro i
  by_cases hi : i < n
  · rw [dl_get i X (by omega), digs_get _ _ _ _ hi]
  · rw [List.getElem?_eq_none (by omega), List.getElem?_eq_none (by rw [digs_len]; omega)]
theorem dl_lt (X : Nat) : ∀ d ∈ dl X, d < 65536 := by
  intro d hd
  obtain ⟨i, hi, rfl⟩ := List.mem_iff_getElem.1 hd
  have := dl_get i X hi
  rw [List.getElem?_eq_getElem hi] at this
  rw [Option.some.inj this]
  exact dg_lt (by decide) X i
theorem val_dl (X : Nat) : val 65536 (dl X) = X := by
  rw [dl_digs (n := (dl X).length) rfl]
  exact val_digs (by decide) _ X ((dl_len _ X).1 (Nat.le_refl _))
/-- a list of digits, the last of which is not 0, is a number's -/
theorem dl_val : ∀ (l : List Nat), (∀ d ∈ l, d < 65536) → (∀ k, l.length = k + 1 → l[k]? ≠ some 0) → dl (val 65536 l) = l
  | [], _, _ => dl_zero
  | a :: t, h, hl => by
    have ha := h a (by simp)
    have ht := dl_val t (fun d hd => h d (by simp [hd])) (fun k hk hz => hl (k + 1) (by simp [hk]) (by rw [List.getElem?_cons_succ]; exact hz))
    have e1 : (a + 65536 * val 65536 t) % 65536 = a := by omega
    have e2 : (a + 65536 * val 65536 t) / 65536 = val 65536 t := by omega
    have hne : a + 65536 * val 65536 t ≠ 0 := by
      intro e
      cases t with
      | nil => exact hl 0 rfl (by simp; omega)
      | cons b t =>
        have h0 : val 65536 (b :: t) = 0 := by omega
        rw [h0, dl_zero] at ht
        cases ht
    rw [val, dl_pos hne, e1, e2, ht]
theorem val_snoc (B : Nat) : ∀ (l : List Nat) (d : Nat), val B (l ++ [d]) = val B l + B ^ l.length * d
  | [], d => by simp [val]
  | a :: l, d => by rw [List.cons_append, val, val_snoc B l d, val, List.length_cons, Nat.pow_succ', Nat.mul_add, Nat.mul_assoc, Nat.add_assoc]
theorem val_take_zero {l : List Nat} {k : Nat} (hk : k < l.length) (hz : l[k]? = some 0) : val 65536 (l.take (k + 1)) = val 65536 (l.take k) := by
  rw [List.take_succ_eq_append_getElem hk, val_snoc]
  have : l[k] = 0 := by rw [List.getElem?_eq_getElem hk] at hz; exact Option.some.inj hz
  rw [this]
  simp
/-- digits within limbs -/
theorem dg_limb (X i k : Nat) (hk : k < 4) : lb X i / 65536 ^ k % 65536 = dg 65536 X (4 * i + k) := by
  have e1 := dg_bit 16 X (4 * i + k)
  have h16 : (2 : Nat) ^ 16 = 65536 := by decide
  rw [h16] at e1
  apply Nat.eq_of_testBit_eq
  intro j
  have e2 : (65536 : Nat) ^ k = 2 ^ (16 * k) := by rw [← h16, ← Nat.pow_mul]
  rw [e1, e2]
  have e3 : lb X i / 2 ^ (16 * k) % 65536 = lb X i / 2 ^ (16 * k) % 2 ^ 16 := by rw [h16]
  rw [e3, Nat.testBit_mod_two_pow, Nat.testBit_div_two_pow]
  show (decide (j < 16) && (dg (2 ^ 64) X i).testBit (j + 16 * k)) = _
  rw [dg_bit]
  by_cases hj : j < 16
  · have h1 : j + 16 * k < 64 := by omega
    have h2 : 64 * i + (j + 16 * k) = 16 * (4 * i + k) + j := by omega
    simp [hj, h1, h2]
  · simp [hj]
theorem digs_succ (B n X : Nat) : digs B (n + 1) X = digs B n X ++ [dg B X n] := by simp [digs, List.range_succ]
theorem digs_lt {B : Nat} (hB : 0 < B) (n X : Nat) : ∀ d ∈ digs B n X, d < B := by
  intro d hd
  obtain ⟨i, _, rfl⟩ := List.mem_map.1 hd
  exact dg_lt hB X i
theorem div_16 (x k : Nat) : x / 65536 ^ k / 65536 = x / 65536 ^ (k + 1) := by rw [Nat.div_div_eq_div_mul, Nat.pow_succ]
/-- how many digits -/
def dn (X : Nat) : Nat := (dl X).length
theorem dn_le (n X : Nat) : dn X ≤ n ↔ X < 65536 ^ n := dl_len n X
theorem dn_zero {X : Nat} (h : dn X = 0) : X = 0 := by
  have := (dn_le 0 X).1 (by omega)
  omega
theorem dn_top {X n : Nat} (h : dn X = n + 1) : X / 65536 ^ n = dg 65536 X n ∧ dg 65536 X n ≠ 0 := by
  have h1 := (dn_le (n + 1) X).1 (by omega)
  have h2 := mt (dn_le n X).2 (by omega)
  have h3 := dg_hi (B := 65536) (by decide) X n
  rw [Nat.div_eq_of_lt h1, Nat.zero_mul, Nat.zero_add] at h3
  refine ⟨h3, ?_⟩
  rw [← h3]
  have := Nat.div_pos (Nat.le_of_not_lt h2) (Nat.pow_pos (n := n) (show 0 < 65536 by decide))
  omega
theorem bl_dn {X n : Nat} (h : dn X = n + 1) : bl X = 16 * n + bl (dg 65536 X n) := by
  have := dn_top h
  refine bl_split ?_ this.2
  rw [← this.1, Nat.pow_mul]
theorem dn_lt {X Y : Nat} (h : dn X < dn Y) : X < Y := by
  have h1 := (dn_le (dn X) X).1 (Nat.le_refl _)
  have h2 := mt (dn_le (dn X) Y).2 (by omega)
  omega
def Hi16 (X Y m : Nat) : Prop := X / 65536 ^ m = Y / 65536 ^ m
theorem Hi16.top {X Y n : Nat} (hX : dn X = n) (hY : dn Y = n) : Hi16 X Y n := by
  unfold Hi16
  rw [Nat.div_eq_of_lt ((dn_le n X).1 (by omega)), Nat.div_eq_of_lt ((dn_le n Y).1 (by omega))]
theorem Hi16.zero {X Y : Nat} (h : Hi16 X Y 0) : X = Y := by simpa [Hi16] using h
theorem Hi16.step {X Y m : Nat} (h : Hi16 X Y (m + 1)) : (dg 65536 X m < dg 65536 Y m → cmpI X Y = -1) ∧ (dg 65536 Y m < dg 65536 X m → cmpI X Y = 1) ∧ (dg 65536 X m = dg 65536 Y m → Hi16 X Y m) :=
  ⟨fun hl => cmpI_lt ((dg_cmp (B := 65536) (by decide) h).1 hl), fun hl => cmpI_gt ((dg_cmp (B := 65536) (by decide) h.symm).1 hl), fun he => (dg_cmp (B := 65536) (by decide) h).2 he⟩
theorem bl_half (x j : Nat) (h : x / 2 ^ j ≠ 0) : bl x = j + bl (x / 2 ^ j) := bl_split rfl h
theorem half_step (x j : Nat) : x / 2 ^ j / 2 = x / 2 ^ (j + 1) := by rw [Nat.div_div_eq_div_mul, Nat.pow_succ]
/-- what is carried into a digit -/
def c16 (X Y k : Nat) : Nat := (X % 65536 ^ k + Y % 65536 ^ k) / 65536 ^ k
theorem c16_zero (X Y : Nat) : c16 X Y 0 = 0 := by simp [c16, Nat.mod_one]
theorem c16_le (X Y k : Nat) : c16 X Y k ≤ 1 := by
  have hP : 0 < 65536 ^ k := Nat.pow_pos (by decide)
  have h1 := Nat.mod_lt X hP
  have h2 := Nat.mod_lt Y hP
  unfold c16
  rw [Nat.div_le_iff_le_mul_add_pred hP]
  omega
theorem c16_step (X Y k : Nat) : (c16 X Y k + dg 65536 X k + dg 65536 Y k) % 65536 = dg 65536 (X + Y) k ∧ (c16 X Y k + dg 65536 X k + dg 65536 Y k) / 65536 = c16 X Y (k + 1) := by
  have h : dg 65536 (X + Y) k = (dg 65536 X k + dg 65536 Y k + c16 X Y k) % 65536 ∧ c16 X Y (k + 1) = (dg 65536 X k + dg 65536 Y k + c16 X Y k) / 65536 := dg_add (B := 65536) (by decide) X Y k
  have e : c16 X Y k + dg 65536 X k + dg 65536 Y k = dg 65536 X k + dg 65536 Y k + c16 X Y k := by omega
  rw [e, ← h.1, ← h.2]
  exact ⟨rfl, rfl⟩
theorem dg_beyond {X i : Nat} (h : dn X ≤ i) : dg 65536 X i = 0 := dg_big ((dn_le i X).1 h)
theorem c16_end {X Y k : Nat} (h1 : dn X ≤ k) (h2 : dn Y ≤ k) : c16 X Y (k + 1) = 0 := by
  have h := (c16_step X Y k).2
  rw [dg_beyond h1, dg_beyond h2] at h
  have := c16_le X Y k
  omega
theorem sum_done {X Y k : Nat} (h1 : dn X ≤ k) (h2 : dn Y ≤ k) (hc : c16 X Y k = 0) : val 65536 (digs 65536 k (X + Y)) = X + Y := by
  refine val_digs (by decide) _ _ ?_
  have hX := (dn_le k X).1 h1
  have hY := (dn_le k Y).1 h2
  unfold c16 at hc
  rw [Nat.mod_eq_of_lt hX, Nat.mod_eq_of_lt hY, Nat.div_eq_zero_iff] at hc
  have : 65536 ^ k ≠ 0 := by have := Nat.pow_pos (n := k) (show 0 < 65536 by decide); omega
  omega
/-! ### products -/
/-- what is carried where d times Y is added to E -/
def pc (E d Y k : Nat) : Nat := (E % 65536 ^ k + d * (Y % 65536 ^ k)) / 65536 ^ k
theorem pc_zero (E d Y : Nat) : pc E d Y 0 = 0 := by simp [pc, Nat.mod_one]
theorem pc_le (E d Y k : Nat) : pc E d Y k ≤ d := by
  have hP : 0 < 65536 ^ k := Nat.pow_pos (by decide)
  have h1 := Nat.mod_lt E hP
  have h2 := Nat.mul_le_mul_left d (show Y % 65536 ^ k ≤ 65536 ^ k - 1 by have := Nat.mod_lt Y hP; omega)
  unfold pc
  rw [Nat.div_le_iff_le_mul_add_pred hP]
  rw [Nat.mul_sub, Nat.mul_one] at h2
  rw [Nat.mul_comm (65536 ^ k) d]
  generalize E % 65536 ^ k = e at *
  generalize d * (Y % 65536 ^ k) = z at *
  have h3 : d ≤ d * 65536 ^ k := Nat.le_mul_of_pos_right d hP
  generalize d * 65536 ^ k = q at *
  omega
theorem pc_step (E d Y k : Nat) : (dg 65536 E k + pc E d Y k + d * dg 65536 Y k) % 65536 = dg 65536 (E + d * Y) k ∧ (dg 65536 E k + pc E d Y k + d * dg 65536 Y k) / 65536 = pc E d Y (k + 1) := by
  have hB : 0 < 65536 := by decide
  have hP : 0 < 65536 ^ k := Nat.pow_pos hB
  constructor
  · have e : (E + d * Y) / 65536 ^ k = E / 65536 ^ k + d * (Y / 65536 ^ k) + pc E d Y k := by
      have e1 : E + d * Y = (E % 65536 ^ k + d * (Y % 65536 ^ k)) + 65536 ^ k * (E / 65536 ^ k + d * (Y / 65536 ^ k)) := by
        have h1 := Nat.div_add_mod E (65536 ^ k)
        have h2 := congrArg (d * ·) (Nat.div_add_mod Y (65536 ^ k))
        simp only [Nat.mul_add] at h2 ⊢
        rw [Nat.mul_left_comm] at h2
        omega
      have e2 : ((E % 65536 ^ k + d * (Y % 65536 ^ k)) + 65536 ^ k * (E / 65536 ^ k + d * (Y / 65536 ^ k))) / 65536 ^ k = (E % 65536 ^ k + d * (Y % 65536 ^ k)) / 65536 ^ k + (E / 65536 ^ k + d * (Y / 65536 ^ k)) := Nat.add_mul_div_left _ _ hP
      rw [← e1] at e2
      unfold pc
      omega
    show _ = (E + d * Y) / 65536 ^ k % 65536
    rw [e]
    unfold dg
    generalize E / 65536 ^ k = a
    generalize Y / 65536 ^ k = b
    generalize pc E d Y k = c
    have h1 : d * b % 65536 = d * (b % 65536) % 65536 := by simp [Nat.mul_mod]
    omega
  · have e : E % 65536 ^ (k + 1) + d * (Y % 65536 ^ (k + 1)) = (E % 65536 ^ k + d * (Y % 65536 ^ k)) + 65536 ^ k * (dg 65536 E k + d * dg 65536 Y k) := by
      rw [mod_succ hB E k, mod_succ hB Y k, Nat.mul_add, Nat.mul_add, Nat.mul_left_comm]
      omega
    unfold pc
    rw [e, Nat.pow_succ, ← Nat.div_div_eq_div_mul, Nat.add_mul_div_left _ _ hP]
    congr 1
    omega
theorem pc_done {E d Y k j : Nat} (hY : dn Y ≤ k) (hc : pc E d Y k = 0) (hj : k ≤ j) : dg 65536 (E + d * Y) j = dg 65536 E j := by
  have hP : 0 < 65536 ^ k := Nat.pow_pos (by decide)
  have hYl := (dn_le k Y).1 hY
  have e : (E + d * Y) / 65536 ^ k = E / 65536 ^ k := by
    unfold pc at hc
    rw [Nat.mod_eq_of_lt hYl] at hc
    have e1 : E + d * Y = (E % 65536 ^ k + d * Y) + 65536 ^ k * (E / 65536 ^ k) := by
      have h1 := Nat.div_add_mod E (65536 ^ k)
      omega
    have e2 : ((E % 65536 ^ k + d * Y) + 65536 ^ k * (E / 65536 ^ k)) / 65536 ^ k = (E % 65536 ^ k + d * Y) / 65536 ^ k + E / 65536 ^ k := Nat.add_mul_div_left _ _ hP
    rw [← e1] at e2
    omega
  have hj2 : (65536 : Nat) ^ j = 65536 ^ k * 65536 ^ (j - k) := by rw [← Nat.pow_add]; congr 1; omega
  unfold dg
  rw [hj2, ← Nat.div_div_eq_div_mul, ← Nat.div_div_eq_div_mul, e]
theorem pc_end {E d Y n : Nat} (h : E + d * Y < 65536 ^ n) : pc E d Y n = 0 := by
  unfold pc
  refine Nat.div_eq_of_lt (Nat.lt_of_le_of_lt ?_ h)
  exact Nat.add_le_add (Nat.mod_le _ _) (Nat.mul_le_mul_left _ (Nat.mod_le _ _))
/-- what the first i digits of X make of Y -/
def pp (X Y i : Nat) : Nat := X % 65536 ^ i * Y
theorem pp_zero (X Y : Nat) : pp X Y 0 = 0 := by simp [pp, Nat.mod_one]
theorem pp_all {X Y n : Nat} (h : dn X ≤ n) : pp X Y n = X * Y := by unfold pp; rw [Nat.mod_eq_of_lt ((dn_le n X).1 h)]
theorem pp_step (X Y i : Nat) : pp X Y (i + 1) = pp X Y i + 65536 ^ i * (dg 65536 X i * Y) := by
  unfold pp
  rw [mod_succ (by decide) X i, Nat.add_mul, Nat.mul_assoc]
theorem pp_low (X Y i j : Nat) (h : j < i) : dg 65536 (pp X Y (i + 1)) j = dg 65536 (pp X Y i) j := by
  rw [pp_step, ← dg_mod (B := 65536) (by decide) _ i j h, Nat.add_mul_mod_self_left, dg_mod (B := 65536) (by decide) _ i j h]
theorem pp_high (X Y i k : Nat) : dg 65536 (pp X Y (i + 1)) (i + k) = dg 65536 (pp X Y i / 65536 ^ i + dg 65536 X i * Y) k ∧ dg 65536 (pp X Y i) (i + k) = dg 65536 (pp X Y i / 65536 ^ i) k := by
  have hP : 0 < 65536 ^ i := Nat.pow_pos (by decide)
  constructor
  · rw [pp_step]
    unfold dg
    rw [Nat.pow_add, ← Nat.div_div_eq_div_mul, Nat.add_mul_div_left _ _ hP]
  · unfold dg
    rw [Nat.pow_add, ← Nat.div_div_eq_div_mul]
theorem pp_lt {X Y i n : Nat} (hY : dn Y ≤ n) : pp X Y i / 65536 ^ i + dg 65536 X i * Y < 65536 ^ (n + 1) := by
  have hP : 0 < 65536 ^ i := Nat.pow_pos (by decide)
  have hYl := (dn_le n Y).1 hY
  have e : pp X Y (i + 1) / 65536 ^ i = pp X Y i / 65536 ^ i + dg 65536 X i * Y := by rw [pp_step, Nat.add_mul_div_left _ _ hP]
  rw [← e, Nat.div_lt_iff_lt_mul hP, ← Nat.pow_add]
  unfold pp
  have h1 := Nat.mod_lt X (Nat.pow_pos (n := i + 1) (show 0 < 65536 by decide))
  have h2 : X % 65536 ^ (i + 1) * Y < 65536 ^ (i + 1) * 65536 ^ n := Nat.mul_lt_mul_of_lt_of_le h1 (Nat.le_of_lt hYl) (Nat.pow_pos (by decide))
  rw [← Nat.pow_add] at h2
  rwa [show n + 1 + i = i + 1 + n by omega]
theorem mul_bd {X Y nx ny : Nat} (hX : dn X ≤ nx) (hY : dn Y ≤ ny) : X * Y < 65536 ^ (nx + ny + 1) := by
  have h1 := (dn_le nx X).1 hX
  have h2 := (dn_le ny Y).1 hY
  have h3 : X * Y ≤ 65536 ^ nx * 65536 ^ ny := Nat.mul_le_mul (Nat.le_of_lt h1) (Nat.le_of_lt h2)
  rw [← Nat.pow_add] at h3
  exact Nat.lt_of_le_of_lt h3 (Nat.pow_lt_pow_right (by decide) (by omega))
theorem dg_pow (n j : Nat) : dg 65536 (2 ^ n) j = if j = n / 16 then 2 ^ (n % 16) else 0 := by
  have e1 := dg_bit 16 (2 ^ n) j
  rw [show (2 : Nat) ^ 16 = 65536 by decide] at e1
  apply Nat.eq_of_testBit_eq
  intro i
  rw [e1, Nat.testBit_two_pow]
  by_cases hj : j = n / 16
  · rw [if_pos hj, Nat.testBit_two_pow]
    by_cases hi : i < 16
    · have : (n = 16 * j + i) ↔ (n % 16 = i) := by omega
      simp [hi, this]
    · have : ¬ n % 16 = i := by omega
      simp [hi, this]
  · rw [if_neg hj, Nat.zero_testBit]
    by_cases hi : i < 16
    · have : ¬ n = 16 * j + i := by omega
      simp [this]
    · simp [hi]
theorem dn_pow (n : Nat) : dn (2 ^ n) = n / 16 + 1 := by
  have h1 := (dn_le (n / 16 + 1) (2 ^ n)).2 (by rw [show (65536 : Nat) = 2 ^ 16 by decide, ← Nat.pow_mul]; exact Nat.pow_lt_pow_right (by decide) (by omega))
  have h2 := mt (dn_le (n / 16) (2 ^ n)).1 (by
    rw [show (65536 : Nat) = 2 ^ 16 by decide, ← Nat.pow_mul]
    exact Nat.not_lt.2 (Nat.pow_le_pow_right (by decide) (by omega)))
  omega
theorem shl_one (n : Nat) : (2 : Int) ^ (n % 16) = ((2 ^ (n % 16) : Nat) : Int) ∧ 2 ^ (n % 16) ≤ 32768 := by
  refine ⟨by simp, ?_⟩
  have := Nat.pow_le_pow_right (show 0 < 2 by decide) (show n % 16 ≤ 15 by omega)
  simpa using this
end Go.Proofs.YtihdeanfcbiflaaDoor.R5
