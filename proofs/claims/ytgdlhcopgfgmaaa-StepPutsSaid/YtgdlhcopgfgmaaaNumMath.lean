/- Plain facts on numbers of seven bits a byte. No condition. -/
import Derived.Laws.BitsLemmas
import Derived.Laws.BitsAllLaws
import Derived.RowKit
namespace Go.Proofs.Ytgdlhcopgfgmaaa.Num
open Go.RowKit
/-- the number of bytes, seven bits each, the lowest first -/
def val : List UInt8 → Nat
  | [] => 0
  | b :: l => b.toNat % 128 + 128 * val l
theorem val_lt (l : List UInt8) : val l < 128 ^ l.length := by
  induction l with
  | nil => simp [val]
  | cons b l ih => rw [val, List.length_cons, Nat.pow_succ]; omega
theorem val_append (l m : List UInt8) : val (l ++ m) = val l + 128 ^ l.length * val m := by
  induction l with
  | nil => simp [val]
  | cons b l ih => rw [List.cons_append, val, ih, val, List.length_cons, Nat.pow_succ, Nat.mul_add, Nat.mul_comm (128 ^ l.length) 128, ← Nat.mul_assoc]; omega
theorem val_snoc (l : List UInt8) (b : UInt8) : val (l ++ [b]) = val l + 128 ^ l.length * (b.toNat % 128) := by
  rw [val_append]; simp [val]
/-- what Take tells, from byte n on -/
def takeG (l : List UInt8) : Nat → Nat → Nat × Nat × Nat
  | 0, _ => (0, 0, 2)
  | f + 1, n =>
    match l[n]? with
    | none => (0, 0, 1)
    | some c => if 128 ≤ c.toNat then takeG l f (n + 1) else if 0 < n ∧ c.toNat = 0 then (0, 0, 2) else if n = 9 ∧ 1 < c.toNat then (0, 0, 3) else (val (l.take (n + 1)), n + 1, 0)
def takeR (l : List UInt8) : Nat × Nat × Nat := takeG l 10 0
theorem takeG_end (l : List UInt8) (n : Nat) (h : n = 10) : takeG l (10 - n) n = (0, 0, 2) := by subst h; rfl
theorem takeG_short (l : List UInt8) (n : Nat) (h : n < 10) (hl : l.length ≤ n) : takeG l (10 - n) n = (0, 0, 1) := by
  obtain ⟨f, hf⟩ : ∃ f, 10 - n = f + 1 := ⟨9 - n, by omega⟩
  rw [hf, takeG, List.getElem?_eq_none hl]
theorem takeG_more (l : List UInt8) (n : Nat) (h : n < 10) (hl : n < l.length) (hc : 128 ≤ l[n].toNat) : takeG l (10 - n) n = takeG l (10 - (n + 1)) (n + 1) := by
  obtain ⟨f, hf⟩ : ∃ f, 10 - n = f + 1 := ⟨9 - n, by omega⟩
  have hf2 : 10 - (n + 1) = f := by omega
  rw [hf, takeG, List.getElem?_eq_getElem hl, hf2]
  simp only
  rw [if_pos hc]
theorem takeG_last (l : List UInt8) (n : Nat) (h : n < 10) (hl : n < l.length) (hc : l[n].toNat < 128) :
    takeG l (10 - n) n = if 0 < n ∧ l[n].toNat = 0 then (0, 0, 2) else if n = 9 ∧ 1 < l[n].toNat then (0, 0, 3) else (val (l.take (n + 1)), n + 1, 0) := by
  obtain ⟨f, hf⟩ : ∃ f, 10 - n = f + 1 := ⟨9 - n, by omega⟩
  rw [hf, takeG, List.getElem?_eq_getElem hl]
  simp only
  rw [if_neg (by omega)]
theorem pow128 (n : Nat) (hn : n ≤ 9) : 128 ^ n ≤ 9223372036854775808 := Nat.le_trans (Nat.pow_le_pow_right (by decide) hn) (by decide)
theorem pow128' (n : Nat) : 2 ^ (7 * n) = 128 ^ n := by rw [Nat.pow_mul]
theorem val_take_lt (l : List UInt8) (n : Nat) (hn : n ≤ 9) : val (l.take n) < 9223372036854775808 := by
  refine Nat.lt_of_lt_of_le (val_lt _) (Nat.le_trans (Nat.pow_le_pow_right (by decide) (List.length_take_le _ _)) (pow128 n hn))
theorem val_take_succ (l : List UInt8) (n : Nat) (hl : n < l.length) : val (l.take (n + 1)) = val (l.take n) + 128 ^ n * (l[n].toNat % 128) := by
  rw [List.take_succ_eq_append_getElem hl, val_snoc, List.length_take, Nat.min_eq_left (by omega)]
theorem val_drop_le (l : List UInt8) (m : Nat) : val (l.drop m) ≤ val l := by
  induction m generalizing l with
  | zero => exact Nat.le_refl _
  | succ m ih =>
    cases l with
    | nil => exact Nat.le_refl _
    | cons b l => rw [List.drop_succ_cons, val]; have := ih l; omega
theorem val_drop (l : List UInt8) (m : Nat) (h : m < l.length) : val (l.drop m) = l[m].toNat % 128 + 128 * val (l.drop (m + 1)) := by
  rw [List.drop_eq_getElem_cons h, val]
/-- 'or' puts the next seven bits on top -/
theorem or_next (x n c : Nat) (hn : n ≤ 9) (hx : x < 128 ^ n) (hc : c < 256) (h9 : n = 9 → c % 128 ≤ 1) :
    Go.bits .or .u64 (x : Int) (IntKind.u64.wrap (IntKind.u64.wrap (Go.bits .and .u8 (c : Int) 127) * 2 ^ (7 * n))) = ((x + 128 ^ n * (c % 128) : Nat) : Int) := by
  have e1 : Go.bits .and .u8 (c : Int) 127 = ((c % 128 : Nat) : Int) := by
    rw [show (127 : Int) = ((127 : Nat) : Int) from rfl, u8_and_nat _ _ hc (by decide), show (127 : Nat) = 2 ^ 7 - 1 from rfl, Nat.and_two_pow_sub_one_eq_mod]
  have hp : 128 ^ n ≤ 9223372036854775808 := pow128 n hn
  have hm : c % 128 < 128 := Nat.mod_lt _ (by decide)
  have hb : 128 ^ n * (c % 128) < 18446744073709551616 := by
    by_cases h : n = 9
    · have := h9 h
      have h2 : 128 ^ n * (c % 128) ≤ 9223372036854775808 * 1 := Nat.mul_le_mul hp this
      omega
    · have hp8 : 128 ^ n ≤ 128 ^ 8 := Nat.pow_le_pow_right (by decide) (by omega)
      have h2 : 128 ^ n * (c % 128) ≤ 128 ^ 8 * 127 := Nat.mul_le_mul hp8 (by omega)
      have h3 : (128 : Nat) ^ 8 * 127 < 18446744073709551616 := by decide
      omega
  have e2 : IntKind.u64.wrap ((c % 128 : Nat) : Int) = ((c % 128 : Nat) : Int) := by rw [IntKind.wrap_u64]; omega
  have e3 : ((c % 128 : Nat) : Int) * 2 ^ (7 * n) = ((128 ^ n * (c % 128) : Nat) : Int) := by
    rw [show (2 : Int) ^ (7 * n) = ((2 ^ (7 * n) : Nat) : Int) by simp, pow128', ← Int.natCast_mul, Nat.mul_comm]
  have e4 : IntKind.u64.wrap ((128 ^ n * (c % 128) : Nat) : Int) = ((128 ^ n * (c % 128) : Nat) : Int) := by rw [IntKind.wrap_u64]; omega
  rw [e1, e2, e3, e4, u64_or_nat _ _ (by omega) hb, ← pow128']
  have hx2 : x < 2 ^ (7 * n) := by rw [pow128']; exact hx
  rw [Nat.or_comm, ← Nat.two_pow_add_eq_or_of_lt hx2, Nat.add_comm]
theorem or_first (c : Nat) (hc : c < 256) : Go.bits .or .u64 0 (IntKind.u64.wrap (IntKind.u64.wrap (Go.bits .and .u8 (c : Int) 127))) = ((c % 128 : Nat) : Int) := by
  have := or_next 0 0 c (by decide) (by decide) hc (fun h => by omega)
  simpa using this
/-- a number's bytes -/
def putL (x : Nat) : List UInt8 := if _h : x < 128 then [UInt8.ofNat x] else UInt8.ofNat (x % 128 + 128) :: putL (x / 128)
termination_by x
decreasing_by omega
theorem putL_one (x : Nat) (h : x < 128) : putL x = [UInt8.ofNat x] := by rw [putL, dif_pos h]
theorem putL_more (x : Nat) (h : 128 ≤ x) : putL x = UInt8.ofNat (x % 128 + 128) :: putL (x / 128) := by rw [putL, dif_neg (by omega)]
theorem putL_len (k : Nat) : ∀ x, x < 128 ^ k → 0 < k → (putL x).length ≤ k := by
  induction k with
  | zero => intro x _ h; omega
  | succ k ih =>
    intro x hx _
    by_cases h : x < 128
    · rw [putL_one x h]; simp
    · rw [putL_more x (by omega), List.length_cons]
      have hk : 0 < k := by
        rcases Nat.eq_zero_or_pos k with h0 | h0
        · subst h0; simp at hx; omega
        · exact h0
      have := ih (x / 128) (by rw [Nat.pow_succ] at hx; omega) hk
      omega
theorem putL_len10 (x : Nat) (h : x < 18446744073709551616) : (putL x).length ≤ 10 := putL_len 10 x (Nat.lt_of_lt_of_le h (by decide)) (by decide)
theorem putL_pos (x : Nat) : 0 < (putL x).length := by
  by_cases h : x < 128
  · rw [putL_one x h]; simp
  · rw [putL_more x (by omega)]; simp
theorem val_putL (x : Nat) : val (putL x) = x := by
  induction x using Nat.strongRecOn with
  | ind x ih =>
    by_cases h : x < 128
    · rw [putL_one x h, val, val, UInt8.toNat_ofNat_of_lt' (by show x < 256; omega)]; omega
    · rw [putL_more x (by omega), val, ih (x / 128) (by omega), UInt8.toNat_ofNat_of_lt' (by show x % 128 + 128 < 256; omega)]; omega
/-- What was put is taken, whatever stands behind. -/
theorem take_put (m : List UInt8) : ∀ (f n x : Nat) (pre : List UInt8), pre.length = n → n + f = 10 → x * 128 ^ n < 18446744073709551616 → (0 < n → 0 < x) → takeG (pre ++ putL x ++ m) f n = (val (pre ++ putL x), n + (putL x).length, 0) := by
  intro f
  induction f with
  | zero =>
    intro n x pre hp hn hx hx0
    exfalso
    obtain rfl : n = 10 := by omega
    have h1 := hx0 (by omega)
    have h2 : 1 * 128 ^ 10 ≤ x * 128 ^ 10 := Nat.mul_le_mul_right _ h1
    have h3 : 18446744073709551616 ≤ 1 * 128 ^ 10 := by decide
    omega
  | succ f ih =>
    intro n x pre hp hn hx hx0
    by_cases h : x < 128
    · have e0 : (pre ++ putL x ++ m)[n]? = some (UInt8.ofNat x) := by
        rw [putL_one x h, List.append_assoc, List.getElem?_append_right (by omega), hp, Nat.sub_self]; rfl
      have ec : (UInt8.ofNat x).toNat = x := UInt8.toNat_ofNat_of_lt' (by show x < 256; omega)
      rw [takeG, e0]
      simp only
      rw [ec, if_neg (by omega), if_neg (by omega), if_neg (by
        rintro ⟨rfl, h1⟩
        have h2 : 2 * 128 ^ 9 ≤ x * 128 ^ 9 := Nat.mul_le_mul_right _ h1
        have h3 : 18446744073709551616 ≤ 2 * 128 ^ 9 := by decide
        omega)]
      rw [putL_one x h, List.append_assoc]
      have e1 : (pre ++ ([UInt8.ofNat x] ++ m)).take (n + 1) = pre ++ [UInt8.ofNat x] := by
        rw [← List.append_assoc, List.take_left' (by simp [hp])]
      rw [e1]; simp
    · have e0 : (pre ++ putL x ++ m)[n]? = some (UInt8.ofNat (x % 128 + 128)) := by
        rw [putL_more x (by omega), List.append_assoc, List.getElem?_append_right (by omega), hp, Nat.sub_self]; rfl
      have ec : (UInt8.ofNat (x % 128 + 128)).toNat = x % 128 + 128 := UInt8.toNat_ofNat_of_lt' (by show x % 128 + 128 < 256; omega)
      rw [takeG, e0]
      simp only
      rw [ec, if_pos (by omega)]
      have e1 : pre ++ putL x ++ m = (pre ++ [UInt8.ofNat (x % 128 + 128)]) ++ putL (x / 128) ++ m := by rw [putL_more x (by omega)]; simp
      rw [e1, ih (n + 1) (x / 128) (pre ++ [UInt8.ofNat (x % 128 + 128)]) (by simp [hp]) (by omega) (by
        rw [Nat.pow_succ, Nat.mul_comm (128 ^ n) 128, ← Nat.mul_assoc]
        exact Nat.lt_of_le_of_lt (Nat.mul_le_mul_right _ (by omega)) hx) (by omega)]
      rw [putL_more x (by omega)]
      simp; omega
theorem takeR_put (x : Nat) (hx : x < 18446744073709551616) (m : List UInt8) : takeR (putL x ++ m) = (x, (putL x).length, 0) := by
  have := take_put m 10 0 x [] rfl rfl (by simpa using hx) (fun h => by omega)
  unfold takeR
  simpa [val_putL] using this
/-- What is taken is put as just those bytes. -/
theorem put_take (l : List UInt8) : ∀ (f n : Nat) (x k : Nat), n + f = 10 → (∀ i, i < n → ∃ c, l[i]? = some c ∧ 128 ≤ c.toNat) → takeG l f n = (x, k, 0) → k ≤ l.length ∧ putL x = l.take k := by
  have key : ∀ (l : List UInt8) (n : Nat), (∀ i, i < n → ∃ c, l[i]? = some c ∧ 128 ≤ c.toNat) → ∀ c, l[n]? = some c → c.toNat < 128 → (0 < n → c.toNat ≠ 0) → putL (val (l.take (n + 1))) = l.take (n + 1) := by
    intro l n
    induction n generalizing l with
    | zero =>
      intro _ c hc h1 _
      cases l with
      | nil => simp at hc
      | cons b l =>
        obtain rfl : b = c := by simpa using hc
        simp only [Nat.zero_add, List.take_succ_cons, List.take_zero, val, Nat.mul_zero, Nat.add_zero]
        rw [Nat.mod_eq_of_lt h1, putL_one _ h1]
        simp
    | succ n ih =>
      intro hall c hc h1 h0
      cases l with
      | nil => simp at hc
      | cons b l =>
        obtain ⟨b', hb', hb⟩ := hall 0 (by omega)
        obtain rfl : b = b' := by simpa using hb'
        have h2 := ih l (fun i hi => by have := hall (i + 1) (by omega); simpa using this) c (by simpa using hc) h1 (fun _ => h0 (by omega))
        rw [List.take_succ_cons, val]
        have hv : 0 < val (l.take (n + 1)) := by
          have h3 := putL_pos (val (l.take (n + 1)))
          rcases Nat.eq_zero_or_pos (val (l.take (n + 1))) with hz | hz
          · exfalso
            rw [hz, putL_one 0 (by decide)] at h2
            have h5 : l.take (n + 1) = [0] := h2.symm
            have h6 : l[n]? = some c := by simpa using hc
            have hl : n < l.length := (List.getElem?_eq_some_iff.1 h6).1
            have h7 : (l.take (n + 1)).length = 1 := by rw [h5]; rfl
            rw [List.length_take] at h7
            obtain rfl : n = 0 := by omega
            cases l with
            | nil => simp at h6
            | cons d l =>
              simp at h5 h6
              subst h6
              exact h0 (by omega) (by rw [h5]; rfl)
          · exact hz
        have hlt : b.toNat < 256 := b.toNat_lt
        rw [putL_more _ (by omega), show (b.toNat % 128 + 128 * val (l.take (n + 1))) / 128 = val (l.take (n + 1)) by omega, h2, show (b.toNat % 128 + 128 * val (l.take (n + 1))) % 128 + 128 = b.toNat by omega]
        simp
  intro f
  induction f with
  | zero => intro n x k _ _ h; simp [takeG] at h
  | succ f ih =>
    intro n x k hn hall h
    rw [takeG] at h
    cases hc : l[n]? with
    | none => rw [hc] at h; simp at h
    | some c =>
      rw [hc] at h
      simp only at h
      by_cases h1 : 128 ≤ c.toNat
      · rw [if_pos h1] at h
        refine ih (n + 1) x k (by omega) (fun i hi => ?_) h
        by_cases hin : i = n
        · subst hin; exact ⟨c, hc, h1⟩
        · exact hall i (by omega)
      · rw [if_neg h1] at h
        split at h
        · simp at h
        · rename_i h2
          split at h
          · simp at h
          · have e := Prod.mk.inj h
            have e2 := Prod.mk.inj e.2
            have hl : n < l.length := (List.getElem?_eq_some_iff.1 hc).1
            refine ⟨by omega, ?_⟩
            rw [← e.1, ← e2.1]
            exact key l n hall c hc (by omega) (fun h3 h4 => h2 ⟨h3, h4⟩)
theorem putR_take (l : List UInt8) (x k : Nat) (h : takeR l = (x, k, 0)) : k ≤ l.length ∧ putL x = l.take k := put_take l 10 0 x k rfl (fun i hi => by omega) h
theorem takeR_err (l : List UInt8) (x k e : Nat) (h : takeR l = (x, k, e)) (he : e ≠ 0) : x = 0 ∧ k = 0 := by
  have key : ∀ (f n : Nat), takeG l f n = (x, k, e) → x = 0 ∧ k = 0 := by
    intro f
    induction f with
    | zero => intro n h; simp [takeG] at h; omega
    | succ f ih =>
      intro n h
      rw [takeG] at h
      cases hc : l[n]? with
      | none => rw [hc] at h; simp at h; omega
      | some c =>
        rw [hc] at h
        simp only at h
        split at h
        · exact ih _ h
        · split at h
          · simp at h; omega
          · split at h
            · simp at h; omega
            · simp at h; omega
  exact key 10 0 h
theorem takeR_lt (l : List UInt8) : (takeR l).1 < 18446744073709551616 ∧ (takeR l).2.1 ≤ 10 ∧ (takeR l).2.1 ≤ l.length ∧ (takeR l).2.2 ≤ 3 := by
  have key : ∀ (f n : Nat), n + f = 10 → (takeG l f n).1 < 18446744073709551616 ∧ (takeG l f n).2.1 ≤ 10 ∧ (takeG l f n).2.1 ≤ l.length ∧ (takeG l f n).2.2 ≤ 3 := by
    intro f
    induction f with
    | zero => intro n _; simp [takeG]
    | succ f ih =>
      intro n hn
      rw [takeG]
      cases hc : l[n]? with
      | none => simp
      | some c =>
        simp only
        have hl : n < l.length := (List.getElem?_eq_some_iff.1 hc).1
        split
        · exact ih _ (by omega)
        · split
          · simp
          · split
            · simp
            · rename_i h1 h2 h3
              refine ⟨?_, by show n + 1 ≤ 10; omega, by show n + 1 ≤ l.length; omega, by show 0 ≤ 3; omega⟩
              show val (l.take (n + 1)) < _
              rw [val_take_succ l n hl]
              have hlc : l[n] = c := by rw [List.getElem?_eq_getElem hl] at hc; exact Option.some.inj hc
              rw [hlc]
              have h4 := val_take_lt l n (by omega)
              have hp := pow128 n (by omega)
              by_cases h9 : n = 9
              · have h5 : c.toNat % 128 ≤ 1 := by omega
                have : 128 ^ n * (c.toNat % 128) ≤ 9223372036854775808 * 1 := Nat.mul_le_mul hp h5
                omega
              · have hp8 : 128 ^ n ≤ 128 ^ 8 := Nat.pow_le_pow_right (by decide) (by omega)
                have h5 : val (l.take n) < 128 ^ 8 := Nat.lt_of_lt_of_le (val_lt _) (Nat.pow_le_pow_right (by decide) (Nat.le_trans (List.length_take_le _ _) (by omega)))
                have h6 : 128 ^ n * (c.toNat % 128) ≤ 128 ^ 8 * 127 := Nat.mul_le_mul hp8 (by omega)
                have h7 : (128 : Nat) ^ 8 + 128 ^ 8 * 127 < 18446744073709551616 := by decide
                omega
  exact key 10 0 rfl
end Go.Proofs.Ytgdlhcopgfgmaaa.Num
