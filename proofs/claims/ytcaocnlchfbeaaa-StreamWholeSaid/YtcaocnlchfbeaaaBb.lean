import Derived.WalkKit
import Derived.Laws.BitsLemmas
import Derived.Laws.BitsAllLaws
import Derived.RowKit
/- Plain laws on the bytes of a number, the highest first. No condition. -/
namespace Go.Proofs.Ytcaocnlchfbeaaa.Wd
open Go.RowKit
/-- the lowest n bytes of x, the highest first -/
def beL : Nat → Nat → List UInt8
  | 0, _ => []
  | k + 1, x => UInt8.ofNat (x / 256 ^ k) :: beL k x
theorem beL_len (k x : Nat) : (beL k x).length = k := by
  induction k with
  | zero => rfl
  | succ k ih => simp [beL, ih]
def beN (l : List UInt8) : Nat := l.foldl (fun a c => a * 256 + c.toNat) 0
theorem beN_snoc (l : List UInt8) (c : UInt8) : beN (l ++ [c]) = beN l * 256 + c.toNat := by simp [beN]
theorem beN_take (l : List UInt8) (k : Nat) (h : k < l.length) : beN (l.take (k + 1)) = beN (l.take k) * 256 + l[k].toNat := by
  rw [List.take_succ_eq_append_getElem h, beN_snoc]
theorem beN_cons (c : UInt8) (l : List UInt8) : beN (c :: l) = c.toNat * 256 ^ l.length + beN l := by
  have : ∀ (l : List UInt8) (a : Nat), l.foldl (fun a c => a * 256 + c.toNat) a = a * 256 ^ l.length + l.foldl (fun a c => a * 256 + c.toNat) 0 := by
    intro l
    induction l with
    | nil => intro a; simp
    | cons d l ih =>
      intro a
      rw [List.foldl_cons, List.foldl_cons, ih, ih (0 * 256 + d.toNat), List.length_cons, Nat.pow_succ, Nat.add_mul]
      rw [Nat.mul_assoc, Nat.mul_comm 256, Nat.zero_mul, Nat.zero_add, Nat.add_assoc]
  unfold beN
  rw [List.foldl_cons, this, Nat.zero_mul, Nat.zero_add]
theorem beN_lt (l : List UInt8) : beN l < 256 ^ l.length := by
  induction l with
  | nil => simp [beN]
  | cons c l ih =>
    rw [beN_cons, List.length_cons, Nat.pow_succ]
    have h1 := c.toNat_lt
    have h2 : c.toNat * 256 ^ l.length + 256 ^ l.length ≤ 256 ^ l.length * 256 := by
      rw [← Nat.succ_mul, Nat.mul_comm]
      exact Nat.mul_le_mul_left _ (by omega)
    omega
theorem beN_beL (k x : Nat) (h : x < 256 ^ k) : beN (beL k x) = x := by
  have : ∀ k x, beN (beL k x) = x % 256 ^ k := by
    intro k
    induction k with
    | zero => intro x; simp [beL, beN, Nat.mod_one]
    | succ k ih =>
      intro x
      have e : x % 256 ^ (k + 1) = x % 256 ^ k + 256 ^ k * (x / 256 ^ k % 256) := by rw [Nat.pow_succ, Nat.mod_mul]
      rw [beL, beN_cons, beL_len, ih, UInt8.toNat_ofNat', e, Nat.mul_comm, Nat.add_comm]
  rw [this, Nat.mod_eq_of_lt h]
theorem beL_add (k a x : Nat) : beL k (a * 256 ^ k + x) = beL k x := by
  induction k generalizing a with
  | zero => rfl
  | succ k ih =>
    have e : a * 256 ^ (k + 1) + x = (a * 256) * 256 ^ k + x := by rw [Nat.pow_succ, Nat.mul_assoc, Nat.mul_comm 256]
    rw [beL, beL, e, ih]
    congr 1
    apply UInt8.toNat.inj
    rw [UInt8.toNat_ofNat', UInt8.toNat_ofNat', Nat.add_comm, Nat.add_mul_div_right _ _ (Nat.pos_of_ne_zero (by simp)), Nat.add_mul_mod_self_right]
theorem beL_beN (l : List UInt8) : beL l.length (beN l) = l := by
  induction l with
  | nil => rfl
  | cons c l ih =>
    rw [List.length_cons, beL, beN_cons, beL_add, ih]
    congr 1
    have h := beN_lt l
    apply UInt8.toNat.inj
    rw [UInt8.toNat_ofNat', Nat.add_comm, Nat.add_mul_div_right _ _ (by omega), Nat.div_eq_of_lt h, Nat.zero_add]
    exact Nat.mod_eq_of_lt c.toNat_lt
theorem beN_lt8 (l : List UInt8) (h : l.length ≤ 7) : beN l < 72057594037927936 :=
  Nat.lt_of_lt_of_le (beN_lt l) (Nat.le_trans (Nat.pow_le_pow_right (by decide) h) (by decide))
theorem beN_lt64 (l : List UInt8) (h : l.length ≤ 8) : beN l < 18446744073709551616 :=
  Nat.lt_of_lt_of_le (beN_lt l) (Nat.le_trans (Nat.pow_le_pow_right (by decide) h) (by decide))
theorem div_step (x k : Nat) : x / 256 ^ k / 256 = x / 256 ^ (k + 1) := by rw [Nat.div_div_eq_div_mul, Nat.pow_succ]
end Go.Proofs.Ytcaocnlchfbeaaa.Wd

/- Plain facts on numbers of seven bits a byte. No condition. -/
namespace Go.Proofs.Ytcaocnlchfbeaaa.Num
open Go.RowKit
/-- the number of bytes, seven bits each, the lowest first -/
def val : List UInt8 → Nat
  | [] => 0
  | b :: l => b.toNat % 128 + 128 * val l
theorem val_lt (l : List UInt8) : val l < 128 ^ l.length := by
  induction l with
  | nil => simp [val]
  | cons b l ih => rw [val, List.length_cons, Nat.pow_succ]; omega
theorem val_append (l m : List UInt8) : val (l ++ m) = val l + 128 ^ l.length * val m := by
  induction l with
  | nil => simp [val]
  | cons b l ih => rw [List.cons_append, val, ih, val, List.length_cons, Nat.pow_succ, Nat.mul_add, Nat.mul_comm (128 ^ l.length) 128, ← Nat.mul_assoc]; omega
theorem val_snoc (l : List UInt8) (b : UInt8) : val (l ++ [b]) = val l + 128 ^ l.length * (b.toNat % 128) := by
  rw [val_append]; simp [val]
/-- what Take tells, from byte n on -/
def takeG (l : List UInt8) : Nat → Nat → Nat × Nat × Nat
  | 0, _ => (0, 0, 2)
  | f + 1, n =>
    match l[n]? with
    | none => (0, 0, 1)
    | some c => if 128 ≤ c.toNat then takeG l f (n + 1) else if 0 < n ∧ c.toNat = 0 then (0, 0, 2) else if n = 9 ∧ 1 < c.toNat then (0, 0, 3) else (val (l.take (n + 1)), n + 1, 0)
def takeR (l : List UInt8) : Nat × Nat × Nat := takeG l 10 0
theorem takeG_end (l : List UInt8) (n : Nat) (h : n = 10) : takeG l (10 - n) n = (0, 0, 2) := by subst h; rfl
theorem takeG_short (l : List UInt8) (n : Nat) (h : n < 10) (hl : l.length ≤ n) : takeG l (10 - n) n = (0, 0, 1) := by
  obtain ⟨f, hf⟩ : ∃ f, 10 - n = f + 1 := ⟨9 - n, by omega⟩
  rw [hf, takeG, List.getElem?_eq_none hl]
theorem takeG_more (l : List UInt8) (n : Nat) (h : n < 10) (hl : n < l.length) (hc : 128 ≤ l[n].toNat) : takeG l (10 - n) n = takeG l (10 - (n + 1)) (n + 1) := by
  obtain ⟨f, hf⟩ : ∃ f, 10 - n = f + 1 := ⟨9 - n, by omega⟩
  have hf2 : 10 - (n + 1) = f := by omega
  rw [hf, takeG, List.getElem?_eq_getElem hl, hf2]
  simp only
  rw [if_pos hc]
theorem takeG_last (l : List UInt8) (n : Nat) (h : n < 10) (hl : n < l.length) (hc : l[n].toNat < 128) :
    takeG l (10 - n) n = if 0 < n ∧ l[n].toNat = 0 then (0, 0, 2) else if n = 9 ∧ 1 < l[n].toNat then (0, 0, 3) else (val (l.take (n + 1)), n + 1, 0) := by
  obtain ⟨f, hf⟩ : ∃ f, 10 - n = f + 1 := ⟨9 - n, by omega⟩
  rw [hf, takeG, List.getElem?_eq_getElem hl]
  simp only
  rw [if_neg (by omega)]
theorem pow128 (n : Nat) (hn : n ≤ 9) : 128 ^ n ≤ 9223372036854775808 := Nat.le_trans (Nat.pow_le_pow_right (by decide) hn) (by decide)
theorem pow128' (n : Nat) : 2 ^ (7 * n) = 128 ^ n := by rw [Nat.pow_mul]
theorem val_take_lt (l : List UInt8) (n : Nat) (hn : n ≤ 9) : val (l.take n) < 9223372036854775808 := by
  refine Nat.lt_of_lt_of_le (val_lt _) (Nat.le_trans (Nat.pow_le_pow_right (by decide) (List.length_take_le _ _)) (pow128 n hn))
theorem val_take_succ (l : List UInt8) (n : Nat) (hl : n < l.length) : val (l.take (n + 1)) = val (l.take n) + 128 ^ n * (l[n].toNat % 128) := by
  rw [List.take_succ_eq_append_getElem hl, val_snoc, List.length_take, Nat.min_eq_left (by omega)]
theorem val_drop_le (l : List UInt8) (m : Nat) : val (l.drop m) ≤ val l := by
  induction m generalizing l with
  | zero => exact Nat.le_refl _
  | succ m ih =>
    cases l with
    | nil => exact Nat.le_refl _
    | cons b l => rw [List.drop_succ_cons, val]; have := ih l; omega
theorem val_drop (l : List UInt8) (m : Nat) (h : m < l.length) : val (l.drop m) = l[m].toNat % 128 + 128 * val (l.drop (m + 1)) := by
  rw [List.drop_eq_getElem_cons h, val]
/-- 'or' puts the next seven bits on top -/
theorem or_next (x n c : Nat) (hn : n ≤ 9) (hx : x < 128 ^ n) (hc : c < 256) (h9 : n = 9 → c % 128 ≤ 1) :
    Go.bits .or .u64 (x : Int) (IntKind.u64.wrap (IntKind.u64.wrap (Go.bits .and .u8 (c : Int) 127) * 2 ^ (7 * n))) = ((x + 128 ^ n * (c % 128) : Nat) : Int) := by
  have e1 : Go.bits .and .u8 (c : Int) 127 = ((c % 128 : Nat) : Int) := by
    rw [show (127 : Int) = ((127 : Nat) : Int) from rfl, u8_and_nat _ _ hc (by decide), show (127 : Nat) = 2 ^ 7 - 1 from rfl, Nat.and_two_pow_sub_one_eq_mod]
  have hp : 128 ^ n ≤ 9223372036854775808 := pow128 n hn
  have hm : c % 128 < 128 := Nat.mod_lt _ (by decide)
  have hb : 128 ^ n * (c % 128) < 18446744073709551616 := by
    by_cases h : n = 9
    · have := h9 h
      have h2 : 128 ^ n * (c % 128) ≤ 9223372036854775808 * 1 := Nat.mul_le_mul hp this
      omega
    · have hp8 : 128 ^ n ≤ 128 ^ 8 := Nat.pow_le_pow_right (by decide) (by omega)
      have h2 : 128 ^ n * (c % 128) ≤ 128 ^ 8 * 127 := Nat.mul_le_mul hp8 (by omega)
      have h3 : (128 : Nat) ^ 8 * 127 < 18446744073709551616 := by decide
      omega
  have e2 : IntKind.u64.wrap ((c % 128 : Nat) : Int) = ((c % 128 : Nat) : Int) := by rw [IntKind.wrap_u64]; omega
  have e3 : ((c % 128 : Nat) : Int) * 2 ^ (7 * n) = ((128 ^ n * (c % 128) : Nat) : Int) := by
    rw [show (2 : Int) ^ (7 * n) = ((2 ^ (7 * n) : Nat) : Int) by simp, pow128', ← Int.natCast_mul, Nat.mul_comm]
  have e4 : IntKind.u64.wrap ((128 ^ n * (c % 128) : Nat) : Int) = ((128 ^ n * (c % 128) : Nat) : Int) := by rw [IntKind.wrap_u64]; omega
  rw [e1, e2, e3, e4, u64_or_nat _ _ (by omega) hb, ← pow128']
  have hx2 : x < 2 ^ (7 * n) := by rw [pow128']; exact hx
  rw [Nat.or_comm, ← Nat.two_pow_add_eq_or_of_lt hx2, Nat.add_comm]
theorem or_first (c : Nat) (hc : c < 256) : Go.bits .or .u64 0 (IntKind.u64.wrap (IntKind.u64.wrap (Go.bits .and .u8 (c : Int) 127))) = ((c % 128 : Nat) : Int) := by
  have := or_next 0 0 c (by decide) (by decide) hc (fun h => by omega)
  simpa using this
/-- a number's bytes -/
def putL (x : Nat) : List UInt8 := if _h : x < 128 then [UInt8.ofNat x] else UInt8.ofNat (x % 128 + 128) :: putL (x / 128)
termination_by x
decreasing_by omega
theorem putL_one (x : Nat) (h : x < 128) : putL x = [UInt8.ofNat x] := by rw [putL, dif_pos h]
theorem putL_more (x : Nat) (h : 128 ≤ x) : putL x = UInt8.ofNat (x % 128 + 128) :: putL (x / 128) := by rw [putL, dif_neg (by omega)]
theorem putL_len (k : Nat) : ∀ x, x < 128 ^ k → 0 < k → (putL x).length ≤ k := by
  induction k with
  | zero => intro x _ h; omega
  | succ k ih =>
    intro x hx _
    by_cases h : x < 128
    · rw [putL_one x h]; simp
    · rw [putL_more x (by omega), List.length_cons]
      have hk : 0 < k := by
        rcases Nat.eq_zero_or_pos k with h0 | h0
        · subst h0; simp at hx; omega
        · exact h0
      have := ih (x / 128) (by rw [Nat.pow_succ] at hx; omega) hk
      omega
theorem putL_len10 (x : Nat) (h : x < 18446744073709551616) : (putL x).length ≤ 10 := putL_len 10 x (Nat.lt_of_lt_of_le h (by decide)) (by decide)
theorem putL_pos (x : Nat) : 0 < (putL x).length := by
  by_cases h : x < 128
  · rw [putL_one x h]; simp
  · rw [putL_more x (by omega)]; simp
theorem val_putL (x : Nat) : val (putL x) = x := by
  induction x using Nat.strongRecOn with
  | ind x ih =>
    by_cases h : x < 128
    · rw [putL_one x h, val, val, UInt8.toNat_ofNat_of_lt' (by show x < 256; omega)]; omega
    · rw [putL_more x (by omega), val, ih (x / 128) (by omega), UInt8.toNat_ofNat_of_lt' (by show x % 128 + 128 < 256; omega)]; omega
/-- What was put is taken, whatever stands behind. -/
theorem take_put (m : List UInt8) : ∀ (f n x : Nat) (pre : List UInt8), pre.length = n → n + f = 10 → x * 128 ^ n < 18446744073709551616 → (0 < n → 0 < x) → takeG (pre ++ putL x ++ m) f n = (val (pre ++ putL x), n + (putL x).length, 0) := by
  intro f
  induction f with
  | zero =>
    intro n x pre hp hn hx hx0
    exfalso
    obtain rfl : n = 10 := by omega
    have h1 := hx0 (by omega)
    have h2 : 1 * 128 ^ 10 ≤ x * 128 ^ 10 := Nat.mul_le_mul_right _ h1
    have h3 : 18446744073709551616 ≤ 1 * 128 ^ 10 := by decide
    omega
  | succ f ih =>
    intro n x pre hp hn hx hx0
    by_cases h : x < 128
    · have e0 : (pre ++ putL x ++ m)[n]? = some (UInt8.ofNat x) := by
        rw [putL_one x h, List.append_assoc, List.getElem?_append_right (by omega), hp, Nat.sub_self]; rfl
      have ec : (UInt8.ofNat x).toNat = x := UInt8.toNat_ofNat_of_lt' (by show x < 256; omega)
      rw [takeG, e0]
      simp only
      rw [ec, if_neg (by omega), if_neg (by omega), if_neg (by
        rintro ⟨rfl, h1⟩
        have h2 : 2 * 128 ^ 9 ≤ x * 128 ^ 9 := Nat.mul_le_mul_right _ h1
        have h3 : 18446744073709551616 ≤ 2 * 128 ^ 9 := by decide
        omega)]
      rw [putL_one x h, List.append_assoc]
      have e1 : (pre ++ ([UInt8.ofNat x] ++ m)).take (n + 1) = pre ++ [UInt8.ofNat x] := by
        rw [← List.append_assoc, List.take_left' (by simp [hp])]
      rw [e1]; simp
    · have e0 : (pre ++ putL x ++ m)[n]? = some (UInt8.ofNat (x % 128 + 128)) := by
        rw [putL_more x (by omega), List.append_assoc, List.getElem?_append_right (by omega), hp, Nat.sub_self]; rfl
      have ec : (UInt8.ofNat (x % 128 + 128)).toNat = x % 128 + 128 := UInt8.toNat_ofNat_of_lt' (by show x % 128 + 128 < 256; omega)
      rw [takeG, e0]
      simp only
      rw [ec, if_pos (by omega)]
      have e1 : pre ++ putL x ++ m = (pre ++ [UInt8.ofNat (x % 128 + 128)]) ++ putL (x / 128) ++ m := by rw [putL_more x (by omega)]; simp
      rw [e1, ih (n + 1) (x / 128) (pre ++ [UInt8.ofNat (x % 128 + 128)]) (by simp [hp]) (by omega) (by
        rw [Nat.pow_succ, Nat.mul_comm (128 ^ n) 128, ← Nat.mul_assoc]
        exact Nat.lt_of_le_of_lt (Nat.mul_le_mul_right _ (by omega)) hx) (by omega)]
      rw [putL_more x (by omega)]
      simp; omega
theorem takeR_put (x : Nat) (hx : x < 18446744073709551616) (m : List UInt8) : takeR (putL x ++ m) = (x, (putL x).length, 0) := by
  have := take_put m 10 0 x [] rfl rfl (by simpa using hx) (fun h => by omega)
  unfold takeR
  simpa [val_putL] using this
/-- What is taken is put as just those bytes. -/
theorem put_take (l : List UInt8) : ∀ (f n : Nat) (x k : Nat), n + f = 10 → (∀ i, i < n → ∃ c, l[i]? = some c ∧ 128 ≤ c.toNat) → takeG l f n = (x, k, 0) → k ≤ l.length ∧ putL x = l.take k := by
  have key : ∀ (l : List UInt8) (n : Nat), (∀ i, i < n → ∃ c, l[i]? = some c ∧ 128 ≤ c.toNat) → ∀ c, l[n]? = some c → c.toNat < 128 → (0 < n → c.toNat ≠ 0) → putL (val (l.take (n + 1))) = l.take (n + 1) := by
    intro l n
    induction n generalizing l with
    | zero =>
      intro _ c hc h1 _
      cases l with
      | nil => simp at hc
      | cons b l =>
        obtain rfl : b = c := by simpa using hc
        simp only [Nat.zero_add, List.take_succ_cons, List.take_zero, val, Nat.mul_zero, Nat.add_zero]
        rw [Nat.mod_eq_of_lt h1, putL_one _ h1]
        simp
    | succ n ih =>
      intro hall c hc h1 h0
      cases l with
      | nil => simp at hc
      | cons b l =>
        obtain ⟨b', hb', hb⟩ := hall 0 (by omega)
        obtain rfl : b = b' := by simpa using hb'
        have h2 := ih l (fun i hi => by have := hall (i + 1) (by omega); simpa using this) c (by simpa using hc) h1 (fun _ => h0 (by omega))
        rw [List.take_succ_cons, val]
        have hv : 0 < val (l.take (n + 1)) := by
          have h3 := putL_pos (val (l.take (n + 1)))
          rcases Nat.eq_zero_or_pos (val (l.take (n + 1))) with hz | hz
          · exfalso
            rw [hz, putL_one 0 (by decide)] at h2
            have h5 : l.take (n + 1) = [0] := h2.symm
            have h6 : l[n]? = some c := by simpa using hc
            have hl : n < l.length := (List.getElem?_eq_some_iff.1 h6).1
            have h7 : (l.take (n + 1)).length = 1 := by rw [h5]; rfl
            rw [List.length_take] at h7
            obtain rfl : n = 0 := by omega
            cases l with
            | nil => simp at h6
            | cons d l =>
              simp at h5 h6
              subst h6
              exact h0 (by omega) (by rw [h5]; rfl)
          · exact hz
        have hlt : b.toNat < 256 := b.toNat_lt
        rw [putL_more _ (by omega), show (b.toNat % 128 + 128 * val (l.take (n + 1))) / 128 = val (l.take (n + 1)) by omega, h2, show (b.toNat % 128 + 128 * val (l.take (n + 1))) % 128 + 128 = b.toNat by omega]
        simp
  intro f
  induction f with
  | zero => intro n x k _ _ h; simp [takeG] at h
  | succ f ih =>
    intro n x k hn hall h
    rw [takeG] at h
    cases hc : l[n]? with
    | none => rw [hc] at h; simp at h
    | some c =>
      rw [hc] at h
      simp only at h
      by_cases h1 : 128 ≤ c.toNat
      · rw [if_pos h1] at h
        refine ih (n + 1) x k (by omega) (fun i hi => ?_) h
        by_cases hin : i = n
        · subst hin; exact ⟨c, hc, h1⟩
        · exact hall i (by omega)
      · rw [if_neg h1] at h
        split at h
        · simp at h
        · rename_i h2
          split at h
          · simp at h
          · have e := Prod.mk.inj h
            have e2 := Prod.mk.inj e.2
            have hl : n < l.length := (List.getElem?_eq_some_iff.1 hc).1
            refine ⟨by omega, ?_⟩
            rw [← e.1, ← e2.1]
            exact key l n hall c hc (by omega) (fun h3 h4 => h2 ⟨h3, h4⟩)
theorem putR_take (l : List UInt8) (x k : Nat) (h : takeR l = (x, k, 0)) : k ≤ l.length ∧ putL x = l.take k := put_take l 10 0 x k rfl (fun i hi => by omega) h
theorem takeR_err (l : List UInt8) (x k e : Nat) (h : takeR l = (x, k, e)) (he : e ≠ 0) : x = 0 ∧ k = 0 := by
  have key : ∀ (f n : Nat), takeG l f n = (x, k, e) → x = 0 ∧ k = 0 := by
    intro f
    induction f with
    | zero => intro n h; simp [takeG] at h; omega
    | succ f ih =>
      intro n h
      rw [takeG] at h
      cases hc : l[n]? with
      | none => rw [hc] at h; simp at h; omega
      | some c =>
        rw [hc] at h
        simp only at h
        split at h
        · exact ih _ h
        · split at h
          · simp at h; omega
          · split at h
            · simp at h; omega
            · simp at h; omega
  exact key 10 0 h
theorem takeR_lt (l : List UInt8) : (takeR l).1 < 18446744073709551616 ∧ (takeR l).2.1 ≤ 10 ∧ (takeR l).2.1 ≤ l.length ∧ (takeR l).2.2 ≤ 3 := by
  have key : ∀ (f n : Nat), n + f = 10 → (takeG l f n).1 < 18446744073709551616 ∧ (takeG l f n).2.1 ≤ 10 ∧ (takeG l f n).2.1 ≤ l.length ∧ (takeG l f n).2.2 ≤ 3 := by
    intro f
    induction f with
    | zero => intro n _; simp [takeG]
    | succ f ih =>
      intro n hn
      rw [takeG]
      cases hc : l[n]? with
      | none => simp
      | some c =>
        simp only
        have hl : n < l.length := (List.getElem?_eq_some_iff.1 hc).1
        split
        · exact ih _ (by omega)
        · split
          · simp
          · split
            · simp
            · rename_i h1 h2 h3
              refine ⟨?_, by show n + 1 ≤ 10; omega, by show n + 1 ≤ l.length; omega, by show 0 ≤ 3; omega⟩
              show val (l.take (n + 1)) < _
              rw [val_take_succ l n hl]
              have hlc : l[n] = c := by rw [List.getElem?_eq_getElem hl] at hc; exact Option.some.inj hc
              rw [hlc]
              have h4 := val_take_lt l n (by omega)
              have hp := pow128 n (by omega)
              by_cases h9 : n = 9
              · have h5 : c.toNat % 128 ≤ 1 := by omega
                have : 128 ^ n * (c.toNat % 128) ≤ 9223372036854775808 * 1 := Nat.mul_le_mul hp h5
                omega
              · have hp8 : 128 ^ n ≤ 128 ^ 8 := Nat.pow_le_pow_right (by decide) (by omega)
                have h5 : val (l.take n) < 128 ^ 8 := Nat.lt_of_lt_of_le (val_lt _) (Nat.pow_le_pow_right (by decide) (Nat.le_trans (List.length_take_le _ _) (by omega)))
                have h6 : 128 ^ n * (c.toNat % 128) ≤ 128 ^ 8 * 127 := Nat.mul_le_mul hp8 (by omega)
                have h7 : (128 : Nat) ^ 8 + 128 ^ 8 * 127 < 18446744073709551616 := by decide
                omega
  exact key 10 0 rfl
end Go.Proofs.Ytcaocnlchfbeaaa.Num

/- Plain laws on a cursor: what is left, and the first error. No condition. -/
namespace Go.Proofs.Ytcaocnlchfbeaaa.Cur
structure C where
  b : List UInt8
  e : Int
def failC (c : C) (e : Int) : C := if c.e = 0 ∧ e ≠ 0 then ⟨[], e⟩ else c
def rawC (c : C) (n : Int) : List UInt8 × C :=
  if n < 0 then ([], failC c 3) else if c.e ≠ 0 then ([], c) else if (c.b.length : Int) < n then ([], ⟨[], 1⟩) else (c.b.take n.toNat, ⟨c.b.drop n.toNat, 0⟩)
def numC (c : C) (most : Nat) : Nat × C :=
  if c.e ≠ 0 then (0, c) else
  if (Num.takeR c.b).2.2 ≠ 0 then (0, ⟨[], ((Num.takeR c.b).2.2 : Nat)⟩) else
  if most < (Num.takeR c.b).1 then (0, ⟨[], 3⟩) else ((Num.takeR c.b).1, ⟨c.b.drop (Num.takeR c.b).2.1, 0⟩)
def hashC (c : C) : List UInt8 × C := ((rawC c 32).1 ++ List.replicate (32 - (rawC c 32).1.length) 0, (rawC c 32).2)
def textC (c : C) (most : Int) : List UInt8 × C := rawC (numC c (max most 0).toNat).2 (numC c (max most 0).toNat).1
def doneC (c : C) : Int := if c.e = 0 ∧ c.b ≠ [] then 2 else c.e
def byteC (c : C) : Nat × C := ((((rawC c 1).1.head?).map (·.toNat)).getD 0, (rawC c 1).2)
theorem fail_len (c : C) (e : Int) : (failC c e).b.length ≤ c.b.length := by unfold failC; split <;> simp
theorem raw_len (c : C) (n : Int) : (rawC c n).2.b.length ≤ c.b.length ∧ (rawC c n).1.length ≤ c.b.length := by
  unfold rawC
  split
  · exact ⟨fail_len c 3, by simp⟩
  split
  · exact ⟨Nat.le_refl _, by simp⟩
  split
  · simp
  · simp [List.length_take]; omega
theorem num_len (c : C) (most : Nat) : (numC c most).2.b.length ≤ c.b.length := by
  unfold numC
  split
  · exact Nat.le_refl _
  split
  · simp
  split
  · simp
  · simp
theorem num_le (c : C) (most : Nat) : (numC c most).1 ≤ most := by
  unfold numC
  split
  · simp
  split
  · simp
  split
  · simp
  · simp; omega
theorem raw_ok (l : List UInt8) (n : Nat) (h : n ≤ l.length) : rawC ⟨l, 0⟩ n = (l.take n, ⟨l.drop n, 0⟩) := by
  unfold rawC
  rw [if_neg (by omega), if_neg (by simp), if_neg (by simp; omega)]
  simp
theorem raw_short (l : List UInt8) (n : Nat) (h : l.length < n) : rawC ⟨l, 0⟩ n = ([], ⟨[], 1⟩) := by
  unfold rawC
  rw [if_neg (by omega), if_neg (by simp), if_pos (by simp; omega)]
theorem raw_err (l : List UInt8) (e : Int) (n : Nat) (h : e ≠ 0) : rawC ⟨l, e⟩ n = ([], ⟨l, e⟩) := by
  unfold rawC
  rw [if_neg (by omega), if_pos h]
theorem raw_neg (c : C) (n : Int) (h : n < 0) : rawC c n = ([], failC c 3) := by
  unfold rawC
  rw [if_pos h]
theorem fail_some (l : List UInt8) (e : Int) (h : e ≠ 0) : failC ⟨l, 0⟩ e = ⟨[], e⟩ := by unfold failC; rw [if_pos ⟨rfl, h⟩]
theorem fail_kept (c : C) (e : Int) (h : c.e ≠ 0) : failC c e = c := by unfold failC; rw [if_neg (fun x => h x.1)]
theorem num_err (c : C) (m : Nat) (h : c.e ≠ 0) : numC c m = (0, c) := by unfold numC; rw [if_pos h]
theorem num_bad (l : List UInt8) (m : Nat) (h : (Num.takeR l).2.2 ≠ 0) : numC ⟨l, 0⟩ m = (0, ⟨[], ((Num.takeR l).2.2 : Nat)⟩) := by
  unfold numC; rw [if_neg (by simp), if_pos h]
theorem num_big (l : List UInt8) (m : Nat) (h : (Num.takeR l).2.2 = 0) (h2 : m < (Num.takeR l).1) : numC ⟨l, 0⟩ m = (0, ⟨[], 3⟩) := by
  unfold numC; rw [if_neg (by simp), if_neg (by simpa using h), if_pos h2]
theorem num_ok (l : List UInt8) (m : Nat) (h : (Num.takeR l).2.2 = 0) (h2 : ¬ m < (Num.takeR l).1) : numC ⟨l, 0⟩ m = ((Num.takeR l).1, ⟨l.drop (Num.takeR l).2.1, 0⟩) := by
  unfold numC; rw [if_neg (by simp), if_neg (by simpa using h), if_neg h2]
end Go.Proofs.Ytcaocnlchfbeaaa.Cur

/- Plain laws on a header's bytes. No condition. -/
namespace Go.Proofs.Ytcaocnlchfbeaaa.Hd
open Go.RowKit Go.Proofs.Ytcaocnlchfbeaaa.Wd Go.Proofs.Ytcaocnlchfbeaaa.Cur
structure Hd where
  ht : Nat
  ln : List UInt8
  tx : List UInt8
  no : Nat
/-- a header that can be -/
def Hd.Ok (h : Hd) : Prop := h.ht < 4294967296 ∧ h.ln.length = 32 ∧ h.tx.length = 32 ∧ h.no < 18446744073709551616
def Hd.b (h : Hd) : List UInt8 := beL 4 h.ht ++ (h.ln ++ (h.tx ++ beL 8 h.no))
def hd0 : Hd := ⟨0, List.replicate 32 0, List.replicate 32 0, 0⟩
theorem hd0_ok : hd0.Ok := ⟨by decide, by simp [hd0], by simp [hd0], by decide⟩
def Hd.of (l : List UInt8) : Hd := ⟨beN ((l.drop 0).take 4), (l.drop 4).take 32, (l.drop 36).take 32, beN ((l.drop 68).take 8)⟩
theorem Hd.b_len (h : Hd) (k : h.Ok) : h.b.length = 76 := by
  unfold Hd.b
  simp only [List.length_append, beL_len, k.2.1, k.2.2.1]
theorem Hd.of_ok (l : List UInt8) (h : l.length = 76) : (Hd.of l).Ok := by
  refine ⟨?_, ?_, ?_, ?_⟩
  · exact Nat.lt_of_lt_of_le (beN_lt _) (Nat.le_trans (Nat.pow_le_pow_right (by decide) (by rw [List.length_take]; exact Nat.min_le_left 4 _)) (by decide))
  · simp [Hd.of, h]
  · simp [Hd.of, h]
  · exact beN_lt64 _ (by rw [List.length_take]; exact Nat.min_le_left 8 _)
theorem Hd.of_b (h : Hd) (k : h.Ok) : Hd.of h.b = h := by
  obtain ⟨a, l, t, n⟩ := h
  obtain ⟨h1, h2, h3, h4⟩ := k
  simp only at h1 h2 h3 h4
  unfold Hd.of Hd.b
  simp only
  have e1 : (beL 4 a ++ (l ++ (t ++ beL 8 n))).take 4 = beL 4 a := by rw [List.take_left' (beL_len 4 a)]
  have e2 : (beL 4 a ++ (l ++ (t ++ beL 8 n))).drop 4 = l ++ (t ++ beL 8 n) := by rw [List.drop_left' (beL_len 4 a)]
  have e3 : (beL 4 a ++ (l ++ (t ++ beL 8 n))).drop 36 = t ++ beL 8 n := by
    rw [show 36 = 4 + 32 from rfl, ← List.drop_drop, e2, List.drop_left' h2]
  have e4 : (beL 4 a ++ (l ++ (t ++ beL 8 n))).drop 68 = beL 8 n := by
    rw [show 68 = 36 + 32 from rfl, ← List.drop_drop, e3, List.drop_left' h3]
  rw [List.drop_zero, e1, e2, e3, e4, beN_beL 4 a h1, List.take_left' h2, List.take_left' h3, List.take_of_length_le (by rw [beL_len]; exact Nat.le_refl _), beN_beL 8 n h4]
theorem Hd.b_of (l : List UInt8) (h : l.length = 76) : (Hd.of l).b = l := by
  unfold Hd.of Hd.b
  simp only
  have e1 := beL_beN ((l.drop 0).take 4)
  have e2 := beL_beN ((l.drop 68).take 8)
  rw [show ((l.drop 0).take 4).length = 4 by simp [h]] at e1
  rw [show ((l.drop 68).take 8).length = 8 by simp [h]] at e2
  rw [e1, e2, List.drop_zero]
  have a1 : (l.drop 68).take 8 = l.drop 68 := List.take_of_length_le (by simp [h])
  have a2 : (l.drop 36).take 32 ++ l.drop 68 = l.drop 36 := by
    rw [show l.drop 68 = (l.drop 36).drop 32 by rw [List.drop_drop], List.take_append_drop]
  have a3 : (l.drop 4).take 32 ++ l.drop 36 = l.drop 4 := by
    rw [show l.drop 36 = (l.drop 4).drop 32 by rw [List.drop_drop], List.take_append_drop]
  rw [a1, a2, a3, List.take_append_drop]
/-- what is taken as a header -/
def getC (c : C) : Hd × C := (if (rawC c 76).1 = [] then hd0 else Hd.of (rawC c 76).1, (rawC c 76).2)
theorem raw76 (c : C) : (rawC c 76).1 = [] ∨ (rawC c 76).1.length = 76 := by
  unfold rawC
  split
  · exact .inl rfl
  split
  · exact .inl rfl
  split
  · exact .inl rfl
  · exact .inr (by simp; omega)
theorem getC_ok (c : C) : (getC c).1.Ok := by
  unfold getC
  simp only
  split
  · exact hd0_ok
  · rename_i h
    exact Hd.of_ok _ ((raw76 c).resolve_left h)
end Go.Proofs.Ytcaocnlchfbeaaa.Hd

/- Plain facts on the shape of a tree. No condition. -/
namespace Go.Proofs.Ytcaocnlchfbeaaa.Shape
/-- how many leaves stand on the left side -/
def leftN (n : Nat) : Nat := if n < 2 then 0 else 2 ^ Nat.log2 (n - 1)
theorem left_spec (n : Nat) (h : 2 ≤ n) : leftN n < n ∧ n ≤ 2 * leftN n ∧ 1 ≤ leftN n := by
  unfold leftN
  rw [if_neg (by omega)]
  have h1 := Nat.log2_self_le (n := n - 1) (by omega)
  have h2 := Nat.lt_log2_self (n := n - 1)
  have h3 : 1 ≤ 2 ^ (n - 1).log2 := Nat.one_le_two_pow
  rw [Nat.pow_succ] at h2
  omega
theorem left_uniq (n j : Nat) (_h : 2 ≤ n) (h1 : 2 ^ j < n) (h2 : n ≤ 2 * 2 ^ j) : leftN n = 2 ^ j := by
  unfold leftN
  rw [if_neg (by omega)]
  congr 1
  rw [Nat.log2_eq_iff (by omega)]
  rw [Nat.pow_succ]
  omega
theorem left_small (n : Nat) (h : n < 2) : leftN n = 0 := by unfold leftN; rw [if_pos h]
/-- from the top down: to the right? -/
def downL (n i : Nat) : List Bool :=
  if _h : n < 2 then [] else if i < leftN n then false :: downL (leftN n) i else true :: downL (n - leftN n) (i - leftN n)
termination_by n
decreasing_by
  · have := left_spec n (by omega); omega
  · have := left_spec n (by omega); omega
theorem downL_one (n i : Nat) (h : n < 2) : downL n i = [] := by rw [downL, dif_pos h]
theorem downL_left (n i : Nat) (h : 2 ≤ n) (hi : i < leftN n) : downL n i = false :: downL (leftN n) i := by rw [downL, dif_neg (by omega), if_pos hi]
theorem downL_right (n i : Nat) (h : 2 ≤ n) (hi : leftN n ≤ i) : downL n i = true :: downL (n - leftN n) (i - leftN n) := by rw [downL, dif_neg (by omega), if_neg (by omega)]
/-- from a leaf up -/
def sidesL (n i : Nat) : List Bool := (downL n i).reverse
/-- how deep: no deeper than the bits of the number of leaves less 1 -/
theorem down_len : ∀ (k n i : Nat), n ≤ 2 ^ k → (downL n i).length ≤ k := by
  intro k
  induction k with
  | zero => intro n i h; rw [downL_one n i (by simp at h; omega)]; simp
  | succ k ih =>
    intro n i h
    by_cases hn : n < 2
    · rw [downL_one n i hn]; simp
    · have hs := left_spec n (by omega)
      have hp : leftN n ≤ 2 ^ k := by
        unfold leftN at hs ⊢
        rw [if_neg (by omega)] at hs ⊢
        by_cases hj : (n - 1).log2 ≤ k
        · exact Nat.pow_le_pow_right (by decide) hj
        · have : 2 ^ (k + 1) ≤ 2 ^ (n - 1).log2 := Nat.pow_le_pow_right (by decide) (by omega)
          omega
      by_cases hi : i < leftN n
      · rw [downL_left n i (by omega) hi, List.length_cons]
        have := ih (leftN n) i hp
        omega
      · rw [downL_right n i (by omega) (by omega), List.length_cons]
        have := ih (n - leftN n) (i - leftN n) (by omega)
        omega
theorem down_len64 (n i : Nat) (h : n ≤ 9223372036854775808) : (downL n i).length ≤ 63 := down_len 63 n i (by omega)
theorem down_apart : ∀ (k n i j : Nat), n ≤ k → i < n → j < n → downL n i = downL n j → i = j := by
  intro k
  induction k with
  | zero => intro n i j h hi; omega
  | succ k ih =>
    intro n i j h hi hj he
    by_cases hn : n < 2
    · omega
    · have hs := left_spec n (by omega)
      by_cases h1 : i < leftN n <;> by_cases h2 : j < leftN n
      · rw [downL_left n i (by omega) h1, downL_left n j (by omega) h2] at he
        exact ih (leftN n) i j (by omega) h1 h2 (List.cons.inj he).2
      · rw [downL_left n i (by omega) h1, downL_right n j (by omega) (by omega)] at he
        simp at he
      · rw [downL_right n i (by omega) (by omega), downL_left n j (by omega) h2] at he
        simp at he
      · rw [downL_right n i (by omega) (by omega), downL_right n j (by omega) (by omega)] at he
        have := ih (n - leftN n) (i - leftN n) (j - leftN n) (by omega) (by omega) (by omega) (List.cons.inj he).2
        omega
end Go.Proofs.Ytcaocnlchfbeaaa.Shape
