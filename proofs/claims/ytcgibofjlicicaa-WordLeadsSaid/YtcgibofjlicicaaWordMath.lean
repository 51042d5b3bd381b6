/- Plain facts on words: big-endian digits, rotation, leading zeros. No condition. -/
import Derived.Test.YtcgibofjlicicaaWMore
import Derived.Laws.BitsLemmas
import Derived.Laws.Bits64
import Derived.Laws.BitsAllLaws
namespace Go.Proofs.Ytcgibofjlicicaa.WM
open Go.RowKit Go.Proofs.YtcgibofjlicicaaW.PrintWords Go.Proofs.YtcgibofjlicicaaW.PrintMore

theorem w64 (x : Int) (h0 : -9223372036854775808 ≤ x) (h1 : x < 9223372036854775808) : wrap64 x = x := by unfold wrap64; omega
theorem wu64 (x : Int) (h0 : 0 ≤ x) (h1 : x < 18446744073709551616) : IntKind.u64.wrap x = x := by rw [IntKind.wrap_u64]; omega
theorem wu32 (x : Int) (h0 : 0 ≤ x) (h1 : x < 4294967296) : IntKind.u32.wrap x = x := by rw [IntKind.wrap_u32]; omega

theorem wf_u64 {n : Int} (h : (Lit.int .u64 n).wf = true) : 0 ≤ n ∧ n ≤ 18446744073709551615 := by
  simp [Lit.wf, IntKind.min, IntKind.max, IntKind.signed, IntKind.bits] at h
  omega
theorem wf_u32 {n : Int} (h : (Lit.int .u32 n).wf = true) : 0 ≤ n ∧ n ≤ 4294967295 := by
  simp [Lit.wf, IntKind.min, IntKind.max, IntKind.signed, IntKind.bits] at h
  omega
theorem wf_i64 {n : Int} (h : (Lit.int .i64 n).wf = true) : -9223372036854775808 ≤ n ∧ n ≤ 9223372036854775807 := by
  simp [Lit.wf, IntKind.min, IntKind.max, IntKind.signed, IntKind.bits] at h
  omega
/-- the byte i behind a place, or 0 -/
def fb (s : ByteArray) (at_ : Int) (i : Nat) : Nat :=
  if at_ ≥ 0 then if at_ < (s.size : Int) then if (i : Int) < (s.size : Int) - at_ then (bt s (at_ + i)).toNat else 0 else 0 else 0
theorem fb_lt (s : ByteArray) (at_ : Int) (i : Nat) : fb s at_ i < 256 := by
  unfold fb
  have := bt_range s (at_ + i)
  split
  · split
    · split <;> omega
    · omega
  · omega
/-- the number of n bytes -/
def tk (s : ByteArray) (at_ : Int) : Nat → Nat
  | 0 => 0
  | n + 1 => tk s at_ n * 256 + fb s at_ n
theorem tk_lt (s : ByteArray) (at_ : Int) (n : Nat) : tk s at_ n < 256 ^ n := by
  induction n with
  | zero => simp [tk]
  | succ n ih => have := fb_lt s at_ n; rw [tk, Nat.pow_succ]; omega
theorem tk_lt8 (s : ByteArray) (at_ : Int) (n : Nat) (hn : n ≤ 7) : tk s at_ n < 72057594037927936 :=
  Nat.lt_of_lt_of_le (tk_lt s at_ n) (Nat.le_trans (Nat.pow_le_pow_right (by decide) hn) (by decide))
/-- one more byte, as 'or' puts it -/
theorem or_step (x b : Nat) (hx : x < 72057594037927936) (hb : b < 256) : Go.bits .or .u64 (IntKind.u64.wrap ((x : Int) * 256)) (IntKind.u64.wrap (b : Int)) = ((x * 256 + b : Nat) : Int) := by
  rw [wu64 _ (by omega) (by omega), wu64 _ (by omega) (by omega)]
  rw [show ((x : Int) * 256) = ((x * 256 : Nat) : Int) by omega, u64_or_nat _ _ (by omega) (by omega), nat_join 8 _ _ (by omega) (by omega)]
theorem or_zero (x : Nat) (hx : x < 72057594037927936) : IntKind.u64.wrap ((x : Int) * 256) = ((x * 256 + 0 : Nat) : Int) := by
  rw [wu64 _ (by omega) (by omega)]; omega
theorem add_step (x b : Nat) (hx : x < 72057594037927936) (hb : b < 256) : IntKind.u64.wrap ((IntKind.u64.wrap ((x : Int) * 256)) + (IntKind.u64.wrap (b : Int))) = ((x * 256 + b : Nat) : Int) := by
  rw [wu64 (x * 256) (by omega) (by omega), wu64 b (by omega) (by omega), wu64 _ (by omega) (by omega)]; omega

/-- the n lowest bytes of a number, the highest first -/
def lo (x : Nat) : Nat → List Int
  | 0 => []
  | n + 1 => ((x / 256 ^ n % 256 : Nat) : Int) :: lo x n
theorem lo_len (x n : Nat) : (lo x n).length = n := by induction n with
  | zero => rfl
  | succ n ih => simp [lo, ih]
theorem lo_get (x n i : Nat) (h : i < n) : (lo x n)[i]? = some ((x / 256 ^ (n - 1 - i) % 256 : Nat) : Int) := by
  induction n generalizing i with
  | zero => omega
  | succ n ih =>
    cases i with
    | zero => simp [lo]
    | succ i => rw [lo, List.getElem?_cons_succ, ih i (by omega), show n + 1 - 1 - (i + 1) = n - 1 - i by omega]
theorem set_lo (x n i : Nat) (h : i < n) : (List.replicate (n - i) (0 : Int) ++ lo x i).set (n - 1 - i) ((x / 256 ^ i % 256 : Nat) : Int) = List.replicate (n - (i + 1)) (0 : Int) ++ lo x (i + 1) := by
  obtain ⟨m, rfl⟩ : ∃ m, n = m + 1 + i := ⟨n - i - 1, by omega⟩
  rw [show m + 1 + i - i = m + 1 by omega, show m + 1 + i - 1 - i = m by omega, show m + 1 + i - (i + 1) = m by omega, List.replicate_succ', List.append_assoc]
  rw [List.set_append_right _ _ (by simp)]
  simp [lo]
theorem div_step (x i : Nat) : x / 256 ^ i / 256 = x / 256 ^ (i + 1) := by rw [Nat.div_div_eq_div_mul, Nat.pow_succ]
theorem str_cons (a : Int) (l : List Int) : strOfNums [a] ++ strOfNums l = strOfNums (a :: l) := by
  apply ByteArray.ext
  simp [strOfNums]
theorem str_size (l : List Int) : (strOfNums l).size = l.length := strOfNums_size l
/-- a byte of what is laid behind s -/
theorem bt_app (s t : ByteArray) (u : ByteArray) (i : Nat) (h : i < t.size) : bt (s ++ t ++ u) ((s.size : Int) + i) = bt t i := by
  unfold bt
  have e : ((s.size : Int) + i).toNat = s.size + i := by omega
  have h2 : (s ++ t ++ u).size = s.size + t.size + u.size := by simp
  rw [dif_pos (by rw [e, h2]; omega), dif_pos (by simpa using h)]
  congr 2
  simp only [e, Int.toNat_natCast]
  rw [ByteArray.getElem_append_left (by simp; omega), ByteArray.getElem_append_right (by omega)]
  simp
theorem bt_lo (x n i : Nat) (h : i < n) : (bt (strOfNums (lo x n)) i).toNat = x / 256 ^ (n - 1 - i) % 256 := by
  have hs : i < (strOfNums (lo x n)).size := by rw [strOfNums_size, lo_len]; exact h
  unfold bt
  rw [dif_pos (by simpa using hs)]
  have hg := lo_get x n i h
  have hl : i < (lo x n).length := by rw [lo_len]; exact h
  have hb : x / 256 ^ (n - 1 - i) % 256 < 256 := Nat.mod_lt _ (by decide)
  have : ((strOfNums (lo x n))[i]'hs) = UInt8.ofNat (x / 256 ^ (n - 1 - i) % 256) := by
    show ((strOfNums (lo x n)).data[i]'hs) = _
    have h2 : (strOfNums (lo x n)).data.toList[i]? = some (UInt8.ofNat (x / 256 ^ (n - 1 - i) % 256)) := by
      rw [strOfNums_data, List.getElem?_map, hg]; simp only [Option.map_some, Int.toNat_natCast]
    rw [← Array.getElem_toList]
    exact (List.getElem_eq_iff _).2 h2
  simp only [Int.toNat_natCast, this]
  simp
/-- What was put is taken. -/
theorem tk_put (s u : ByteArray) (x n : Nat) (hx : x < 256 ^ n) : ∀ i, i ≤ n → tk (s ++ strOfNums (lo x n) ++ u) (s.size : Int) i = x / 256 ^ (n - i) := by
  intro i
  induction i with
  | zero => intro _; rw [tk, Nat.sub_zero, Nat.div_eq_of_lt hx]
  | succ i ih =>
    intro h
    have hfb : fb (s ++ strOfNums (lo x n) ++ u) (s.size : Int) i = x / 256 ^ (n - 1 - i) % 256 := by
      unfold fb
      have h2 : (s ++ strOfNums (lo x n) ++ u).size = s.size + n + u.size := by simp [strOfNums_size, lo_len]
      rw [if_pos (by omega), if_pos (by rw [h2]; omega), if_pos (by rw [h2]; omega), bt_app _ _ _ _ (by rw [strOfNums_size, lo_len]; omega), bt_lo x n i (by omega)]
    rw [tk, ih (by omega), hfb, show n - i = (n - 1 - i) + 1 by omega, show n - (i + 1) = n - 1 - i by omega, ← div_step]
    omega
theorem tk_all (s u : ByteArray) (x n : Nat) (hx : x < 256 ^ n) : tk (s ++ strOfNums (lo x n) ++ u) (s.size : Int) n = x := by
  rw [tk_put s u x n hx n (Nat.le_refl _), Nat.sub_self, Nat.pow_zero, Nat.div_one]
theorem tk_all' (s : ByteArray) (x n : Nat) (hx : x < 256 ^ n) : tk (s ++ strOfNums (lo x n)) (s.size : Int) n = x := by
  have := tk_all s ByteArray.empty x n hx
  rwa [ByteArray.append_empty] at this

/-- how many bits a number has -/
def bl (x : Nat) : Nat := if _h : x = 0 then 0 else bl (x / 2) + 1
termination_by x
decreasing_by omega
theorem bl_zero : bl 0 = 0 := by rw [bl]; simp
theorem bl_pos (x : Nat) (h : 0 < x) : bl x = bl (x / 2) + 1 := by rw [bl, dif_neg (by omega)]
theorem bl_le (n : Nat) : ∀ x, bl x ≤ n ↔ x < 2 ^ n := by
  induction n with
  | zero =>
    intro x
    by_cases h : x = 0
    · subst h; simp [bl_zero]
    · rw [bl_pos x (by omega)]; simp; omega
  | succ n ih =>
    intro x
    by_cases h : x = 0
    · subst h; simp [bl_zero, Nat.two_pow_pos]
    · rw [bl_pos x (by omega), Nat.pow_succ, Nat.add_le_add_iff_right, ih]
      omega

/-- a word turned to the right -/
def rot (x k : Nat) : Nat := (x / 2 ^ k) ||| (x * 2 ^ (32 - k) % 4294967296)
theorem rot_lt (x k : Nat) (hx : x < 4294967296) : rot x k < 4294967296 := by
  unfold rot
  refine Nat.or_lt_two_pow (n := 32) ?_ (Nat.mod_lt _ (by decide))
  exact Nat.lt_of_le_of_lt (Nat.div_le_self _ _) hx
theorem rot_bit (x k i : Nat) (hx : x < 4294967296) (hk : k < 32) (hi : i < 32) : (rot x k).testBit i = x.testBit ((i + k) % 32) := by
  unfold rot
  rw [Nat.testBit_or, ← Nat.shiftRight_eq_div_pow, Nat.testBit_shiftRight, show (4294967296 : Nat) = 2 ^ 32 from rfl, Nat.testBit_mod_two_pow, ← Nat.shiftLeft_eq, Nat.testBit_shiftLeft]
  by_cases h : i + k < 32
  · rw [show (i + k) % 32 = k + i by omega]
    have : ¬ (i ≥ 32 - k) := by omega
    simp [this]
  · have hz : x.testBit (k + i) = false := Nat.testBit_lt_two_pow (Nat.lt_of_lt_of_le hx (Nat.pow_le_pow_right (n := 2) (by decide) (show 32 ≤ k + i by omega)))
    have h1 : i ≥ 32 - k := by omega
    simp [hz, h1, hi]
    congr 1; omega
theorem rot_back (x k : Nat) (hx : x < 4294967296) (hk : k < 32) : rot (rot x k) ((32 - k) % 32) = x := by
  apply Nat.eq_of_testBit_eq
  intro i
  by_cases hi : i < 32
  · rw [rot_bit _ _ i (rot_lt x k hx) (Nat.mod_lt _ (by decide)) hi, rot_bit x k _ hx hk (Nat.mod_lt _ (by decide))]
    congr 1
    omega
  · have hp : 4294967296 ≤ 2 ^ i := Nat.pow_le_pow_right (n := 2) (by decide) (show 32 ≤ i by omega)
    rw [Nat.testBit_lt_two_pow (Nat.lt_of_lt_of_le (rot_lt _ _ (rot_lt x k hx)) hp), Nat.testBit_lt_two_pow (Nat.lt_of_lt_of_le hx hp)]
/-- the number of bits, the lowest first -/
def num : List Bool → Nat
  | [] => 0
  | b :: l => (if b then 1 else 0) + 2 * num l
theorem num_lt (l : List Bool) : num l < 2 ^ l.length := by
  induction l with
  | nil => simp [num]
  | cons b l ih => rw [num, List.length_cons, Nat.pow_succ]; split <;> omega
theorem num_bit (l : List Bool) (i : Nat) : (num l).testBit i = l.getD i false := by
  induction l generalizing i with
  | nil => simp [num]
  | cons b l ih =>
    cases i with
    | zero => rw [num, Nat.testBit_zero]; cases b <;> simp <;> omega
    | succ i =>
      rw [num, Nat.testBit_succ, show ((if b = true then 1 else 0) + 2 * num l) / 2 = num l by split <;> omega, ih]
      simp
/-- the n lowest bits, the lowest first -/
def lob (x n : Nat) : List Bool := (List.range n).map fun i => x.testBit i
theorem lob_get (x n i : Nat) (h : i < n) : (lob x n).getD i false = x.testBit i := by
  simp [lob, List.getD_eq_getElem?_getD, h]
theorem lob_len (x n : Nat) : (lob x n).length = n := by simp [lob]
theorem bit_div (x i : Nat) : ((x / 2 ^ i) % 2 == 1) = x.testBit i := by
  rw [Nat.testBit_eq_decide_div_mod_eq]
  exact Bool.beq_eq_decide_eq _ _
theorem div_step2 (x i : Nat) : x / 2 ^ i / 2 = x / 2 ^ (i + 1) := by rw [Nat.div_div_eq_div_mul, Nat.pow_succ]
theorem num_drop (l : List Bool) (i : Nat) (h : i < l.length) : num (l.drop i) = (if l.getD i false = true then 1 else 0) + 2 * num (l.drop (i + 1)) := by
  rw [List.drop_eq_getElem_cons h, num, List.getD_eq_getElem?_getD, List.getElem?_eq_getElem h]
  simp
theorem map_set {α : Type} (f : Nat → α) (z : α) (n i : Nat) (h : i < n) : ((List.range i).map f ++ List.replicate (n - i) z).set i (f i) = (List.range (i + 1)).map f ++ List.replicate (n - (i + 1)) z := by
  obtain ⟨m, rfl⟩ : ∃ m, n = i + 1 + m := ⟨n - i - 1, by omega⟩
  rw [show i + 1 + m - i = m + 1 by omega, show i + 1 + m - (i + 1) = m by omega, List.set_append_right _ _ (by simp), List.range_succ, List.map_append, List.append_assoc]
  simp [List.replicate_succ]
/-- What the document's Rot puts together is the word turned. -/
theorem num_rot (x k : Nat) (hx : x < 4294967296) (hk : k < 32) : num ((List.range 32).map fun i => (lob x 32).getD ((i + k) % 32) false) = rot x k := by
  apply Nat.eq_of_testBit_eq
  intro i
  rw [num_bit]
  by_cases hi : i < 32
  · rw [rot_bit x k i hx hk hi]
    simp only [List.getD_eq_getElem?_getD, List.getElem?_map, List.getElem?_range hi, Option.map_some, Option.getD_some]
    exact lob_get x 32 _ (Nat.mod_lt _ (by decide))
  · have hp : 4294967296 ≤ 2 ^ i := Nat.pow_le_pow_right (n := 2) (by decide) (show 32 ≤ i by omega)
    rw [Nat.testBit_lt_two_pow (Nat.lt_of_lt_of_le (rot_lt x k hx) hp)]
    simp [List.getD_eq_getElem?_getD, hi]
end Go.Proofs.Ytcgibofjlicicaa.WM
