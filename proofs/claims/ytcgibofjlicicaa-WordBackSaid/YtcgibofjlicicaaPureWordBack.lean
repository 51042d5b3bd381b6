/- What is put is taken, wherever it stands, and a word that is turned there and back is as it was: the plain statement under the row. No condition. -/
import Derived.Test.YtcgibofjlicicaaPWordBackx
import Derived.Test.YtcgibofjlicicaaWordMath
namespace Go.Proofs.Ytcgibofjlicicaa.Pure
open Go.RowKit Go.Proofs.Ytcgibofjlicicaa.PWordBack Go.Proofs.YtcgibofjlicicaaW.PrintWords Go.Proofs.YtcgibofjlicicaaW.PrintLast Go.Proofs.Ytcgibofjlicicaa.WM
theorem take_l0 (s : ByteArray) (a : Int) (hs : s.size ≤ 281474976710656) (_ha : -9223372036854775808 ≤ a) (n : Nat) (hn : n ≤ 8) : ∀ d k i : Nat, i + d = n → d < k →
    word_take.l0 k s a (tk s a i : Nat) (n : Nat) (i : Nat) = some ((tk s a n : Nat) : Int) := by
  intro d
  induction d with
  | zero =>
    intro k i h hk
    obtain ⟨k, rfl⟩ : ∃ m, k = m + 1 := ⟨k - 1, by omega⟩
    obtain rfl : i = n := by omega
    simp only [word_take.l0]
    rw [if_neg (by omega)]
  | succ d ih =>
    intro k i h hk
    obtain ⟨k, rfl⟩ : ∃ m, k = m + 1 := ⟨k - 1, by omega⟩
    have ht := tk_lt8 s a i (by omega)
    have hf := fb_lt s a i
    have e1 : wrap64 ((i : Int) + 1) = ((i + 1 : Nat) : Int) := by rw [w64 _ (by omega) (by omega)]; omega
    have fin := ih k (i + 1) (by omega) (by omega)
    simp only [word_take.l0]
    rw [if_pos (by omega), e1]
    by_cases c1 : a ≥ 0
    · by_cases c2 : a < (s.size : Int)
      · have e2 : wrap64 ((s.size : Int) - a) = (s.size : Int) - a := w64 _ (by omega) (by omega)
        rw [if_pos c1, if_pos c2, e2]
        by_cases c3 : (i : Int) < (s.size : Int) - a
        · have e3 : wrap64 (a + (i : Int)) = a + i := w64 _ (by omega) (by omega)
          have hb := bt_range s (a + i)
          have ef : fb s a i = (bt s (a + i)).toNat := by unfold fb; rw [if_pos c1, if_pos c2, if_pos c3]
          have eb : bt s (a + i) = ((fb s a i : Nat) : Int) := by rw [ef]; omega
          rw [if_pos c3, e3, if_pos (by omega), if_pos (by omega), eb, or_step _ _ ht hf]
          exact fin
        · have ef : fb s a i = 0 := by unfold fb; rw [if_pos c1, if_pos c2, if_neg c3]
          rw [if_neg c3, or_zero _ ht, ← ef]
          exact fin
      · have ef : fb s a i = 0 := by unfold fb; rw [if_pos c1, if_neg c2]
        rw [if_pos c1, if_neg c2, or_zero _ ht, ← ef]
        exact fin
    · have ef : fb s a i = 0 := by unfold fb; rw [if_neg c1]
      rw [if_neg c1, or_zero _ ht, ← ef]
      exact fin
theorem take_f (s : ByteArray) (a : Int) (hs : s.size ≤ 281474976710656) (ha : -9223372036854775808 ≤ a) (n : Nat) (hn : n ≤ 8) : word_take.f 100 s a (n : Nat) = some ((tk s a n : Nat) : Int) :=
  take_l0 s a hs ha n hn n 100 0 (by omega) (by omega)
theorem take32_f (s : ByteArray) (a : Int) (hs : s.size ≤ 281474976710656) (ha : -9223372036854775808 ≤ a) : word_Take32.f 100 s a = some ((tk s a 4 : Nat) : Int) := by
  unfold word_Take32.f
  rw [show (4 : Int) = ((4 : Nat) : Int) from rfl, take_f s a hs ha 4 (by decide)]
  have := tk_lt s a 4
  simp only [Option.bind_some]
  congr 1
  omega
theorem take64_f (s : ByteArray) (a : Int) (hs : s.size ≤ 281474976710656) (ha : -9223372036854775808 ≤ a) : word_Take64.f 100 s a = some ((tk s a 8 : Nat) : Int) := by
  unfold word_Take64.f
  rw [show (8 : Int) = ((8 : Nat) : Int) from rfl, take_f s a hs ha 8 (by decide)]
  rfl
theorem put_l0 (x n : Nat) (hn : n ≤ 8) : ∀ d k i : Nat, i + d = n → d < k →
    word_put.l0 k ((x / 256 ^ i : Nat) : Int) (n : Nat) (List.replicate (n - i) 0 ++ lo x i) (n : Nat) (i : Nat) = some (strOfNums (lo x n)) := by
  intro d
  induction d with
  | zero =>
    intro k i h hk
    obtain ⟨k, rfl⟩ : ∃ m, k = m + 1 := ⟨k - 1, by omega⟩
    obtain rfl : i = n := by omega
    simp only [word_put.l0]
    rw [if_neg (by omega)]
    simp
  | succ d ih =>
    intro k i h hk
    obtain ⟨k, rfl⟩ : ∃ m, k = m + 1 := ⟨k - 1, by omega⟩
    have e1 : wrap64 ((i : Int) + 1) = ((i + 1 : Nat) : Int) := by rw [w64 _ (by omega) (by omega)]; omega
    have e2 : wrap64 ((wrap64 ((n : Int) - 1)) - (i : Int)) = ((n - 1 - i : Nat) : Int) := by rw [w64 ((n : Int) - 1) (by omega) (by omega), w64 _ (by omega) (by omega)]; omega
    have e3 : ((x / 256 ^ i : Nat) : Int) / 256 = ((x / 256 ^ (i + 1) : Nat) : Int) := by rw [← div_step]; omega
    have e4 : ((x / 256 ^ i : Nat) : Int) % 256 = ((x / 256 ^ i % 256 : Nat) : Int) := by omega
    have hl : (List.replicate (n - i) (0 : Int) ++ lo x i).length = n := by simp [lo_len]; omega
    simp only [word_put.l0]
    rw [if_pos (by omega), e1, e2, e3, e4, if_pos (by omega), hl, if_pos (by omega), Int.toNat_natCast, set_lo x n i (by omega)]
    exact ih k (i + 1) (by omega) (by omega)
theorem put_f (x n : Nat) (hn : n ≤ 8) : word_put.f 100 (x : Int) (n : Nat) = some (strOfNums (lo x n)) := by
  unfold word_put.f
  rw [if_pos (by omega), if_pos (by omega)]
  have := put_l0 x n hn n 100 0 (by omega) (by omega)
  simpa [lo] using this
theorem put32_f (x : Nat) (hx : x < 4294967296) : word_Put32.f 100 (x : Int) = some (strOfNums (lo x 4)) := by
  unfold word_Put32.f
  rw [wu64 _ (by omega) (by omega), show (4 : Int) = ((4 : Nat) : Int) from rfl, put_f x 4 (by decide)]
  rfl
theorem put64_f (x : Nat) : word_Put64.f 100 (x : Int) = some (strOfNums (lo x 8)) := by
  unfold word_Put64.f
  rw [show (8 : Int) = ((8 : Nat) : Int) from rfl, put_f x 8 (by decide)]
  rfl
theorem rot_f (x : Nat) (n : Int) (hx : x < 4294967296) : word_Rot.f (x : Int) n = some ((rot x (n % 32).toNat : Nat) : Int) := by
  have hm : Go.bits .and .u64 (IntKind.u64.wrap n) 31 = (((n % 32).toNat : Nat) : Int) := by
    rw [IntKind.wrap_u64, u64_and _ _ (by omega) (by omega) (by omega) (by omega), show Int.toNat 31 = 31 from rfl, nat_mask5]
    omega
  have hk : (n % 32).toNat < 32 := by omega
  generalize (n % 32).toNat = k at hm hk
  unfold word_Rot.f
  rw [hm, if_pos (by omega), wu64 _ (by omega) (by omega), if_pos (by omega)]
  congr 1
  unfold rot shr shl
  have e1 : ((x : Int) / 2 ^ min (Int.toNat (k : Int)) IntKind.u32.bits) = ((x / 2 ^ k : Nat) : Int) := by
    rw [Int.toNat_natCast, Nat.min_eq_left (by show k ≤ 32; omega)]
    simp
  have e2 : IntKind.u32.wrap ((x : Int) * 2 ^ min (Int.toNat (32 - (k : Int))) IntKind.u32.bits) = ((x * 2 ^ (32 - k) % 4294967296 : Nat) : Int) := by
    rw [show (32 - (k : Int)).toNat = 32 - k by omega, Nat.min_eq_left (by show 32 - k ≤ 32; omega), IntKind.wrap_u32]
    simp
  rw [e1, e2, u32_or_nat _ _ (Nat.lt_of_le_of_lt (Nat.div_le_self _ _) hx) (Nat.mod_lt _ (by decide))]
theorem awake_f : milepostlaw01_awake.f 100 = some true := by decide +kernel
theorem WordBack : milepostlaw01_WordBack.Pure := by
  intro x y s hx hy hs
  have hx2 := wf_u64 hx
  have hy2 := wf_u32 hy
  obtain ⟨x, rfl⟩ := Int.eq_ofNat_of_zero_le hx2.1
  obtain ⟨y, rfl⟩ := Int.eq_ofNat_of_zero_le hy2.1
  have hxl : x < 256 ^ 8 := by have : (256 : Nat) ^ 8 = 18446744073709551616 := by decide
                               omega
  have hyl : y < 256 ^ 4 := by have : (256 : Nat) ^ 4 = 4294967296 := by decide
                               omega
  have z8 : (strOfNums (lo x 8)).size = 8 := by rw [str_size, lo_len]
  have z4 : (strOfNums (lo y 4)).size = 4 := by rw [str_size, lo_len]
  have a1 : (s ++ strOfNums (lo x 8)).size = s.size + 8 := by rw [ByteArray.size_append, z8]
  have a2 : (s ++ strOfNums (lo y 4)).size = s.size + 4 := by rw [ByteArray.size_append, z4]
  have a3 : (s ++ strOfNums (lo y 4) ++ s).size = s.size + 4 + s.size := by rw [ByteArray.size_append, a2]
  have hm : Go.bits .and .u32 (y : Int) 31 = ((y % 32 : Nat) : Int) := by
    rw [u32_and _ _ (by omega) (by omega) (by omega) (by omega), show Int.toNat 31 = 31 from rfl, nat_mask5]
    omega
  have hk : y % 32 < 32 := Nat.mod_lt _ (by decide)
  have hr := rot_lt y (y % 32) (by omega)
  refine ⟨100, ?_⟩
  unfold milepostlaw01_WordBack.f
  rw [put64_f, put32_f y (by omega)]
  simp only [Option.bind_some]
  rw [if_pos (by omega), take64_f _ _ (by omega) (by omega), tk_all' s x 8 hxl]
  simp only [Option.bind_some]
  rw [if_pos trivial, if_pos (by omega), if_pos (by omega), take32_f _ _ (by omega) (by omega), tk_all s s y 4 hyl]
  simp only [Option.bind_some]
  rw [if_pos trivial, hm, w64 _ (by omega) (by omega), w64 _ (by omega) (by omega), rot_f y _ (by omega)]
  simp only [Option.bind_some]
  rw [show (((y % 32 : Nat) : Int) % 32).toNat = y % 32 by omega, rot_f _ _ hr]
  simp only [Option.bind_some]
  rw [show ((-((y % 32 : Nat) : Int)) % 32).toNat = (32 - y % 32) % 32 by omega, rot_back y (y % 32) (by omega) hk, if_pos rfl, awake_f]
  rfl
end Go.Proofs.Ytcgibofjlicicaa.Pure
