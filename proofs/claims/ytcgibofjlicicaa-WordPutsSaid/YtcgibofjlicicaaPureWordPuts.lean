/- The bytes of a number are those of its powers of 256, the highest first: the plain statement under the row. No condition. -/
import Derived.Test.YtcgibofjlicicaaPWordPutsx
import Derived.Test.YtcgibofjlicicaaWordMath
namespace Go.Proofs.Ytcgibofjlicicaa.Pure
open Go.RowKit Go.Proofs.Ytcgibofjlicicaa.PWordPuts Go.Proofs.YtcgibofjlicicaaW.PrintWords Go.Proofs.YtcgibofjlicicaaW.PrintLast Go.Proofs.Ytcgibofjlicicaa.WM
theorem put_l0 (x n : Nat) (hn : n ≤ 8) : ∀ d k i : Nat, i + d = n → d < k →
    word_put.l0 k ((x / 256 ^ i : Nat) : Int) (n : Nat) (List.replicate (n - i) 0 ++ lo x i) (n : Nat) (i : Nat) = some (strOfNums (lo x n)) := by
  intro d
  induction d with
  | zero =>
    intro k i h hk
    obtain ⟨k, rfl⟩ : ∃ m, k = m + 1 := ⟨k - 1, by omega⟩
    obtain rfl : i = n := by omega
    simp only [word_put.l0]
    rw [if_neg (by omega)]
    simp
  | succ d ih =>
    intro k i h hk
    obtain ⟨k, rfl⟩ : ∃ m, k = m + 1 := ⟨k - 1, by omega⟩
    have e1 : wrap64 ((i : Int) + 1) = ((i + 1 : Nat) : Int) := by rw [w64 _ (by omega) (by omega)]; omega
    have e2 : wrap64 ((wrap64 ((n : Int) - 1)) - (i : Int)) = ((n - 1 - i : Nat) : Int) := by rw [w64 ((n : Int) - 1) (by omega) (by omega), w64 _ (by omega) (by omega)]; omega
    have e3 : ((x / 256 ^ i : Nat) : Int) / 256 = ((x / 256 ^ (i + 1) : Nat) : Int) := by rw [← div_step]; omega
    have e4 : ((x / 256 ^ i : Nat) : Int) % 256 = ((x / 256 ^ i % 256 : Nat) : Int) := by omega
    have hl : (List.replicate (n - i) (0 : Int) ++ lo x i).length = n := by simp [lo_len]; omega
    simp only [word_put.l0]
    rw [if_pos (by omega), e1, e2, e3, e4, if_pos (by omega), hl, if_pos (by omega), Int.toNat_natCast, set_lo x n i (by omega)]
    exact ih k (i + 1) (by omega) (by omega)
theorem put_f (x n : Nat) (hn : n ≤ 8) : word_put.f 100 (x : Int) (n : Nat) = some (strOfNums (lo x n)) := by
  unfold word_put.f
  rw [if_pos (by omega), if_pos (by omega)]
  have := put_l0 x n hn n 100 0 (by omega) (by omega)
  simpa [lo] using this
theorem put32_f (x : Nat) (hx : x < 4294967296) : word_Put32.f 100 (x : Int) = some (strOfNums (lo x 4)) := by
  unfold word_Put32.f
  rw [wu64 _ (by omega) (by omega), show (4 : Int) = ((4 : Nat) : Int) from rfl, put_f x 4 (by decide)]
  rfl
theorem put64_f (x : Nat) : word_Put64.f 100 (x : Int) = some (strOfNums (lo x 8)) := by
  unfold word_Put64.f
  rw [show (8 : Int) = ((8 : Nat) : Int) from rfl, put_f x 8 (by decide)]
  rfl
theorem rput_l0 (x n : Nat) (hx : x < 18446744073709551616) (hn : n ≤ 8) : ∀ d k i : Nat, i + d = n → d < k →
    milepostref01_Put.l0 k ((x / 256 ^ i : Nat) : Int) (n : Nat) (strOfNums (lo x i)) (i : Nat) = some (strOfNums (lo x n)) := by
  intro d
  induction d with
  | zero =>
    intro k i h hk
    obtain ⟨k, rfl⟩ : ∃ m, k = m + 1 := ⟨k - 1, by omega⟩
    obtain rfl : i = n := by omega
    simp only [milepostref01_Put.l0]
    rw [if_neg (by omega)]
  | succ d ih =>
    intro k i h hk
    obtain ⟨k, rfl⟩ : ∃ m, k = m + 1 := ⟨k - 1, by omega⟩
    have hd : x / 256 ^ i < 18446744073709551616 := Nat.lt_of_le_of_lt (Nat.div_le_self _ _) hx
    have e1 : wrap64 ((i : Int) + 1) = ((i + 1 : Nat) : Int) := by rw [w64 _ (by omega) (by omega)]; omega
    have e3 : IntKind.u64.wrap (Int.tdiv ((x / 256 ^ i : Nat) : Int) 256) = ((x / 256 ^ (i + 1) : Nat) : Int) := by
      rw [← div_step]
      generalize x / 256 ^ i = q at *
      rw [Int.tdiv_eq_ediv_of_nonneg (by omega), wu64 _ (by omega) (by omega)]; omega
    have e4 : wrap64 (Int.tmod ((x / 256 ^ i : Nat) : Int) 256) % 256 = ((x / 256 ^ i % 256 : Nat) : Int) := by
      generalize x / 256 ^ i = q at *
      rw [Int.tmod_eq_emod_of_nonneg (by omega), w64 _ (by omega) (by omega)]; omega
    simp only [milepostref01_Put.l0, milepostref01_Byte.f, Option.bind_some]
    rw [if_pos (by omega), e1, e3, e4, str_cons]
    rw [if_pos (by rw [str_size, str_size, lo_len]; simp; omega)]
    exact ih k (i + 1) (by omega) (by omega)
theorem rput_f (x n : Nat) (hx : x < 18446744073709551616) (hn : n ≤ 8) : milepostref01_Put.f 100 (x : Int) (n : Nat) = some (strOfNums (lo x n)) := by
  unfold milepostref01_Put.f
  have := rput_l0 x n hx hn n 100 0 (by omega) (by omega)
  simpa [lo, strOfNums] using this
theorem awake_f : milepostlaw01_awake.f 100 = some true := by decide +kernel
theorem WordPuts : milepostlaw01_WordPuts.Pure := by
  intro x y hx hy
  have hx2 := wf_u64 hx
  have hy2 := wf_u32 hy
  obtain ⟨x, rfl⟩ := Int.eq_ofNat_of_zero_le hx2.1
  obtain ⟨y, rfl⟩ := Int.eq_ofNat_of_zero_le hy2.1
  refine ⟨100, ?_⟩
  unfold milepostlaw01_WordPuts.f
  rw [put64_f, show (8 : Int) = ((8 : Nat) : Int) from rfl, rput_f x 8 (by omega) (by decide), put32_f y (by omega), wu64 (y : Int) (by omega) (by omega), show (4 : Int) = ((4 : Nat) : Int) from rfl, rput_f y 4 (by omega) (by decide), awake_f]
  simp only [Option.bind_some]
  rw [if_pos trivial, if_pos trivial]
end Go.Proofs.Ytcgibofjlicicaa.Pure
