/- A word that is turned has the bits that it has by the document, however far, either way: the plain statement under the row. No condition. -/
import Derived.Test.YtcgibofjlicicaaPWordRotsx
import Derived.Test.YtcgibofjlicicaaWordMath
namespace Go.Proofs.Ytcgibofjlicicaa.Pure
open Go.RowKit Go.Proofs.Ytcgibofjlicicaa.PWordRots Go.Proofs.YtcgibofjlicicaaW.PrintWords Go.Proofs.YtcgibofjlicicaaW.PrintLast Go.Proofs.Ytcgibofjlicicaa.WM
theorem rot_f (x : Nat) (n : Int) (hx : x < 4294967296) : word_Rot.f (x : Int) n = some ((rot x (n % 32).toNat : Nat) : Int) := by
  have hm : Go.bits .and .u64 (IntKind.u64.wrap n) 31 = (((n % 32).toNat : Nat) : Int) := by
    rw [IntKind.wrap_u64, u64_and _ _ (by omega) (by omega) (by omega) (by omega), show Int.toNat 31 = 31 from rfl, nat_mask5]
    omega
  have hk : (n % 32).toNat < 32 := by omega
  generalize (n % 32).toNat = k at hm hk
  unfold word_Rot.f
  rw [hm, if_pos (by omega), wu64 _ (by omega) (by omega), if_pos (by omega)]
  congr 1
  unfold rot shr shl
  have e1 : ((x : Int) / 2 ^ min (Int.toNat (k : Int)) IntKind.u32.bits) = ((x / 2 ^ k : Nat) : Int) := by
    rw [Int.toNat_natCast, Nat.min_eq_left (by show k ≤ 32; omega)]
    simp
  have e2 : IntKind.u32.wrap ((x : Int) * 2 ^ min (Int.toNat (32 - (k : Int))) IntKind.u32.bits) = ((x * 2 ^ (32 - k) % 4294967296 : Nat) : Int) := by
    rw [show (32 - (k : Int)).toNat = 32 - k by omega, Nat.min_eq_left (by show 32 - k ≤ 32; omega), IntKind.wrap_u32]
    simp
  rw [e1, e2, u32_or_nat _ _ (Nat.lt_of_le_of_lt (Nat.div_le_self _ _) hx) (Nat.mod_lt _ (by decide))]
theorem awake_f : milepostlaw01_awake.f 100 = some true := by decide +kernel
theorem bits_l0 (x : Nat) (hx : x < 18446744073709551616) : ∀ d k i : Nat, i + d = 32 → d < k →
    milepostref01_Bits.l0 k ((x / 2 ^ i : Nat) : Int) 32 ((List.range i).map (fun j => x.testBit j) ++ List.replicate (32 - i) false) (i : Nat) = some (lob x 32) := by
  intro d
  induction d with
  | zero =>
    intro k i h hk
    obtain ⟨k, rfl⟩ : ∃ m, k = m + 1 := ⟨k - 1, by omega⟩
    obtain rfl : i = 32 := by omega
    simp only [milepostref01_Bits.l0]
    rw [if_neg (by omega)]
    simp [lob]
  | succ d ih =>
    intro k i h hk
    obtain ⟨k, rfl⟩ : ∃ m, k = m + 1 := ⟨k - 1, by omega⟩
    have hd : x / 2 ^ i < 18446744073709551616 := Nat.lt_of_le_of_lt (Nat.div_le_self _ _) hx
    have hl : ((List.range i).map (fun j => x.testBit j) ++ List.replicate (32 - i) false).length = 32 := by simp; omega
    have e1 : wrap64 ((i : Int) + 1) = ((i + 1 : Nat) : Int) := by rw [w64 _ (by omega) (by omega)]; omega
    have e2 : IntKind.u64.wrap (Int.tdiv ((x / 2 ^ i : Nat) : Int) 2) = ((x / 2 ^ (i + 1) : Nat) : Int) := by
      rw [← div_step2]
      generalize x / 2 ^ i = q at *
      rw [Int.tdiv_eq_ediv_of_nonneg (by omega), wu64 _ (by omega) (by omega)]; omega
    have e3 : (Int.tmod ((x / 2 ^ i : Nat) : Int) 2 == 1) = x.testBit i := by
      rw [← bit_div]
      generalize x / 2 ^ i = q at *
      rw [Int.tmod_eq_emod_of_nonneg (by omega), Bool.eq_iff_iff, beq_iff_eq, beq_iff_eq]; omega
    have fin := ih k (i + 1) (by omega) (by omega)
    simp only [milepostref01_Bits.l0]
    rw [if_pos (by omega), if_pos (by omega), if_pos (by rw [hl]; omega), e1, e2, e3, Int.toNat_natCast, map_set (fun j => x.testBit j) false 32 i (by omega)]
    exact fin
theorem bits_f (x : Nat) (hx : x < 18446744073709551616) : milepostref01_Bits.f 100 (x : Int) 32 = some (lob x 32) := by
  unfold milepostref01_Bits.f
  rw [if_pos (by omega), if_pos (by decide)]
  have := bits_l0 x hx 32 100 0 (by omega) (by omega)
  simpa using this
theorem number_l0 (l : List Bool) (hl : l.length ≤ 32) : ∀ d k : Nat, d ≤ l.length → d < k → milepostref01_Number.l0 k l ((num (l.drop d) : Nat) : Int) ((d : Int) - 1) = some ((num l : Nat) : Int) := by
  intro d
  induction d with
  | zero =>
    intro k h hk
    obtain ⟨k, rfl⟩ : ∃ m, k = m + 1 := ⟨k - 1, by omega⟩
    simp only [milepostref01_Number.l0]
    rw [if_neg (by omega)]; simp
  | succ d ih =>
    intro k h hk
    obtain ⟨k, rfl⟩ : ∃ m, k = m + 1 := ⟨k - 1, by omega⟩
    have hb : num (l.drop (d + 1)) < 4294967296 := by
      refine Nat.lt_of_lt_of_le (num_lt _) ?_
      refine Nat.le_trans (Nat.pow_le_pow_right (n := 2) (by decide) (show (l.drop (d + 1)).length ≤ 32 by simp; omega)) (by decide)
    have hn := num_drop l d (by omega)
    have e1 : wrap64 (((d + 1 : Nat) : Int) - 1 - 1) = (d : Int) - 1 := by rw [w64 _ (by omega) (by omega)]; omega
    have e2 : ((d + 1 : Nat) : Int) - 1 = (d : Int) := by omega
    have er : rdOf false l (d : Int) = l.getD d false := rfl
    have fin := ih k (by omega) (by omega)
    simp only [milepostref01_Number.l0]
    rw [e1, e2, if_pos (by omega), if_pos (by omega), if_pos (by omega), er]
    have ew : IntKind.u64.wrap (((num (l.drop (d + 1)) : Nat) : Int) * 2) = ((2 * num (l.drop (d + 1)) : Nat) : Int) := by rw [wu64 _ (by omega) (by omega)]; omega
    rw [ew]
    by_cases c : l.getD d false = true
    · rw [if_pos c] at hn ⊢
      rw [wu64 _ (by omega) (by omega), show ((2 * num (l.drop (d + 1)) : Nat) : Int) + 1 = ((num (l.drop d) : Nat) : Int) by omega]
      exact fin
    · rw [if_neg c] at hn ⊢
      rw [show ((2 * num (l.drop (d + 1)) : Nat) : Int) = ((num (l.drop d) : Nat) : Int) by omega]
      exact fin
theorem number_f (l : List Bool) (hl : l.length = 32) (k : Nat) (hk : 33 < k) : milepostref01_Number.f k l = some ((num l : Nat) : Int) := by
  unfold milepostref01_Number.f
  have := number_l0 l (by omega) l.length k (Nat.le_refl _) (by omega)
  rw [List.drop_length] at this
  rw [w64 _ (by omega) (by omega)]
  exact this
theorem rrot_l0 (x j : Nat) (hx : x < 4294967296) (hj : j < 32) : ∀ d k i : Nat, i + d = 32 → d + 40 < k →
    milepostref01_Rot.l0 k (j : Int) (lob x 32) ((List.range i).map (fun q => (lob x 32).getD ((q + j) % 32) false) ++ List.replicate (32 - i) false) (i : Nat) = some ((rot x j : Nat) : Int) := by
  intro d
  induction d with
  | zero =>
    intro k i h hk
    obtain ⟨k, rfl⟩ : ∃ m, k = m + 1 := ⟨k - 1, by omega⟩
    obtain rfl : i = 32 := by omega
    simp only [milepostref01_Rot.l0]
    rw [if_neg (by omega), Nat.sub_self, List.replicate_zero, List.append_nil, number_f _ (by simp) k (by omega), num_rot x j hx hj]
    have := rot_lt x j hx
    simp only [Option.bind_some]
    congr 1; omega
  | succ d ih =>
    intro k i h hk
    obtain ⟨k, rfl⟩ : ∃ m, k = m + 1 := ⟨k - 1, by omega⟩
    have hl : ((List.range i).map (fun q => (lob x 32).getD ((q + j) % 32) false) ++ List.replicate (32 - i) false).length = 32 := by simp; omega
    have e1 : wrap64 ((i : Int) + 1) = ((i + 1 : Nat) : Int) := by rw [w64 _ (by omega) (by omega)]; omega
    have e2 : Int.tmod (wrap64 ((i : Int) + (j : Int))) 32 = (((i + j) % 32 : Nat) : Int) := by
      rw [w64 _ (by omega) (by omega), Int.tmod_eq_emod_of_nonneg (by omega)]; omega
    have er : rdOf false (lob x 32) (((i + j) % 32 : Nat) : Int) = (lob x 32).getD ((i + j) % 32) false := rfl
    have fin := ih k (i + 1) (by omega) (by omega)
    simp only [milepostref01_Rot.l0]
    rw [if_pos (by omega), e2, if_pos (by omega), if_pos (by rw [lob_len]; omega), if_pos (by omega), if_pos (by rw [hl]; omega), e1, er, Int.toNat_natCast,
      map_set (fun q => (lob x 32).getD ((q + j) % 32) false) false 32 i (by omega)]
    exact fin
theorem rrot_j0 (x j k : Nat) (hx : x < 4294967296) (hj : j < 32) (hk : k = 100) : milepostref01_Rot.j0 (k + 1) (x : Int) (j : Int) = some ((rot x j : Nat) : Int) := by
  have h1 := rrot_l0 x j hx hj 32 k 0 (by omega) (by omega)
  have h2 := bits_f x (by omega)
  rw [← hk] at h2
  simp only [milepostref01_Rot.j0]
  rw [wu64 _ (by omega) (by omega), h2]
  simp only [Option.bind_some]
  rw [if_pos (by decide)]
  simpa using h1
theorem WordRots : milepostlaw01_WordRots.Pure := by
  intro x n hx hn
  have hx2 := wf_u32 hx
  have hn2 := wf_i64 hn
  obtain ⟨x, rfl⟩ := Int.eq_ofNat_of_zero_le hx2.1
  refine ⟨101, ?_⟩
  have hr : milepostref01_Rot.f 101 (x : Int) n = some ((rot x (n % 32).toNat : Nat) : Int) := by
    unfold milepostref01_Rot.f
    have ht : Int.tmod n 32 = n % 32 ∨ (Int.tmod n 32 = n % 32 - 32 ∧ Int.tmod n 32 < 0) := by
      rcases Int.le_total 0 n with h | h
      · exact .inl (Int.tmod_eq_emod_of_nonneg h)
      · obtain ⟨m, rfl⟩ : ∃ m : Int, n = -m := ⟨-n, by omega⟩
        rw [Int.neg_tmod, Int.tmod_eq_emod_of_nonneg (by omega)]
        omega
    by_cases c : Int.tmod n 32 < 0
    · rw [if_pos c, w64 _ (by omega) (by omega), show Int.tmod n 32 + 32 = (((n % 32).toNat : Nat) : Int) by omega]
      exact rrot_j0 x _ 100 (by omega) (by omega) rfl
    · rw [if_neg c, show Int.tmod n 32 = (((n % 32).toNat : Nat) : Int) by omega]
      exact rrot_j0 x _ 100 (by omega) (by omega) rfl
  have ha : milepostlaw01_awake.f 101 = some true := by decide +kernel
  unfold milepostlaw01_WordRots.f
  rw [rot_f x n (by omega), hr, ha]
  simp only [Option.bind_some]
  rw [if_pos trivial]
end Go.Proofs.Ytcgibofjlicicaa.Pure
