/- How many of the highest bits are 0 is what the document says: the plain statement under the row. No condition. -/
import Derived.Test.YtcgibofjlicicaaPWordLeadsx
import Derived.Test.YtcgibofjlicicaaWordMath
namespace Go.Proofs.Ytcgibofjlicicaa.Pure
open Go.RowKit Go.Proofs.Ytcgibofjlicicaa.PWordLeads Go.Proofs.YtcgibofjlicicaaW.PrintWords Go.Proofs.YtcgibofjlicicaaW.PrintLast Go.Proofs.Ytcgibofjlicicaa.WM
theorem lead_l0 (x : Nat) (hx : x < 18446744073709551616) : ∀ d k i : Nat, i + d = 64 - bl x → d < k → word_Lead.l0 k (x : Int) (i : Nat) (i : Nat) = some ((64 - bl x : Nat) : Int) := by
  have hb : bl x ≤ 64 := (bl_le 64 x).2 hx
  intro d
  induction d with
  | zero =>
    intro k i h hk
    obtain ⟨k, rfl⟩ : ∃ m, k = m + 1 := ⟨k - 1, by omega⟩
    simp only [word_Lead.l0]
    by_cases c : (i : Int) < 64
    · rw [if_pos c, w64 _ (by omega) (by omega), wu64 _ (by omega) (by omega), if_pos (by omega)]
      have hp : ¬ (shr .u64 (x : Int) (63 - (i : Int)) = 0) := by
        unfold shr
        rw [show (63 - (i : Int)).toNat = 63 - i by omega, Nat.min_eq_left (by show 63 - i ≤ 64; omega)]
        have h2 : ¬ x < 2 ^ (63 - i) := fun h3 => by have := (bl_le (63 - i) x).2 h3; omega
        have h3 : 0 < x / 2 ^ (63 - i) := Nat.div_pos (by omega) (Nat.two_pow_pos _)
        have h4 : ((x : Int) / 2 ^ (63 - i)) = ((x / 2 ^ (63 - i) : Nat) : Int) := by simp
        rw [h4]; omega
      rw [if_neg hp]; congr 1; omega
    · rw [if_neg c]; congr 1; omega
  | succ d ih =>
    intro k i h hk
    obtain ⟨k, rfl⟩ : ∃ m, k = m + 1 := ⟨k - 1, by omega⟩
    simp only [word_Lead.l0]
    rw [if_pos (by omega), w64 (63 - (i : Int)) (by omega) (by omega), wu64 _ (by omega) (by omega), if_pos (by omega)]
    have hp : shr .u64 (x : Int) (63 - (i : Int)) = 0 := by
      unfold shr
      rw [show (63 - (i : Int)).toNat = 63 - i by omega, Nat.min_eq_left (by show 63 - i ≤ 64; omega)]
      have h2 : x < 2 ^ (63 - i) := (bl_le (63 - i) x).1 (by omega)
      have h4 : ((x : Int) / 2 ^ (63 - i)) = ((x / 2 ^ (63 - i) : Nat) : Int) := by simp
      rw [h4, Nat.div_eq_of_lt h2]; rfl
    have e1 : wrap64 ((i : Int) + 1) = ((i + 1 : Nat) : Int) := by rw [w64 _ (by omega) (by omega)]; omega
    rw [if_pos hp, e1]
    exact ih k (i + 1) (by omega) (by omega)
theorem lead_f (x : Nat) (hx : x < 18446744073709551616) : word_Lead.f 100 (x : Int) = some ((64 - bl x : Nat) : Int) :=
  lead_l0 x hx (64 - bl x) 100 0 (by omega) (by omega)
theorem awake_f : milepostlaw01_awake.f 100 = some true := by decide +kernel
theorem rlead_l0 : ∀ d k x : Nat, x < 18446744073709551616 → bl x = d → d < k → ∀ n : Nat, d ≤ n → n ≤ 64 → milepostref01_Lead.l0 k (x : Int) (n : Nat) = some ((n - d : Nat) : Int) := by
  intro d
  induction d with
  | zero =>
    intro k x hx hb hk n hn hn2
    obtain ⟨k, rfl⟩ : ∃ m, k = m + 1 := ⟨k - 1, by omega⟩
    have h0 : x < 2 ^ 0 := (bl_le 0 x).1 (by omega)
    simp only [milepostref01_Lead.l0]
    rw [if_neg (by omega)]; congr 1
  | succ d ih =>
    intro k x hx hb hk n hn hn2
    obtain ⟨k, rfl⟩ : ∃ m, k = m + 1 := ⟨k - 1, by omega⟩
    have h0 : 0 < x := by
      rcases Nat.eq_zero_or_pos x with h | h
      · subst h; rw [bl_zero] at hb; omega
      · exact h
    have hb2 : bl (x / 2) = d := by rw [bl_pos x h0] at hb; omega
    simp only [milepostref01_Lead.l0]
    have e1 : IntKind.u64.wrap (Int.tdiv (x : Int) 2) = ((x / 2 : Nat) : Int) := by rw [Int.tdiv_eq_ediv_of_nonneg (by omega), wu64 _ (by omega) (by omega)]; omega
    have e2 : wrap64 ((n : Int) - 1) = ((n - 1 : Nat) : Int) := by rw [w64 _ (by omega) (by omega)]; omega
    rw [if_pos (by omega), e1, e2, ih k (x / 2) (by omega) hb2 (by omega) (n - 1) (by omega) (by omega)]
    congr 1
    omega
theorem WordLeads : milepostlaw01_WordLeads.Pure := by
  intro x hx
  have hx2 := wf_u64 hx
  obtain ⟨x, rfl⟩ := Int.eq_ofNat_of_zero_le hx2.1
  have hb : bl x ≤ 64 := (bl_le 64 x).2 (by omega)
  refine ⟨100, ?_⟩
  unfold milepostlaw01_WordLeads.f milepostref01_Lead.f
  rw [lead_f x (by omega), show (64 : Int) = ((64 : Nat) : Int) from rfl, rlead_l0 (bl x) 100 x (by omega) rfl (by omega) 64 hb (by omega), awake_f]
  simp only [Option.bind_some]
  rw [if_pos trivial]
end Go.Proofs.Ytcgibofjlicicaa.Pure
