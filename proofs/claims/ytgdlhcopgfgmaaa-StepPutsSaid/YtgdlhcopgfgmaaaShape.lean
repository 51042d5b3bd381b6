/- The walks of chapter 11's Left, and of the document's. -/
import Derived.Test.YtgdlhcopgfgmaaaMk
import Derived.Test.YtgdlhcopgfgmaaaShapeMath
import Derived.Test.YtgdlhcopgfgmaaaProg
namespace Go.Proofs.Ytgdlhcopgfgmaaa.Shape
open Go.RowKit Go.Proofs.Ytgdlhcopgfgmaaa.Mk
theorem ret_int {k : IntKind} {a b : Int} (h : a = b) : Ending.returned (.int k a) = .returned (.int k b) := by rw [h]
def leftI (n : Int) : Int := (leftN n.toNat : Nat)
set_option maxHeartbeats 1000000 in
theorem left_same (n : Int) (w : World) (hn : n ≤ 9223372036854775807) (hn0 : -9223372036854775808 ≤ n) :
    Calls Try.prog 94 #[.int .i64 n] w fun e w' => e = .returned (.int .i64 (leftI n)) ∧ w' = w := by
  by_cases h : n < 2
  · have hl : Hid (leftI n = 0) := Lib.hid (by unfold leftI; rw [left_small _ (by omega)]; rfl)
    go_enter Try.func94, Try.ntmps94
    go_wp2_with fail
    go_ret
    exact ⟨ret_int hl.out.symm, rfl⟩
  · go_enter Try.func94, Try.ntmps94
    go_wp2_with fail
    go_loop [3] (fun s3 => ∃ (p : Int), Hid (∃ j : Nat, p = ((2 ^ j : Nat) : Int)) ∧ 1 ≤ p ∧ p < n ∧ s3 = .int .i64 p) (fun i => (n - intOf i).toNat)
    case atStart => exact ⟨1, Lib.hid ⟨0, rfl⟩, by omega, by omega, rfl⟩
    case round =>
      obtain ⟨p, hp, hp1, hp2, rfl⟩ := hrel
      by_cases hc : p ≤ (n - 1) / 2
      · go_wp2_with fail
        go_round
        case rel => exact ⟨p * 2, Lib.hid (by obtain ⟨j, hj⟩ := hp.out; exact ⟨j + 1, by rw [hj, Nat.pow_succ]; omega⟩), by omega, by omega, by go_num⟩
        case measure => simp [intOf] <;> omega
      · have hl : Hid (leftI n = p) := Lib.hid (by
          obtain ⟨j, hj⟩ := hp.out
          unfold leftI
          rw [left_uniq n.toNat j (by omega) (by omega) (by omega), hj])
        go_wp2_with fail
        go_ret
        exact ⟨ret_int hl.out.symm, rfl⟩
theorem left_calls (n : Int) (w : World) (hn : n ≤ 9223372036854775807) (hn0 : -9223372036854775808 ≤ n) :
    Calls Try.prog 94 #[.int .i64 n] w fun e w' => e = .returned (.int .i64 (leftI n)) ∧ Below w.heap.size w w' := by
  refine (left_same n w hn hn0).mono ?_
  rintro e w1 ⟨rfl, rfl⟩
  exact ⟨rfl, Below.refl _ _⟩
set_option maxHeartbeats 1000000 in
theorem rleft_same (n : Int) (w : World) (hn : n ≤ 9223372036854775807) (hn0 : -9223372036854775808 ≤ n) :
    Calls Try.prog 90 #[.int .i64 n] w fun e w' => e = .returned (.int .i64 (leftI n)) ∧ w' = w := by
  go_enter Try.func90, Try.ntmps90
  go_wp2_with fail
  go_loop [3, 4] (fun s3 s4 => ∃ (p k : Int), s3 = .int .i64 p ∧ s4 = .int .i64 k ∧ Hid ((p = 0 ∧ k = 1) ∨ (∃ j : Nat, p = ((2 ^ j : Nat) : Int) ∧ p < n ∧ k = wrap64 (p * 2))) ∧ p ≤ 9223372036854775807 ∧ 0 ≤ p ∧ k ≤ 9223372036854775807 ∧ -9223372036854775808 ≤ k) (fun p _ => (n - intOf p).toNat)
  case atStart => exact ⟨0, 1, rfl, rfl, Lib.hid (.inl ⟨rfl, rfl⟩), by omega, by omega, by omega, by omega⟩
  case round =>
    obtain ⟨p, k, rfl, rfl, hp, hpb, hp0, hkb, hkb0⟩ := hrel
    by_cases hc1 : k < n
    · by_cases hc2 : 0 < k
      · have hnew : Hid (∃ j : Nat, k = ((2 ^ j : Nat) : Int)) := Lib.hid (by
          rcases hp.out with ⟨_, h⟩ | ⟨j, h1, h2, h3⟩
          · exact ⟨0, by rw [h]; rfl⟩
          · refine ⟨j + 1, ?_⟩
            unfold wrap64 at h3
            rw [Nat.pow_succ]
            omega)
        have hlt : p < k := by
          rcases hp.out with ⟨h0, h⟩ | ⟨j, h1, h2, h3⟩
          · omega
          · have : (1 : Int) ≤ p := by
              have := Nat.one_le_two_pow (n := j)
              omega
            unfold wrap64 at h3
            omega
        have hw1 : wrap64 (k * 2) ≤ 9223372036854775807 := by unfold wrap64; omega
        have hw2 : -9223372036854775808 ≤ wrap64 (k * 2) := by unfold wrap64; omega
        go_wp2_with fail
        go_round
        case rel => exact ⟨k, wrap64 (k * 2), rfl, rfl, Lib.hid (.inr (by obtain ⟨j, hj⟩ := hnew.out; exact ⟨j, hj, hc1, rfl⟩)), by omega, by omega, hw1, hw2⟩
        case measure => simp [intOf] <;> omega
      · have hl : Hid (leftI n = p) := Lib.hid (by
          rcases hp.out with ⟨h0, h⟩ | ⟨j, h1, h2, h3⟩
          · omega
          · have h4 := Nat.one_le_two_pow (n := j)
            unfold wrap64 at h3
            unfold leftI
            rw [left_uniq n.toNat j (by omega) (by omega) (by omega), h1])
        go_wp2_with fail
        go_ret
        exact ⟨ret_int hl.out.symm, rfl⟩
    · have hl : Hid (leftI n = p) := Lib.hid (by
        rcases hp.out with ⟨h0, h⟩ | ⟨j, h1, h2, h3⟩
        · unfold leftI; rw [left_small _ (by omega), h0]; rfl
        · have h4 := Nat.one_le_two_pow (n := j)
          unfold wrap64 at h3
          unfold leftI
          rw [left_uniq n.toNat j (by omega) (by omega) (by omega), h1])
      go_wp2_with fail
      go_ret
      exact ⟨ret_int hl.out.symm, rfl⟩
theorem rleft_calls (n : Int) (w : World) (hn : n ≤ 9223372036854775807) (hn0 : -9223372036854775808 ≤ n) :
    Calls Try.prog 90 #[.int .i64 n] w fun e w' => e = .returned (.int .i64 (leftI n)) ∧ Below w.heap.size w w' := by
  refine (rleft_same n w hn hn0).mono ?_
  rintro e w1 ⟨rfl, rfl⟩
  exact ⟨rfl, Below.refl _ _⟩
end Go.Proofs.Ytgdlhcopgfgmaaa.Shape
