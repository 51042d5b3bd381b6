/- The walks of chapter 5's examples, and of the law's 'same'. -/
import Derived.Test.YtalfgagcfjddcaaLgT
import Derived.Test.YtalfgagcfjddcaaLgS
import Derived.Test.YtalfgagcfjddcaaLgC
import Derived.Test.YtalfgagcfjddcaaR5T
import Derived.Test.YtalfgagcfjddcaaR5M
namespace Go.Proofs.Ytalfgagcfjddcaa.Lg
open Go.RowKit Go.Proofs.Ytalfgagcfjddcaa.Mk Go.Proofs.Ytalfgagcfjddcaa.Ul Go.Proofs.Ytalfgagcfjddcaa.Wi Go.Proofs.Ytalfgagcfjddcaa.Wd
theorem aw_bl (n : Nat) : bl (2 ^ n) = n + 1 := by
  have := bl_shl (X := 1) (n := n) (by decide)
  rw [Nat.one_mul] at this
  rw [this, show bl 1 = 1 by decide +kernel]
set_option exponentiation.threshold 400 in
theorem aw_lt {n : Nat} (h : n < 64 * 5) : 2 ^ n < (2 ^ 64) ^ 5 := by
  rw [← Nat.pow_mul]
  exact Nat.pow_lt_pow_right (by decide) h
theorem aw_dec : ba (decL (2 ^ 64)) = ⟨#[49, 56, 52, 52, 54, 55, 52, 52, 48, 55, 51, 55, 48, 57, 53, 53, 49, 54, 49, 54]⟩ := by
  have : decL 18446744073709551616 = [49, 56, 52, 52, 54, 55, 52, 52, 48, 55, 51, 55, 48, 57, 53, 53, 49, 54, 49, 54] := by
    simp [decL, d10]
  rw [show 2 ^ 64 = 18446744073709551616 by decide, this]
  rfl
set_option exponentiation.threshold 400 in
set_option maxHeartbeats 8000000 in
set_option maxRecDepth 100000 in
theorem awake5_calls (w : World) : Calls Try.prog 41 #[] w fun e w' => e = .returned (.bool true) ∧ Below w.heap.size w w' := by
  have H1 := Lib.hid (fun w => lof_calls 1 w (by decide))
  have H2 := (fun w => shl_calls 1 (319 : Nat) w (by decide))
  have H3 := (fun w => shl_calls 1 (320 : Nat) w (by decide))
  have H4 := (fun w => shl_calls 1 (64 : Nat) w (by decide))
  have H5 := (fun w => llen_calls (2 ^ 319) w (aw_lt (by decide)))
  have H6 := (fun w => text_calls (2 ^ 64) w (by decide))
  rw [shlV_nat, LR_yes (by decide), Nat.one_mul] at H2
  rw [shlV_nat, LR_no (by decide)] at H3
  rw [shlV_nat, LR_yes (by decide), Nat.one_mul] at H4
  rw [aw_bl] at H5
  rw [aw_dec] at H6
  generalize 2 ^ 319 = P at *
  generalize 2 ^ 64 = Q at *
  have H2 := Lib.hid H2
  have H3 := Lib.hid H3
  have H4 := Lib.hid H4
  have H5 := Lib.hid H5
  have H6 := Lib.hid H6
  unfold UV at *
  go_enter Try.func41, Try.ntmps41
  go_wp2_with fail
  refine (H1.out _).mono ?_
  rintro e w1 ⟨rfl, hb1⟩
  have S := Lib.hid (SQ.keep (SQ.nil w) hb1)
  clear hb1
  go_wp2_with fail
  refine (H2.out _).mono ?_
  rintro e w2 ⟨rfl, hb2⟩
  have S := Lib.hid ((SQ.keep S.out hb2).alloc (oL (lb P)))
  clear hb2
  go_wp2_with (refine wpList_store_last rfl 49 _ _ rfl _ (FC 5 (lb P)).toArray rfl rfl (IN5 _) (by rw [FC_size]; rfl) (FC_one _ _) ?_)
  refine (H1.out _).mono ?_
  rintro e w3 ⟨rfl, hb3⟩
  have S := Lib.hid (SQ.keep S.out hb3)
  clear hb3
  go_wp2_with fail
  refine (H3.out _).mono ?_
  rintro e w4 ⟨rfl, hb4⟩
  have S := Lib.hid ((SQ.keep S.out hb4).alloc (oL (lb 0)))
  clear hb4
  go_wp2_with (refine wpList_store_last rfl 49 _ _ rfl _ (FC 5 (lb 0)).toArray rfl rfl (IN5 _) (by rw [FC_size]; rfl) (FC_one _ _) ?_)
  refine (H1.out _).mono ?_
  rintro e w5 ⟨rfl, hb5⟩
  have S := Lib.hid (SQ.keep S.out hb5)
  clear hb5
  go_wp2_with fail
  refine (H4.out _).mono ?_
  rintro e w6 ⟨rfl, hb6⟩
  have S := Lib.hid ((SQ.keep S.out hb6).alloc (oL (lb Q)))
  clear hb6
  go_wp2_with (first | (refine wpList_store_last rfl 49 _ _ rfl _ (FC 5 (lb Q)).toArray rfl rfl (IN5 _) (by rw [FC_size]; rfl) (FC_one _ _) ?_) | (refine wpList_loadg (by rfl) 49 (.tmp 1) (by rfl) _ (by rfl) _ (ldAt5 S.out.a2) ?_))
  refine (H5.out _).mono ?_
  rintro e w7 ⟨rfl, hb7⟩
  have S := Lib.hid (SQ.keep S.out hb7)
  clear hb7
  go_wp2_with (refine wpList_loadg (by rfl) 49 (.tmp 5) (by rfl) _ (by rfl) _ (ldAt5 S.out.a0) ?_)
  refine (H6.out _).mono ?_
  rintro e w8 ⟨rfl, hb8⟩
  have S := Lib.hid (SQ.keep S.out hb8)
  clear hb8
  go_wp2_with fail
  go_ret
  exact ⟨rfl, S.out.2⟩
end Go.Proofs.Ytalfgagcfjddcaa.Lg
