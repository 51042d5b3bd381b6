/- The walks of how many of a number's highest bits are 0. -/
import Derived.Test.YtihdeanfcbiflaaDoorUlMath
import Derived.Laws.ShiftsVarLaws
import Derived.Lib.Hide
import Derived.Test.YtihdeanfcbiflaaDoorProg
namespace Go.Proofs.YtihdeanfcbiflaaDoor.Ul
open Go.RowKit
theorem shr_ne (x m : Nat) : (((x : Int) / 2 ^ m) != 0) = !(decide (bl x ≤ m)) := by
  have e : ((x : Int) / 2 ^ m) = ((x / 2 ^ m : Nat) : Int) := by simp
  have hp : 0 < 2 ^ m := Nat.pow_pos (by decide)
  rw [e, Bool.eq_iff_iff]
  simp only [bne_iff_ne, ne_eq, Bool.not_eq_true', decide_eq_false_iff_not, bl_le]
  rw [show ((x / 2 ^ m : Nat) : Int) = 0 ↔ x / 2 ^ m = 0 by omega, Nat.div_eq_zero_iff]
  omega
set_option maxHeartbeats 1000000 in
set_option maxRecDepth 100000 in
theorem lead_calls (x : Nat) (w : World) (hx : x < 18446744073709551616) :
    Calls Tryd.prog 68 #[.int .u64 x] w fun e w' => e = .returned (.int .i64 (64 - bl x : Nat)) ∧ w' = w := by
  have HX := Lib.hid hx
  clear hx
  go_enter Tryd.func68, Tryd.ntmps68
  go_wp2_with fail
  go_loop [3, 5] (fun s3 s5 => ∃ k : Nat, k ≤ 64 ∧ s3 = .int .i64 k ∧ s5 = .int .i64 k ∧ Hid (bl x ≤ 64 - k)) (fun _ s5 => 64 - (intOf s5).toNat)
  case atStart => exact ⟨0, by omega, rfl, rfl, Lib.hid ((bl_le 64 x).2 HX.out)⟩
  case round =>
    obtain ⟨k, hk, rfl, rfl, hb⟩ := hrel
    by_cases hkl : k < 64
    · have hs := shr_ne x (63 - k)
      by_cases hm : bl x ≤ 63 - k
      · rw [decide_eq_true hm] at hs
        have HM := Lib.hid hm
        clear hm hb
        go_wp2_with fail
        go_round
        case rel => exact ⟨k + 1, by omega, by go_num, by go_num, Lib.hid (by have := HM.out; omega)⟩
        case measure => simp [intOf] <;> omega
      · rw [decide_eq_false hm] at hs
        have HM := Lib.hid (show 64 - bl x = k by have := hb.out; omega)
        clear hm hb
        go_wp2_with fail
        go_ret
        exact ⟨by rw [HM.out]; rfl, rfl⟩
    · obtain rfl : k = 64 := by omega
      go_wp2_with fail
      go_ret
      exact ⟨by have := hb.out; rw [show bl x = 0 by omega]; rfl, rfl⟩
end Go.Proofs.YtihdeanfcbiflaaDoor.Ul
