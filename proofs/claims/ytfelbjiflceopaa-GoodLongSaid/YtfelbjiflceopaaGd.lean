/- The walks of chapter 39's Local, and of the document's. -/
import Derived.Test.YtfelbjiflceopaaGdMath
import Derived.Test.YtfelbjiflceopaaRtR
import Derived.Test.YtfelbjiflceopaaRtS
import Derived.Test.YtfelbjiflceopaaRow1
namespace Go.Proofs.Ytfelbjiflceopaa.Gd
open Go.RowKit Go.Proofs.Ytfelbjiflceopaa.Mk Go.Proofs.Ytfelbjiflceopaa.Ul Go.Proofs.Ytfelbjiflceopaa.Lg Go.Proofs.Ytfelbjiflceopaa.Up Go.Proofs.Ytfelbjiflceopaa.Rt
theorem ret_bool {a b : Bool} (h : a = b) : Ending.returned (.bool a) = .returned (.bool b) := by rw [h]
theorem locS_eq (n d level a b : Int) : locS n d level a b = (decide (0 ≤ n) && (decide (0 ≤ d) && (decide (n ≤ 1024) && (decide (d ≤ 1024) && aboveR n.toNat d.toNat level a b)))) := rfl
set_option maxHeartbeats 4000000 in
set_option maxRecDepth 100000 in
theorem loc_calls (n d level a b : Int) (w : World) :
    Calls Try.prog 33 #[.int .i64 n, .int .i64 d, .int .i64 level, .int .i64 a, .int .i64 b] w fun e w' => e = .returned (.bool (locS n d level a b)) ∧ Below w.heap.size w w' := by
  rcases hx0 : decide (0 ≤ n) with _ | _
  · have t0 := hx0
    have HE := Lib.hid (show locS n d level a b = false by rw [locS_eq, t0]; simp)
    clear hx0
    go_enter Try.func33, Try.ntmps33
    go_wp2_with fail
    go_ret
    exact ⟨ret_bool HE.out.symm, Below.refl _ _⟩
  rcases hx1 : decide (0 ≤ d) with _ | _
  · have t0 := hx0
    have t1 := hx1
    have HE := Lib.hid (show locS n d level a b = false by rw [locS_eq, t1]; simp)
    clear hx0 hx1
    go_enter Try.func33, Try.ntmps33
    go_wp2_with fail
    go_ret
    exact ⟨ret_bool HE.out.symm, Below.refl _ _⟩
  rcases hx2 : decide (n ≤ 1024) with _ | _
  · have t0 := hx0
    have t1 := hx1
    have t2 := hx2
    have HE := Lib.hid (show locS n d level a b = false by rw [locS_eq, t2]; simp)
    clear hx0 hx1 hx2
    go_enter Try.func33, Try.ntmps33
    go_wp2_with fail
    go_ret
    exact ⟨ret_bool HE.out.symm, Below.refl _ _⟩
  rcases hx3 : decide (d ≤ 1024) with _ | _
  · have t0 := hx0
    have t1 := hx1
    have t2 := hx2
    have t3 := hx3
    have HE := Lib.hid (show locS n d level a b = false by rw [locS_eq, t3]; simp)
    clear hx0 hx1 hx2 hx3
    go_enter Try.func33, Try.ntmps33
    go_wp2_with fail
    go_ret
    exact ⟨ret_bool HE.out.symm, Below.refl _ _⟩
  have HE := locS_eq n d level a b
  rw [hx0, hx1, hx2, hx3, Bool.true_and, Bool.true_and, Bool.true_and, Bool.true_and] at HE
  obtain ⟨N, rfl⟩ := Int.eq_ofNat_of_zero_le (of_decide_eq_true hx0)
  obtain ⟨D, rfl⟩ := Int.eq_ofNat_of_zero_le (of_decide_eq_true hx1)
  rw [Int.toNat_natCast, Int.toNat_natCast] at HE
  have n1 := of_decide_eq_true hx2
  have d1 := of_decide_eq_true hx3
  have A1 := Lib.hid (fun w => above_calls N D level a b w (by omega) (by omega))
  have x1 : IntKind.u32.wrap (N : Int) = (N : Int) := by rw [IntKind.wrap_u32]; omega
  have x2 : IntKind.u32.wrap (D : Int) = (D : Int) := by rw [IntKind.wrap_u32]; omega
  have HE := Lib.hid HE
  clear hx0 hx1 hx2 hx3
  generalize aboveR N D level a b = x at *
  go_enter Try.func33, Try.ntmps33
  go_wp2_with fail
  refine (A1.out _).mono ?_
  rintro e w1 ⟨rfl, hb1⟩
  have B1 := Lib.hid hb1
  clear hb1
  go_wp2_with fail
  go_ret
  exact ⟨ret_bool HE.out.symm, B1.out⟩
set_option maxHeartbeats 4000000 in
set_option maxRecDepth 100000 in
theorem rloc_calls (n d level a b : Int) (w : World) :
    Calls Try.prog 34 #[.int .i64 n, .int .i64 d, .int .i64 level, .int .i64 a, .int .i64 b] w fun e w' => e = .returned (.bool (locS n d level a b)) ∧ Below w.heap.size w w' := by
  rcases hx0 : decide (0 ≤ n) with _ | _
  · have t0 := hx0
    have HE := Lib.hid (show locS n d level a b = false by rw [locS_eq, t0]; simp)
    clear hx0
    go_enter Try.func34, Try.ntmps34
    go_wp2_with fail
    go_ret
    exact ⟨ret_bool HE.out.symm, Below.refl _ _⟩
  rcases hx2 : decide (n ≤ 1024) with _ | _
  · have t0 := hx0
    have t2 := hx2
    have HE := Lib.hid (show locS n d level a b = false by rw [locS_eq, t2]; simp)
    clear hx0 hx2
    go_enter Try.func34, Try.ntmps34
    go_wp2_with fail
    go_ret
    exact ⟨ret_bool HE.out.symm, Below.refl _ _⟩
  rcases hx1 : decide (0 ≤ d) with _ | _
  · have t0 := hx0
    have t2 := hx2
    have t1 := hx1
    have HE := Lib.hid (show locS n d level a b = false by rw [locS_eq, t1]; simp)
    clear hx0 hx1 hx2
    go_enter Try.func34, Try.ntmps34
    go_wp2_with fail
    go_ret
    exact ⟨ret_bool HE.out.symm, Below.refl _ _⟩
  rcases hx3 : decide (d ≤ 1024) with _ | _
  · have t0 := hx0
    have t1 := hx1
    have t2 := hx2
    have t3 := hx3
    have HE := Lib.hid (show locS n d level a b = false by rw [locS_eq, t3]; simp)
    clear hx0 hx1 hx2 hx3
    go_enter Try.func34, Try.ntmps34
    go_wp2_with fail
    go_ret
    exact ⟨ret_bool HE.out.symm, Below.refl _ _⟩
  have HE := locS_eq n d level a b
  rw [hx0, hx1, hx2, hx3, Bool.true_and, Bool.true_and, Bool.true_and, Bool.true_and] at HE
  obtain ⟨N, rfl⟩ := Int.eq_ofNat_of_zero_le (of_decide_eq_true hx0)
  obtain ⟨D, rfl⟩ := Int.eq_ofNat_of_zero_le (of_decide_eq_true hx1)
  rw [Int.toNat_natCast, Int.toNat_natCast, above_cmp] at HE
  have n1 := of_decide_eq_true hx2
  have d1 := of_decide_eq_true hx3
  have A1 := Lib.hid (fun w => rcmp6_calls N D (a := a) (b := b) level w (by omega) (by omega))
  have x1 : IntKind.u32.wrap (N : Int) = (N : Int) := by rw [IntKind.wrap_u32]; omega
  have x2 : IntKind.u32.wrap (D : Int) = (D : Int) := by rw [IntKind.wrap_u32]; omega
  have HE := Lib.hid HE
  clear hx0 hx1 hx2 hx3
  generalize cmpR N D level a b = x at *
  go_enter Try.func34, Try.ntmps34
  go_wp2_with fail
  refine (A1.out _).mono ?_
  rintro e w1 ⟨rfl, hb1⟩
  have B1 := Lib.hid hb1
  clear hb1
  go_wp2_with fail
  go_ret
  exact ⟨ret_bool HE.out.symm, B1.out⟩
end Go.Proofs.Ytfelbjiflceopaa.Gd
