/- The walks of how two numbers of 256 bits stand, and how many bits one has. -/
import Derived.Test.YtalfgagcfjddcaaWi
import Derived.Test.YtalfgagcfjddcaaLd
namespace Go.Proofs.Ytalfgagcfjddcaa.Wi
open Go.RowKit Go.Proofs.Ytalfgagcfjddcaa.Mk Go.Proofs.Ytalfgagcfjddcaa.Ul
set_option maxHeartbeats 4000000 in
set_option maxRecDepth 100000 in
theorem cmp_calls (X Y : Nat) (w : World) (hX : X < (2 ^ 64) ^ 4) (hY : Y < (2 ^ 64) ^ 4) :
    Calls Try.prog 32 #[UV 4 X, UV 4 Y] w fun e w' => e = .returned (.int .i64 (cmpI X Y)) ∧ Below w.heap.size w w' := by
  have HT := Lib.hid (HiEq.top hX hY)
  clear hX hY
  unfold UV
  go_enter Try.func32, Try.ntmps32
  go_wp2_with fail
  generalize hW : World.alloc (World.alloc w _) _ = W
  have H0 : FB w.heap.size 4 (lb X) 37 W ∧ FB (w.heap.size + 1) 4 (lb Y) 37 W ∧ Below w.heap.size w W := by
    rw [← hW]
    exact ⟨FB.alloc (nw1 _ _) _, nw2 _ _ _, bl2 _ _ _⟩
  have H1 := Lib.hid H0
  clear hW H0
  go_loopw [8] (fun s8 wr => ∃ k : Nat, k ≤ 4 ∧ s8 = .int .i64 k ∧ Hid (FB w.heap.size 4 (lb X) 37 wr ∧ FB (w.heap.size + 1) 4 (lb Y) 37 wr ∧ Below w.heap.size w wr) ∧ Hid (HiEq X Y (4 - k))) (fun s8 _ => 4 - (intOf s8).toNat)
  case atStart => exact ⟨0, by omega, rfl, H1, HT⟩
  case round =>
    obtain ⟨k, hk, rfl, hq, hhi⟩ := hrel
    by_cases hkl : k < 4
    · obtain ⟨h1, h2, h3⟩ := hq.out
      have c1 := h1.cell (i := 3 - k) (by omega)
      have c2 := h2.cell (i := 3 - k) (by omega)
      have hs := hhi.out
      rw [show 4 - k = 3 - k + 1 by omega] at hs
      have hst := hs.step
      have i1 : (0 : Int) ≤ 3 - (k : Int) := by omega
      have i2 : (3 : Int) - (k : Int) < 4 := by omega
      have HB := Lib.hid h3
      have HK := Lib.hid (show 4 - (k + 1) = 3 - k by omega)
      clear h1 h2 h3 hs
      generalize lb X (3 - k) = a at *
      generalize lb Y (3 - k) = b at *
      have HS := Lib.hid hst
      clear hst hhi
      rcases Nat.lt_trichotomy a b with t1 | t1 | t1
      · go_wp2_with fail
        go_quiet (fail)
        go_wp2_with fail
        go_ret
        exact ⟨by rw [HS.out.1 t1]; rfl, bdN HB.out _⟩
      · subst t1
        go_wp2_with fail
        go_quiet (fail)
        go_wp2_with fail
        go_roundw
        case rel => exact ⟨k + 1, by omega, by go_num, Lib.hid ⟨(hq.out.1).drewN _, (hq.out.2.1).drewN _, bdN hq.out.2.2 _⟩, Lib.hid (by rw [HK.out]; exact HS.out.2.2 trivial)⟩
        case measure => simp [intOf] <;> omega
      · go_wp2_with fail
        go_quiet (fail)
        go_wp2_with fail
        go_ret
        exact ⟨by rw [HS.out.2.1 t1]; rfl, bdN HB.out _⟩
    · obtain rfl : k = 4 := by omega
      go_wp2_with fail
      go_ret
      exact ⟨by rw [cmpI_eq (HiEq.zero hhi.out)]; rfl, hq.out.2.2⟩
set_option maxHeartbeats 4000000 in
set_option maxRecDepth 100000 in
theorem len_calls (X : Nat) (w : World) (hX : X < (2 ^ 64) ^ 4) :
    Calls Try.prog 28 #[UV 4 X] w fun e w' => e = .returned (.int .i64 (bl X : Nat)) ∧ Below w.heap.size w w' := by
  have HT := Lib.hid (Hi0.top hX)
  clear hX
  unfold UV
  go_enter Try.func28, Try.ntmps28
  go_wp2_with fail
  generalize hW : World.alloc w _ = W
  have H0 : FB w.heap.size 4 (lb X) 37 W ∧ Below w.heap.size w W := by
    rw [← hW]
    exact ⟨nw1 _ _, bl1 _ _⟩
  have H1 := Lib.hid H0
  clear hW H0
  go_loopw [5] (fun s5 wr => ∃ k : Nat, k ≤ 4 ∧ s5 = .int .i64 k ∧ Hid (FB w.heap.size 4 (lb X) 37 wr ∧ Below w.heap.size w wr) ∧ Hid (Hi0 X (4 - k))) (fun s5 _ => 4 - (intOf s5).toNat)
  case atStart => exact ⟨0, by omega, rfl, H1, HT⟩
  case round =>
    obtain ⟨k, hk, rfl, hq, hhi⟩ := hrel
    by_cases hkl : k < 4
    · obtain ⟨h1, h3⟩ := hq.out
      have c1 := h1.cell (i := 3 - k) (by omega)
      have hs := hhi.out
      rw [show 4 - k = 3 - k + 1 by omega] at hs
      have hst := hs.step
      have i1 : (0 : Int) ≤ 3 - (k : Int) := by omega
      have i2 : (3 : Int) - (k : Int) < 4 := by omega
      have HB := Lib.hid h3
      have HK := Lib.hid (show 4 - (k + 1) = 3 - k by omega)
      have hb64 := bl64 X (3 - k)
      have HL := Lib.hid (fun w => lead_calls (lb X (3 - k)) w (lb_lt X _))
      clear h1 h3 hs
      generalize lb X (3 - k) = a at *
      have HS := Lib.hid hst
      clear hst hhi
      by_cases ha : a = 0
      · subst ha
        go_wp2_with fail
        go_roundw
        case rel => exact ⟨k + 1, by omega, by go_num, hq, Lib.hid (by rw [HK.out]; exact HS.out.2 rfl)⟩
        case measure => simp [intOf] <;> omega
      · have t1 : ((a : Int) != 0) = true := by simp; omega
        have HE := Lib.hid (HS.out.1 ha)
        clear ha
        go_wp2_with fail
        refine (HL.out _).mono ?_
        rintro e w1 ⟨rfl, rfl⟩
        go_wp2_with fail
        go_ret
        refine ⟨?_, HB.out⟩
        rw [HE.out]
        show Ending.returned (.int .i64 (256 - 64 * (k : Int) - ((64 - bl a : Nat) : Int))) = _
        congr 2
        omega
    · obtain rfl : k = 4 := by omega
      go_wp2_with fail
      go_ret
      exact ⟨by rw [Hi0.zero hhi.out]; rfl, hq.out.2⟩
end Go.Proofs.Ytalfgagcfjddcaa.Wi
