/- The walks of how two numbers of 320 bits stand, how many bits one has, and of numbers taken over. -/
import Derived.Test.YtihdeanfcbiflaaDoorLg
import Derived.Deep.RegionLaw
import Derived.Test.YtihdeanfcbiflaaDoorStep
import Derived.Test.YtihdeanfcbiflaaDoorLd
namespace Go.Proofs.YtihdeanfcbiflaaDoor.Lg
open Go.RowKit Go.Proofs.YtihdeanfcbiflaaDoor.Mk Go.Proofs.YtihdeanfcbiflaaDoor.Ul Go.Proofs.YtihdeanfcbiflaaDoor.Wi
set_option maxHeartbeats 4000000 in
set_option maxRecDepth 100000 in
theorem lcmp_calls (X Y : Nat) (w : World) (hX : X < (2 ^ 64) ^ 5) (hY : Y < (2 ^ 64) ^ 5) :
    Calls Tryd.prog 15 #[UV 5 X, UV 5 Y] w fun e w' => e = .returned (.int .i64 (cmpI X Y)) ∧ Below w.heap.size w w' := by
  have HT := Lib.hid (HiEq.top hX hY)
  clear hX hY
  unfold UV
  go_enter Tryd.func15, Tryd.ntmps15
  go_wp2_with fail
  generalize hW : World.alloc (World.alloc w _) _ = W
  have H0 : FB w.heap.size 5 (lb X) 26 W ∧ FB (w.heap.size + 1) 5 (lb Y) 26 W ∧ Below w.heap.size w W := by
    rw [← hW]
    exact ⟨FB.alloc (nw1 _ _) _, nw2 _ _ _, bl2 _ _ _⟩
  have H1 := Lib.hid H0
  clear hW H0
  go_loopw [8] (fun s8 wr => ∃ k : Nat, k ≤ 5 ∧ s8 = .int .i64 k ∧ Hid (FB w.heap.size 5 (lb X) 26 wr ∧ FB (w.heap.size + 1) 5 (lb Y) 26 wr ∧ Below w.heap.size w wr) ∧ Hid (HiEq X Y (5 - k))) (fun s8 _ => 5 - (intOf s8).toNat)
  case atStart => exact ⟨0, by omega, rfl, H1, HT⟩
  case round =>
    obtain ⟨k, hk, rfl, hq, hhi⟩ := hrel
    by_cases hkl : k < 5
    · obtain ⟨h1, h2, h3⟩ := hq.out
      have c1 := h1.cell (i := 4 - k) (by omega)
      have c2 := h2.cell (i := 4 - k) (by omega)
      have hs := hhi.out
      rw [show 5 - k = 4 - k + 1 by omega] at hs
      have hst := hs.step
      have i1 : (0 : Int) ≤ 4 - (k : Int) := by omega
      have i2 : (4 : Int) - (k : Int) < 5 := by omega
      have HB := Lib.hid h3
      have HK := Lib.hid (show 5 - (k + 1) = 4 - k by omega)
      clear h1 h2 h3 hs
      generalize lb X (4 - k) = a at *
      generalize lb Y (4 - k) = b at *
      have HS := Lib.hid hst
      clear hst hhi
      rcases Nat.lt_trichotomy a b with t1 | t1 | t1
      · have t2 : ((a : Int) != b) = true := by simp; omega
        go_wp2_with fail
        go_quiet (fail)
        go_wp2_with fail
        go_ret
        exact ⟨by rw [HS.out.1 t1]; rfl, bdN HB.out _⟩
      · subst t1
        go_wp2_with fail
        go_quiet (fail)
        go_wp2_with fail
        go_roundw
        case rel => exact ⟨k + 1, by omega, by go_num, Lib.hid ⟨(hq.out.1).drewN _, (hq.out.2.1).drewN _, bdN hq.out.2.2 _⟩, Lib.hid (by rw [HK.out]; exact HS.out.2.2 trivial)⟩
        case measure => simp [intOf] <;> omega
      · have t2 : ((a : Int) != b) = true := by simp; omega
        go_wp2_with fail
        go_quiet (fail)
        go_wp2_with fail
        go_ret
        exact ⟨by rw [HS.out.2.1 t1]; rfl, bdN HB.out _⟩
    · obtain rfl : k = 5 := by omega
      go_wp2_with fail
      go_ret
      exact ⟨by rw [cmpI_eq (HiEq.zero hhi.out)]; rfl, hq.out.2.2⟩
set_option maxHeartbeats 4000000 in
set_option maxRecDepth 100000 in
theorem llen_calls (X : Nat) (w : World) (hX : X < (2 ^ 64) ^ 5) :
    Calls Tryd.prog 62 #[UV 5 X] w fun e w' => e = .returned (.int .i64 (bl X : Nat)) ∧ Below w.heap.size w w' := by
  have HT := Lib.hid (Hi0.top hX)
  clear hX
  unfold UV
  go_enter Tryd.func62, Tryd.ntmps62
  go_wp2_with fail
  generalize hW : World.alloc w _ = W
  have H0 : FB w.heap.size 5 (lb X) 26 W ∧ Below w.heap.size w W := by
    rw [← hW]
    exact ⟨nw1 _ _, bl1 _ _⟩
  have H1 := Lib.hid H0
  clear hW H0
  go_loopw [5] (fun s5 wr => ∃ k : Nat, k ≤ 5 ∧ s5 = .int .i64 k ∧ Hid (FB w.heap.size 5 (lb X) 26 wr ∧ Below w.heap.size w wr) ∧ Hid (Hi0 X (5 - k))) (fun s5 _ => 5 - (intOf s5).toNat)
  case atStart => exact ⟨0, by omega, rfl, H1, HT⟩
  case round =>
    obtain ⟨k, hk, rfl, hq, hhi⟩ := hrel
    by_cases hkl : k < 5
    · obtain ⟨h1, h3⟩ := hq.out
      have c1 := h1.cell (i := 4 - k) (by omega)
      have hs := hhi.out
      rw [show 5 - k = 4 - k + 1 by omega] at hs
      have hst := hs.step
      have i1 : (0 : Int) ≤ 4 - (k : Int) := by omega
      have i2 : (4 : Int) - (k : Int) < 5 := by omega
      have HB := Lib.hid h3
      have HK := Lib.hid (show 5 - (k + 1) = 4 - k by omega)
      have hb64 := bl64 X (4 - k)
      have HL := Lib.hid (fun w => lead_calls (lb X (4 - k)) w (lb_lt X _))
      clear h1 h3 hs
      generalize lb X (4 - k) = a at *
      have HS := Lib.hid hst
      clear hst hhi
      by_cases ha : a = 0
      · subst ha
        go_wp2_with fail
        go_roundw
        case rel => exact ⟨k + 1, by omega, by go_num, hq, Lib.hid (by rw [HK.out]; exact HS.out.2 rfl)⟩
        case measure => simp [intOf] <;> omega
      · have t1 : ((a : Int) != 0) = true := by simp; omega
        have HE := Lib.hid (HS.out.1 ha)
        clear ha
        go_wp2_with fail
        refine (HL.out _).mono ?_
        rintro e w1 ⟨rfl, rfl⟩
        go_wp2_with fail
        go_ret
        refine ⟨?_, HB.out⟩
        rw [HE.out]
        show Ending.returned (.int .i64 (320 - 64 * (k : Int) - ((64 - bl a : Nat) : Int))) = _
        congr 2
        omega
    · obtain rfl : k = 5 := by omega
      go_wp2_with fail
      go_ret
      exact ⟨by rw [Hi0.zero hhi.out]; rfl, hq.out.2⟩
theorem lb_one {x : Nat} (hx : x < 18446744073709551616) : FC 5 (lb x) = [.int .u64 (x : Int), .int .u64 0, .int .u64 0, .int .u64 0, .int .u64 0] := by
  have h0 : lb x 0 = x := by
    unfold lb dg
    rw [Nat.pow_zero, Nat.div_one, Nat.mod_eq_of_lt (by omega)]
  have h1 : ∀ i, 0 < i → lb x i = 0 := fun i hi => dg_big (Nat.lt_of_lt_of_le (show x < (2 ^ 64) ^ 1 by omega) (Nat.pow_le_pow_right (by decide) hi))
  have e : FC 5 (lb x) = [.int .u64 (lb x 0 : Nat), .int .u64 (lb x 1 : Nat), .int .u64 (lb x 2 : Nat), .int .u64 (lb x 3 : Nat), .int .u64 (lb x 4 : Nat)] := rfl
  rw [e, h0, h1 1 (by decide), h1 2 (by decide), h1 3 (by decide), h1 4 (by decide)]
  rfl
set_option maxHeartbeats 4000000 in
set_option maxRecDepth 100000 in
theorem lof_calls (x : Nat) (w : World) (hx : x < 18446744073709551616) :
    Calls Tryd.prog 19 #[.int .u64 x] w fun e w' => e = .returned (UV 5 x) ∧ Below w.heap.size w w' := by
  have HE := Lib.hid (lb_one hx)
  clear hx
  go_enter Tryd.func19, Tryd.ntmps19
  go_wp2_with fail
  have hk : FB w.heap.size 5 (lb x) 26 (w.alloc (.cells #[.int .u64 (x : Int), .int .u64 0, .int .u64 0, .int .u64 0, .int .u64 0] 26)) := by
    unfold FB
    rw [nw1, HE.out]
  exact bodyPost_ret (results_cell 2 26 _ _ rfl rfl (run_loadVar_row _ _ _ _ _ _ _ hk UN5 rfl (IN5 _))) rfl ⟨rfl, bl1 _ _⟩
end Go.Proofs.YtihdeanfcbiflaaDoor.Lg
