/- The walk of the law CommonLast: whatever two lists of ids it is given, it answers true. -/
import Derived.Test.YtcgibofjlicicaaCommonC
namespace Go.Proofs.Ytcgibofjlicicaa.Common
open Go.RowKit Go.Proofs.Ytcgibofjlicicaa.Mk
theorem lastP_open (a b : List H) : ∃ x y : Int, lastP a b = .tuple #[.int .i64 x, .int .i64 y] := ⟨_, _, rfl⟩
set_option maxHeartbeats 1000000 in
theorem lawLast_calls (a b : List H) (va vb : Value) (w : World) (ha : SL hc 32 w va a) (hb : SL hc 32 w vb b) :
    Calls Try.prog 3 #[va, vb] w fun e w' => e = .returned (.bool true) ∧ Below w.heap.size w w' := by
  have ha0 := ha
  have hb0 := hb
  obtain ⟨_, hbda, A, ca, rfl, hlca, hcma, _⟩ := ha
  obtain ⟨_, hbdb, B, cb, rfl, hlcb, hcmb, _⟩ := hb
  have Ha := Lib.hid ha0
  have Hb := Lib.hid hb0
  clear ha0 hb0
  obtain ⟨x, y, hxy⟩ := lastP_open a b
  have Hxy := Lib.hid hxy
  clear hxy
  by_cases c1 : 100 < a.length
  · go_enter Try.func3, Try.ntmps3
    go_wp2_with (go_at_call 18; refine (awake_calls _).mono ?_; rintro e w1 ⟨rfl, hb1⟩)
    go_ret
    exact ⟨rfl, hb1⟩
  · by_cases c2 : 100 < b.length
    · go_enter Try.func3, Try.ntmps3
      go_wp2_with (go_at_call 18; refine (awake_calls _).mono ?_; rintro e w1 ⟨rfl, hb1⟩)
      go_ret
      exact ⟨rfl, hb1⟩
    · go_enter Try.func3, Try.ntmps3
      go_wp2_with fail
      refine (last_calls a b _ _ _ Ha.out Hb.out).mono ?_
      rw [Hxy.out]
      rintro e w1 ⟨rfl, hb1⟩
      go_wp2_with fail
      refine (rlast_calls a b _ _ _ (Ha.out.below hb1) (Hb.out.below hb1)).mono ?_
      rw [Hxy.out]
      rintro e w2 ⟨rfl, hb2⟩
      go_wp2_with fail
      refine (awake_calls _).mono ?_
      rintro e w3 ⟨rfl, hb3⟩
      go_wp2_with fail
      go_ret
      exact ⟨rfl, below_up (below_up hb1 hb2) hb3⟩
end Go.Proofs.Ytcgibofjlicicaa.Common
