/- The walks of chapter 11's example and laws: each answers true. -/
import Derived.Test.YtcgibofjlicicaaShapeSame
namespace Go.Proofs.Ytcgibofjlicicaa.Shape
open Go.RowKit Go.Proofs.Ytcgibofjlicicaa.Mk
theorem ex1 : sidesI 5 4 = [true] := by
  rw [sidesI_right 5 4 (by omega) (by decide) (by omega), sidesI_one _ _ (by decide)]; rfl
theorem ex2 : sidesI 5 1 = [true, false, false] := by
  rw [sidesI_left 5 1 (by omega) (by omega) (by decide), show leftI 5 = 4 from by decide, sidesI_left 4 1 (by omega) (by omega) (by decide), show leftI 4 = 2 from by decide,
    sidesI_right 2 1 (by omega) (by decide) (by omega), sidesI_one _ _ (by decide)]; rfl
theorem ex3 : leftI 5 = 4 := by decide
set_option maxRecDepth 100000 in
set_option maxHeartbeats 2000000 in
theorem awake_calls (w : World) : Calls Try.prog 38 #[] w fun e w' => e = .returned (.bool true) ∧ Below w.heap.size w w' := by
  have H1 := Lib.hid (fun w => sides_calls 5 4 w (by omega))
  have H2 := Lib.hid (fun w => sides_calls 5 1 w (by omega))
  have H3 := Lib.hid (fun w => left_calls 5 w (by omega) (by omega))
  rw [ex1] at H1
  rw [ex2] at H2
  rw [ex3] at H3
  go_enter Try.func38, Try.ntmps38
  go_wp2_with fail
  refine (H1.out _).mono ?_
  rintro e w1 ⟨v1, rfl, s1, hb1⟩
  go_wp2_with fail
  refine (H2.out _).mono ?_
  rintro e w2 ⟨v2, rfl, s2, hb2⟩
  go_wp2_with fail
  refine (H3.out _).mono ?_
  rintro e w3 ⟨rfl, hb3⟩
  have s1' := s1.below (below_up hb2 hb3)
  have s2' := s2.below hb3
  clear s1 s2 H1 H2 H3
  obtain ⟨A1, c1, rfl⟩ := SLB.open s1'
  obtain ⟨A2, c2, rfl⟩ := SLB.open s2'
  obtain ⟨_, hc1, g1⟩ := SLB.cells s1'
  obtain ⟨_, hc2, g2⟩ := SLB.cells s2'
  obtain ⟨b1, o1, rfl, f1⟩ := g1 (by simp)
  obtain ⟨b2, o2, rfl, f2⟩ := g2 (by simp)
  have x1 : w3.cell? ⟨b1, o1, none⟩ = some (.bool true) := f1 0 true rfl
  have y0 : w3.cell? ⟨b2, o2, none⟩ = some (.bool true) := f2 0 true rfl
  have y1 : w3.cell? ⟨b2, o2 + 1, none⟩ = some (.bool false) := f2 1 false rfl
  have y2 : w3.cell? ⟨b2, o2 + 2, none⟩ = some (.bool false) := f2 2 false rfl
  clear f1 f2 s1' s2' g1 g2
  go_wp2_with fail
  go_ret
  exact ⟨rfl, below_up (below_up hb1 hb2) hb3⟩
set_option maxHeartbeats 2000000 in
theorem lawLeft_calls (n : Int) (w : World) (hn : n ≤ 9223372036854775807) (hn0 : -9223372036854775808 ≤ n) :
    Calls Try.prog 11 #[.int .i64 n] w fun e w' => e = .returned (.bool true) ∧ Below w.heap.size w w' := by
  have H1 := Lib.hid (fun w => left_calls n w hn hn0)
  have H2 := Lib.hid (fun w => rleft_calls n w hn hn0)
  generalize leftI n = p at *
  go_enter Try.func11, Try.ntmps11
  go_wp2_with fail
  refine (H1.out _).mono ?_
  rintro e w1 ⟨rfl, hb1⟩
  go_wp2_with fail
  refine (H2.out _).mono ?_
  rintro e w2 ⟨rfl, hb2⟩
  go_wp2_with fail
  refine (awake_calls _).mono ?_
  rintro e w3 ⟨rfl, hb3⟩
  go_wp2_with fail
  go_ret
  exact ⟨rfl, below_up (below_up hb1 hb2) hb3⟩
set_option maxRecDepth 100000 in
set_option maxHeartbeats 4000000 in
theorem lawSides_calls (n i : Int) (w : World) (hn : n ≤ 9223372036854775807) (hn0 : -9223372036854775808 ≤ n) (hi : i ≤ 9223372036854775807) (hi0 : -9223372036854775808 ≤ i) :
    Calls Try.prog 15 #[.int .i64 n, .int .i64 i] w fun e w' => e = .returned (.bool true) ∧ Below w.heap.size w w' := by
  have H1 := Lib.hid (fun w => sides_calls n i w hn)
  have H2 := Lib.hid (fun w => rsides_calls n i w hn hn0 hi hi0)
  have H3 := Lib.hid (fun w => depth_calls n i w hn hn0 hi hi0)
  have H4 := Lib.hid (fun w => rdepth_calls n i w hn hn0 hi hi0)
  have hl := sidesI_len n i hn
  generalize sidesI n i = L at *
  generalize depthI n i = d at *
  go_enter Try.func15, Try.ntmps15
  go_wp2_with fail
  refine (H1.out _).mono ?_
  rintro e w1 ⟨v1, rfl, s1, hb1⟩
  go_wp2_with fail
  refine (H2.out _).mono ?_
  rintro e w2 ⟨v2, rfl, s2, hb2⟩
  have HS := Lib.hid (same_calls v1 v2 L L w2 (s1.below hb2) s2 hl hl)
  rw [show decide (L = L) = true from by simp] at HS
  go_wp2_with fail
  refine HS.out.mono ?_
  rintro e w3 ⟨rfl, hb3⟩
  go_wp2_with fail
  refine (H3.out _).mono ?_
  rintro e w4 ⟨rfl, hb4⟩
  go_wp2_with fail
  refine (H4.out _).mono ?_
  rintro e w5 ⟨rfl, hb5⟩
  go_wp2_with fail
  refine (awake_calls _).mono ?_
  rintro e w6 ⟨rfl, hb6⟩
  go_wp2_with fail
  go_ret
  exact ⟨rfl, below_up (below_up (below_up (below_up (below_up hb1 hb2) hb3) hb4) hb5) hb6⟩
end Go.Proofs.Ytcgibofjlicicaa.Shape
