/- The walk of the law's 'same'. -/
import Derived.Test.YtalfgagcfjddcaaAw05
namespace Go.Proofs.Ytalfgagcfjddcaa.Lg
open Go.RowKit Go.Proofs.Ytalfgagcfjddcaa.Mk Go.Proofs.Ytalfgagcfjddcaa.Ul Go.Proofs.Ytalfgagcfjddcaa.Wi Go.Proofs.Ytalfgagcfjddcaa.Wd Go.Proofs.Ytalfgagcfjddcaa.R5
theorem fits_bl (Y : Nat) : (fits Y = true ↔ ¬ 320 < bl Y) := by
  unfold fits
  rw [decide_eq_true_eq]
  constructor
  · intro h
    have := bl320 h
    omega
  · intro h
    obtain ⟨m, hm⟩ : ∃ m, m = 64 * 5 := ⟨_, rfl⟩
    have e : (2 ^ 64) ^ 5 = 2 ^ m := by rw [hm]; exact (Nat.pow_mul 2 64 5).symm
    have h2 := (bl_le m Y).1 (by omega)
    rw [e]
    exact h2
set_option maxHeartbeats 8000000 in
set_option maxRecDepth 100000 in
theorem same5_calls (Y : Nat) (v : Value) (w : World) (h : DV w v Y) :
    Calls Try.prog 35 #[UV 5 (okX (fits Y) Y), .bool (fits Y), v] w fun e w' => e = .returned (.bool true) ∧ Below w.heap.size w w' := by
  have hf := fits_bl Y
  by_cases hb : 320 < bl Y
  · have hff : fits Y = false := by
      cases hh : fits Y with
      | false => rfl
      | true => exact absurd hb (hf.1 hh)
    rw [hff, show okX false Y = 0 from rfl]
    have HL := Lib.hid (r5len_calls Y v (w.alloc (oL (lb 0))) (h.below (bl1 _ _)))
    have q1 := eqL0 (Z := 0) (Nat.pow_pos (by decide))
    have q2 := eqLg
    have S := Lib.hid (SQ.new w (oL (lb 0)))
    have hb2 : (320 : Int) < (bl Y : Nat) := by omega
    clear hf hff hb h
    generalize bl Y = n at *
    unfold UV
    rw [decide_eq_true rfl] at q1
    go_enter Try.func35, Try.ntmps35
    go_wp2_with fail
    refine HL.out.mono ?_
    rintro e w1 ⟨rfl, rfl⟩
    go_wp2_with (refine wpList_loadg (by rfl) 49 (.tmp 3) (by rfl) _ (by rfl) _ (ldAt5 S.out.a0) ?_)
    go_ret
    exact ⟨rfl, S.out.2⟩
  · have hff : fits Y = true := hf.2 hb
    rw [hff, show okX true Y = Y from rfl]
    have HY := of_decide_eq_true hff
    have HL := Lib.hid (r5len_calls Y v (w.alloc (oL (lb Y))) (h.below (bl1 _ _)))
    have S := Lib.hid (SQ.new w (oL (lb Y)))
    have HM := Lib.hid (limbs_calls Y w.heap.size 0 5 5 (w.alloc (oL (lb Y))) HY (by decide) (by decide) (LB.of _ S.out.a0))
    have HV := Lib.hid (h.below (bl1 w (oL (lb Y))))
    have HC := Lib.hid (fun w v1 v2 h1 h2 => r5cmp_calls Y Y v1 v2 w h1 h2)
    rw [show cmpI Y Y = 0 by unfold cmpI; rw [if_neg (Nat.lt_irrefl _), if_neg (Nat.lt_irrefl _)]] at HC
    have hb2 : ¬ (320 : Int) < (bl Y : Nat) := by omega
    clear hf hff hb h HY
    generalize bl Y = n at *
    unfold UV
    go_enter Try.func35, Try.ntmps35
    go_wp2_with fail
    refine HL.out.mono ?_
    rintro e w1 ⟨rfl, rfl⟩
    go_wp2_with fail
    refine HM.out.mono ?_
    rintro e w2 ⟨v2, rfl, hv2, hb2⟩
    have HV2 := Lib.hid hv2
    have HV1 := Lib.hid (HV.out.below hb2)
    have S2 := Lib.hid (S.out.keep hb2)
    clear hv2 hb2
    go_wp2_with fail
    refine (HC.out _ _ _ HV2.out HV1.out).mono ?_
    rintro e w3 ⟨rfl, hb3⟩
    have S3 := Lib.hid (S2.out.keep hb3)
    clear hb3
    go_wp2_with fail
    go_ret
    exact ⟨rfl, S3.out.2⟩
end Go.Proofs.Ytalfgagcfjddcaa.Lg
