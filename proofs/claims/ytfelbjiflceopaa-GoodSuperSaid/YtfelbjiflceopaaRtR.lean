/- The walk of the document's comparison. -/
import Derived.Test.YtfelbjiflceopaaRtS
import Derived.Test.YtfelbjiflceopaaR5M
import Derived.Test.YtfelbjiflceopaaR5C
namespace Go.Proofs.Ytfelbjiflceopaa.Rt
open Go.RowKit Go.Proofs.Ytfelbjiflceopaa.Mk Go.Proofs.Ytfelbjiflceopaa.Ul Go.Proofs.Ytfelbjiflceopaa.Wi Go.Proofs.Ytfelbjiflceopaa.Lg Go.Proofs.Ytfelbjiflceopaa.R5
theorem dn64 {y : Nat} (h : y < 18446744073709551616) : dn y ≤ 1000 := Nat.le_trans ((dn_le 4 y).2 (Nat.lt_of_lt_of_le h (by decide))) (by decide)
theorem dn320 {X : Nat} (h : X < (2 ^ 64) ^ 5) : dn X ≤ 1000 := Nat.le_trans ((dn_le 20 X).2 (Nat.lt_of_lt_of_le h (by decide))) (by decide)
theorem dnpow {n : Nat} (h : n ≤ 1000) : dn (2 ^ n) ≤ 1000 := by rw [dn_pow]; omega
theorem ret_i {a b : Int} (h : a = b) : Ending.returned (.int .i64 a) = .returned (.int .i64 b) := by rw [h]
set_option maxHeartbeats 8000000 in
set_option maxRecDepth 100000 in
theorem rcmp6_calls (n d : Nat) (up a b : Int) (w : World) (hn : n < 4294967296) (hd : d < 4294967296) :
    Calls Try.prog 23 #[.int .u32 n, .int .u32 d, .int .i64 up, .int .i64 a, .int .i64 b] w fun e w' => e = .returned (.int .i64 (cmpR n d up a b)) ∧ Below w.heap.size w w' := by
  have A1 := Lib.hid (fun w => rmay6_calls a b w)
  have hc : cmpR n d up a b = if mayR a b = true ∧ upR up = true then cmpI (n * b.toNat * 2 ^ up.toNat) (d * (b - a).toNat) else 2 := rfl
  by_cases hm : mayR a b = true
  · rw [hm] at A1
    by_cases h0 : up < 0
    · have HE := Lib.hid (show cmpR n d up a b = 2 by rw [hc, if_neg (fun h => by have := upR_iff.1 h.2; omega)])
      clear hc hm hn hd
      go_enter Try.func23, Try.ntmps23
      go_wp2_with fail
      refine (A1.out _).mono ?_
      rintro e w1 ⟨rfl, rfl⟩
      go_wp2_with fail
      go_ret
      exact ⟨ret_i HE.out.symm, Below.refl _ _⟩
    · have v0 : decide (up < 0) = false := decide_eq_false h0
      by_cases h1 : 255 < up
      · have HE := Lib.hid (show cmpR n d up a b = 2 by rw [hc, if_neg (fun h => by have := upR_iff.1 h.2; omega)])
        clear hc hm hn hd h0
        go_enter Try.func23, Try.ntmps23
        go_wp2_with fail
        refine (A1.out _).mono ?_
        rintro e w1 ⟨rfl, rfl⟩
        go_wp2_with fail
        go_ret
        exact ⟨ret_i HE.out.symm, Below.refl _ _⟩
      · have v1 : decide (255 < up) = false := decide_eq_false h1
        obtain ⟨m0, m1, m2⟩ := mayR_iff.1 hm
        rw [if_pos ⟨hm, upR_iff.2 ⟨by omega, by omega⟩⟩] at hc
        obtain ⟨B, rfl⟩ := Int.eq_ofNat_of_zero_le (show 0 ≤ b by omega)
        obtain ⟨D, hD⟩ := Int.eq_ofNat_of_zero_le (show 0 ≤ (B : Int) - a by omega)
        obtain ⟨u, rfl⟩ := Int.eq_ofNat_of_zero_le (show 0 ≤ up by omega)
        rw [hD, Int.toNat_natCast, Int.toNat_natCast, Int.toNat_natCast] at hc
        by_cases c : n < 65536 ∧ d < 65536 ∧ u ≤ 16
        · obtain ⟨c1, c2, c3⟩ := c
          have hp1 : n * B < 4294967296 := Nat.lt_of_le_of_lt (Nat.mul_le_mul (Nat.le_of_lt_succ c1) (show B ≤ 65536 by omega)) (by decide)
          have hp2 : d * D < 4294967296 := Nat.lt_of_le_of_lt (Nat.mul_le_mul (Nat.le_of_lt_succ c2) (show D ≤ 65536 by omega)) (by decide)
          have hp3 : 2 ^ u ≤ 65536 := Nat.pow_le_pow_right (n := 2) (by decide) c3
          have hp4 : n * B * 2 ^ u < 281474976710656 := Nat.lt_of_lt_of_le (Nat.lt_of_lt_of_le ((Nat.mul_lt_mul_right (Nat.two_pow_pos u)).2 hp1) (Nat.mul_le_mul_left _ hp3)) (by decide)
          have k1 : (n : Int) * (B : Int) = ((n * B : Nat) : Int) := by simp
          have k2 : (d : Int) * (D : Int) = ((d * D : Nat) : Int) := by simp
          have k3 : ((n * B : Nat) : Int) * 2 ^ u = ((n * B * 2 ^ u : Nat) : Int) := by simp
          have HC := Lib.hid hc
          have hp5 : ((n * B * 2 ^ u : Nat) : Int) < 281474976710656 := by omega
          have hp6 : ((d * D : Nat) : Int) < 4294967296 := by omega
          have hp7 : ((n * B : Nat) : Int) < 4294967296 := by omega
          clear hc hm hp1 hp2 hp3 hp4 hn hd h0 h1
          have c1' : (n : Int) < 65536 := by omega
          have c2' : (d : Int) < 65536 := by omega
          have c3' : (u : Int) ≤ 16 := by omega
          have u0 : (0 : Int) ≤ (u : Int) := by omega
          clear c1 c2 c3
          generalize n * B * 2 ^ u = R at *
          generalize n * B = P at *
          generalize d * D = Y at *
          go_enter Try.func23, Try.ntmps23
          go_wp2_with fail
          refine (A1.out _).mono ?_
          rintro e w1 ⟨rfl, rfl⟩
          have H5 := Lib.hid hp5
          have H6 := Lib.hid hp6
          have H7 := Lib.hid hp7
          have HW := Lib.hid (show wrap64 (wrap64 (P : Int) * 2 ^ u) = (R : Int) by rw [IntWalk.wrap64_in (P : Int) (by omega), k3, IntWalk.wrap64_in (R : Int) (by omega)])
          have HY := Lib.hid (IntWalk.wrap64_in (Y : Int) (by omega))
          clear hp5 hp6 hp7 k3
          go_upto_region 5 with fail
          rw [HW.out]
          clear k1
          go_upto_region 6 with fail
          rw [HY.out]
          generalize wrap64 (P : Int) = P' at *
          clear v0 v1 c1' c2' c3' k2 hD m0 m1 m2 HW H5 H6 H7 HY
          by_cases g1 : Y < R
          · have HE := Lib.hid (HC.out.trans (cmpI_gt g1))
            have t1 : decide (Y < R) = true := decide_eq_true g1
            clear g1 HC
            go_wp2_with fail
            go_ret
            exact ⟨ret_i HE.out.symm, Below.refl _ _⟩
          · have t1 : decide (Y < R) = false := decide_eq_false g1
            by_cases g2 : R < Y
            · have HE := Lib.hid (HC.out.trans (cmpI_lt g2))
              have t2 : decide (R < Y) = true := decide_eq_true g2
              clear g1 g2 HC
              go_wp2_with fail
              go_ret
              exact ⟨ret_i HE.out.symm, Below.refl _ _⟩
            · have HE := Lib.hid (HC.out.trans (cmpI_eq (show R = Y by omega)))
              have t2 : decide (R < Y) = false := decide_eq_false g2
              clear g1 g2 HC
              go_wp2_with fail
              go_ret
              exact ⟨ret_i HE.out.symm, Below.refl _ _⟩
        · have HC := Lib.hid hc
          have B1 := Lib.hid (fun w => r5of_calls n w (by omega))
          have B2 := Lib.hid (fun w => r5of_calls B w (by omega))
          have B3 := Lib.hid (fun v1 v2 w h1 h2 => r5mul_calls n B v1 v2 w h1 h2 (dn64 (by omega)) (dn64 (by omega)))
          have B4 := Lib.hid (fun w => r5pow_calls u w (by omega))
          have B5 := Lib.hid (fun v1 v2 w h1 h2 => r5mul_calls (n * B) (2 ^ u) v1 v2 w h1 h2 (dn320 (nb_lt hn (by omega))) (dnpow (by omega)))
          have B6 := Lib.hid (fun w => r5of_calls d w (by omega))
          have B7 := Lib.hid (fun w => r5of_calls D w (by omega))
          have B8 := Lib.hid (fun v1 v2 w h1 h2 => r5mul_calls d D v1 v2 w h1 h2 (dn64 (by omega)) (dn64 (by omega)))
          have B9 := Lib.hid (fun v1 v2 w h1 h2 => r5cmp_calls (n * B * 2 ^ u) (d * D) v1 v2 w h1 h2)
          have x1 : IntKind.u64.wrap (n : Int) = (n : Int) := by rw [IntKind.wrap_u64]; omega
          have x2 : IntKind.u64.wrap (d : Int) = (d : Int) := by rw [IntKind.wrap_u64]; omega
          have x3 : IntKind.u64.wrap (B : Int) = (B : Int) := by rw [IntKind.wrap_u64]; omega
          have x4 : IntKind.u64.wrap (D : Int) = (D : Int) := by rw [IntKind.wrap_u64]; omega
          have c' : decide ((n : Int) < 65536) = false ∨ (decide ((n : Int) < 65536) = true ∧ decide ((d : Int) < 65536) = false) ∨ (decide ((n : Int) < 65536) = true ∧ decide ((d : Int) < 65536) = true ∧ decide ((u : Int) ≤ 16) = false) := by
            simp only [decide_eq_true_eq, decide_eq_false_iff_not]
            omega
          clear hc c hm hn hd h0 h1
          have E4 := Lib.hid (show (B : Int) - a = (D : Int) from hD)
          generalize n * B * 2 ^ u = R at *
          generalize n * B = P at *
          generalize d * D = Y at *
          generalize 2 ^ u = U at *
          rcases c' with t1 | ⟨t1, t2⟩ | ⟨t1, t2, t3⟩
          all_goals
            go_enter Try.func23, Try.ntmps23
            go_wp2_with fail
            refine (A1.out _).mono ?_
            rintro e w1 ⟨rfl, rfl⟩
            go_wp2_with fail
            refine (B1.out _).mono ?_
            rintro e w2 ⟨v2, rfl, d2, b2⟩
            have D2 := Lib.hid d2
            have S := Lib.hid (And.intro True.intro b2)
            clear d2 b2
            go_wp2_with fail
            refine (B2.out _).mono ?_
            rintro e w3 ⟨v3, rfl, d3, b3⟩
            have D3 := Lib.hid d3
            have D2 := Lib.hid (D2.out.below b3)
            have S := Lib.hid (And.intro True.intro (below_up S.out.2 b3))
            clear d3 b3
            go_wp2_with fail
            refine (B3.out _ _ _ D2.out D3.out).mono ?_
            rintro e w4 ⟨v4, rfl, d4, b4⟩
            have D4 := Lib.hid d4
            have S := Lib.hid (And.intro True.intro (below_up S.out.2 b4))
            clear d4 b4 D2 D3
            go_wp2_with fail
            refine (B4.out _).mono ?_
            rintro e w5 ⟨v5, rfl, d5, b5⟩
            have D5 := Lib.hid d5
            have D4 := Lib.hid (D4.out.below b5)
            have S := Lib.hid (And.intro True.intro (below_up S.out.2 b5))
            clear d5 b5
            go_wp2_with fail
            refine (B5.out _ _ _ D4.out D5.out).mono ?_
            rintro e w6 ⟨v6, rfl, d6, b6⟩
            have D6 := Lib.hid d6
            have S := Lib.hid (And.intro True.intro (below_up S.out.2 b6))
            clear d6 b6 D4 D5
            go_wp2_with fail
            refine (B6.out _).mono ?_
            rintro e w7 ⟨v7, rfl, d7, b7⟩
            have D7 := Lib.hid d7
            have D6 := Lib.hid (D6.out.below b7)
            have S := Lib.hid (And.intro True.intro (below_up S.out.2 b7))
            clear d7 b7
            go_wp2_with fail
            refine (B7.out _).mono ?_
            rintro e w8 ⟨v8, rfl, d8, b8⟩
            have D8 := Lib.hid d8
            have D7 := Lib.hid (D7.out.below b8)
            have D6 := Lib.hid (D6.out.below b8)
            have S := Lib.hid (And.intro True.intro (below_up S.out.2 b8))
            clear d8 b8
            go_wp2_with fail
            refine (B8.out _ _ _ D7.out D8.out).mono ?_
            rintro e w9 ⟨v9, rfl, d9, b9⟩
            have D9 := Lib.hid d9
            have D6 := Lib.hid (D6.out.below b9)
            have S := Lib.hid (And.intro True.intro (below_up S.out.2 b9))
            clear d9 b9 D7 D8
            go_wp2_with fail
            refine (B9.out _ _ _ D6.out D9.out).mono ?_
            rintro e w10 ⟨rfl, b10⟩
            have S := Lib.hid (And.intro True.intro (below_up S.out.2 b10))
            clear b10
            go_wp2_with fail
            go_ret
            exact ⟨ret_i HC.out.symm, S.out.2⟩
  · rw [Bool.eq_false_iff.2 hm] at A1
    have HE := Lib.hid (show cmpR n d up a b = 2 by rw [hc, if_neg (fun h => hm h.1)])
    clear hc hm hn hd
    go_enter Try.func23, Try.ntmps23
    go_wp2_with fail
    refine (A1.out _).mono ?_
    rintro e w1 ⟨rfl, rfl⟩
    go_wp2_with fail
    go_ret
    exact ⟨ret_i HE.out.symm, Below.refl _ _⟩
end Go.Proofs.Ytfelbjiflceopaa.Rt
