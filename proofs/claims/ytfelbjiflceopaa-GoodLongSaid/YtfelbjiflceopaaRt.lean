/- The walks of chapter 6's functions. -/
import Derived.Test.YtfelbjiflceopaaRtMath
import Derived.Test.YtfelbjiflceopaaLgM
import Derived.Test.YtfelbjiflceopaaLgC
namespace Go.Proofs.Ytfelbjiflceopaa.Rt
open Go.RowKit Go.Proofs.Ytfelbjiflceopaa.Mk Go.Proofs.Ytfelbjiflceopaa.Ul Go.Proofs.Ytfelbjiflceopaa.Wi Go.Proofs.Ytfelbjiflceopaa.Lg
theorem ret_bool {a b : Bool} (h : a = b) : Ending.returned (.bool a) = .returned (.bool b) := by rw [h]
theorem ld5w {g : Nat} {f : Nat → Nat} {t : TypeId} {w : World} (h : FB g 5 f t w) : (loadVar 26 ⟨g, 0, none⟩).run Try.prog w = .ok (.agg (FC 5 f).toArray) w :=
  run_loadVar_row _ _ _ _ _ _ _ h UN5 rfl (IN5 f)
set_option maxHeartbeats 1000000 in
theorem rmay6_calls (a b : Int) (w : World) : Calls Try.prog 25 #[.int .i64 a, .int .i64 b] w fun e w' => e = .returned (.bool (mayR a b)) ∧ w' = w := by
  by_cases h1 : 0 < a
  · by_cases h2 : a < b
    · by_cases h3 : b ≤ 65536
      · have HE := Lib.hid (show mayR a b = true from mayR_iff.2 ⟨h1, h2, h3⟩)
        go_enter Try.func25, Try.ntmps25
        go_wp2_with fail
        go_ret
        exact ⟨ret_bool HE.out.symm, rfl⟩
      · have HE := Lib.hid (show mayR a b = false from Bool.eq_false_iff.2 (fun h => h3 (mayR_iff.1 h).2.2))
        have t1 : decide (b ≤ 65536) = false := decide_eq_false h3
        clear h3
        go_enter Try.func25, Try.ntmps25
        go_wp2_with fail
        go_ret
        exact ⟨ret_bool HE.out.symm, rfl⟩
    · have HE := Lib.hid (show mayR a b = false from Bool.eq_false_iff.2 (fun h => h2 (mayR_iff.1 h).2.1))
      have t1 : decide (a < b) = false := decide_eq_false h2
      clear h2
      go_enter Try.func25, Try.ntmps25
      go_wp2_with fail
      go_ret
      exact ⟨ret_bool HE.out.symm, rfl⟩
  · have HE := Lib.hid (show mayR a b = false from Bool.eq_false_iff.2 (fun h => h1 (mayR_iff.1 h).1))
    have t1 : decide (0 < a) = false := decide_eq_false h1
    clear h1
    go_enter Try.func25, Try.ntmps25
    go_wp2_with fail
    go_ret
    exact ⟨ret_bool HE.out.symm, rfl⟩
set_option maxHeartbeats 1000000 in
theorem may6_calls (a b : Int) (w : World) : Calls Try.prog 24 #[.int .i64 a, .int .i64 b] w fun e w' => e = .returned (.bool (mayR a b)) ∧ w' = w := by
  by_cases h1 : 0 < a
  · by_cases h2 : a < b
    · by_cases h3 : b ≤ 65536
      · have HE := Lib.hid (show mayR a b = true from mayR_iff.2 ⟨h1, h2, h3⟩)
        go_enter Try.func24, Try.ntmps24
        go_wp2_with fail
        go_ret
        exact ⟨ret_bool HE.out.symm, rfl⟩
      · have HE := Lib.hid (show mayR a b = false from Bool.eq_false_iff.2 (fun h => h3 (mayR_iff.1 h).2.2))
        have t1 : decide (b ≤ 65536) = false := decide_eq_false h3
        clear h3
        go_enter Try.func24, Try.ntmps24
        go_wp2_with fail
        go_ret
        exact ⟨ret_bool HE.out.symm, rfl⟩
    · have HE := Lib.hid (show mayR a b = false from Bool.eq_false_iff.2 (fun h => h2 (mayR_iff.1 h).2.1))
      have t1 : decide (a < b) = false := decide_eq_false h2
      clear h2
      go_enter Try.func24, Try.ntmps24
      go_wp2_with fail
      go_ret
      exact ⟨ret_bool HE.out.symm, rfl⟩
  · have HE := Lib.hid (show mayR a b = false from Bool.eq_false_iff.2 (fun h => h1 (mayR_iff.1 h).1))
    have t1 : decide (0 < a) = false := decide_eq_false h1
    clear h1
    go_enter Try.func24, Try.ntmps24
    go_wp2_with fail
    go_ret
    exact ⟨ret_bool HE.out.symm, rfl⟩
theorem nb_lt {n b : Nat} (hn : n < 4294967296) (hb : b < 4294967296) : n * b < (2 ^ 64) ^ 5 := Nat.lt_of_le_of_lt (Nat.mul_le_mul (Nat.le_of_lt_succ hn) (Nat.le_of_lt_succ hb)) (by decide)
set_option maxHeartbeats 4000000 in
set_option maxRecDepth 100000 in
theorem product_calls (n b : Nat) (up : Int) (w : World) (hn : n < 4294967296) (hb : b < 4294967296) :
    Calls Try.prog 29 #[.int .u32 n, .int .u32 b, .int .i64 up] w fun e w' => e = .returned (.tuple #[UV 5 (prodX n b up), .bool (upR up)]) ∧ Below w.heap.size w w' := by
  have A1 := Lib.hid (fun w => lof_calls n w (by omega))
  have A2 := (fun w => mul_calls n b w (Nat.lt_of_lt_of_le hn (by decide)) (by omega))
  rw [LR_yes (nb_lt hn hb)] at A2
  have A2 := Lib.hid A2
  have A3 := (fun w => shl_calls (n * b) up w (nb_lt hn hb))
  have hx : prodX n b up = if upR up = true then n * b * 2 ^ up.toNat else 0 := rfl
  have hP := fun (h : upR up = true) => prod_lt (u := up.toNat) hn hb (by have := upR_iff.1 h; omega)
  have S0 := Lib.hid (SQ.new w (oL fun _ => 0))
  have hn2 : (0 : Int) ≤ (n : Int) := by omega
  have hb2 : (0 : Int) ≤ (b : Int) := by omega
  have w1 : IntKind.u64.wrap (n : Int) = (n : Int) := by rw [IntKind.wrap_u64]; omega
  have w2 : IntKind.u64.wrap (b : Int) = (b : Int) := by rw [IntKind.wrap_u64]; omega
  by_cases hu : upR up = true
  · obtain ⟨u0, u1⟩ := upR_iff.1 hu
    rw [shlV_pos u0, LR_yes (hP hu)] at A3
    rw [if_pos hu] at hx
    rw [hx, hu]
    have A3 := Lib.hid A3
    clear hP hx hu hn hb
    have v0 : decide (up < 0) = false := decide_eq_false (by omega)
    have v1 : decide (255 < up) = false := decide_eq_false (by omega)
    clear u0 u1
    generalize n * b * 2 ^ up.toNat = R at *
    generalize n * b = P at *
    unfold UV at *
    go_enter Try.func29, Try.ntmps29
    go_wp2_with fail
    refine (A1.out _).mono ?_
    rintro e w1 ⟨rfl, hbw1⟩
    have S := Lib.hid (S0.out.keep hbw1)
    clear hbw1
    go_wp2_with fail
    refine (A2.out _).mono ?_
    rintro e w2 ⟨rfl, hb2⟩
    have S := Lib.hid ((S.out.keep hb2).alloc (oL (lb P)))
    clear hb2
    go_wp2_with (first | (refine wpList_store_last rfl 26 _ _ rfl _ (FC 5 (lb P)).toArray rfl rfl (IN5 _) (by rw [FC_size]; rfl) (FC_one _ _) ?_) | (refine wpList_load_row (by rfl) 26 (.tmp 8) (by rfl) _ (by rfl) _ _ _ _ S.out.a0 UN5 rfl (IN5 _) ?_))
    refine (A3.out _).mono ?_
    rintro e w3 ⟨rfl, hb3⟩
    have S := Lib.hid (S.out.keep hb3)
    clear hb3
    go_wp2_with (first | (refine wpList_store_row (by rfl) 26 _ _ rfl _ (FC 5 (lb R)).toArray rfl rfl _ _ S.out.a1 (IN5 _) (SZ5 _ _) (FC_one 5 _) ?_))
    exact bodyPost_ret (res_cell_tmp 6 7 26 _ _ rfl rfl (ld5 S.out.a1)) rfl ⟨rfl, below_setRow S.out.2 (Nat.le_refl _)⟩
  · rw [if_neg hu] at hx
    rw [hx, Bool.eq_false_iff.2 hu]
    have hd : up < 0 ∨ 255 < up := by
      rcases Int.lt_or_le up 0 with h | h
      · exact .inl h
      · rcases Int.lt_or_le 255 up with h2 | h2
        · exact .inr h2
        · exact absurd (upR_iff.2 ⟨h, h2⟩) hu
    clear hP hx hu hn hb A3
    generalize n * b = P at *
    unfold UV at *
    rw [lb_zero]
    rcases hd with h | h
    · go_enter Try.func29, Try.ntmps29
      go_wp2_with fail
      refine (A1.out _).mono ?_
      rintro e w1 ⟨rfl, hbw1⟩
      have S := Lib.hid (S0.out.keep hbw1)
      clear hbw1
      go_wp2_with fail
      refine (A2.out _).mono ?_
      rintro e w2 ⟨rfl, hb2⟩
      have S := Lib.hid ((S.out.keep hb2).alloc (oL (lb P)))
      clear hb2
      go_wp2_with (first | (refine wpList_store_last rfl 26 _ _ rfl _ (FC 5 (lb P)).toArray rfl rfl (IN5 _) (by rw [FC_size]; rfl) (FC_one _ _) ?_) | (refine wpList_value (by rfl) _ (build_L rfl) ?_) | (refine wpList_store_row (by rfl) 26 _ _ rfl _ (FC 5 (fun _ => 0)).toArray rfl rfl _ _ S.out.a1 (IN5 _) (SZ5 _ _) (FC_one 5 _) ?_))
      exact bodyPost_ret (res_cell_tmp 6 7 26 _ _ rfl rfl (ld5 S.out.a1)) rfl ⟨rfl, below_setRow S.out.2 (Nat.le_refl _)⟩
    · have h0 : decide (up < 0) = false := decide_eq_false (by omega)
      go_enter Try.func29, Try.ntmps29
      go_wp2_with fail
      refine (A1.out _).mono ?_
      rintro e w1 ⟨rfl, hbw1⟩
      have S := Lib.hid (S0.out.keep hbw1)
      clear hbw1
      go_wp2_with fail
      refine (A2.out _).mono ?_
      rintro e w2 ⟨rfl, hb2⟩
      have S := Lib.hid ((S.out.keep hb2).alloc (oL (lb P)))
      clear hb2
      go_wp2_with (first | (refine wpList_store_last rfl 26 _ _ rfl _ (FC 5 (lb P)).toArray rfl rfl (IN5 _) (by rw [FC_size]; rfl) (FC_one _ _) ?_) | (refine wpList_value (by rfl) _ (build_L rfl) ?_) | (refine wpList_store_row (by rfl) 26 _ _ rfl _ (FC 5 (fun _ => 0)).toArray rfl rfl _ _ S.out.a1 (IN5 _) (SZ5 _ _) (FC_one 5 _) ?_))
      exact bodyPost_ret (res_cell_tmp 6 7 26 _ _ rfl rfl (ld5 S.out.a1)) rfl ⟨rfl, below_setRow S.out.2 (Nat.le_refl _)⟩
end Go.Proofs.Ytfelbjiflceopaa.Rt
