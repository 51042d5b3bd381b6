/- The walks of chapter 6's laws RatioAsks and RatioProducts. -/
import Derived.Test.YtfelbjiflceopaaRtR
import Derived.Test.YtfelbjiflceopaaEqN
namespace Go.Proofs.Ytfelbjiflceopaa.Rt
open Go.RowKit Go.Proofs.Ytfelbjiflceopaa.Mk Go.Proofs.Ytfelbjiflceopaa.Ul Go.Proofs.Ytfelbjiflceopaa.Wi Go.Proofs.Ytfelbjiflceopaa.Lg Go.Proofs.Ytfelbjiflceopaa.R5
theorem ldI {w : World} {p : Addr} {v : Value} (h : w.cell? p = some v) : (Instr.loadAt 3 (.pointer (some p))).run Try.prog w = .ok v w := by go_simp
def oA3 (x y z : Int) : Obj := .cells #[.int .i64 x, .int .i64 y, .int .i64 z] 40 (0, 0)
theorem asks_vals (n d : Nat) (up a b : Int) : (cmpR n d up a b = 0 ∧ aboveR n d up a b = false ∧ leastR n d up a b = true) ∨ (cmpR n d up a b = 1 ∧ aboveR n d up a b = true ∧ leastR n d up a b = true) ∨
    ((cmpR n d up a b == 0) = false ∧ (cmpR n d up a b == 1) = false ∧ aboveR n d up a b = false ∧ leastR n d up a b = false) := by
  rw [above_cmp, least_cmp]
  generalize cmpR n d up a b = c
  by_cases h0 : c = 0
  · subst h0; exact .inl ⟨rfl, rfl, rfl⟩
  · by_cases h1 : c = 1
    · subst h1; exact .inr (.inl ⟨rfl, rfl, rfl⟩)
    · exact .inr (.inr ⟨by simpa using h0, by simpa using h1, by simpa using h1, by simp [h0, h1]⟩)
set_option maxHeartbeats 8000000 in
set_option maxRecDepth 100000 in
theorem ratioAsks_calls (n d : Nat) (up a b : Int) (w : World) (hn : n < 4294967296) (hd : d < 4294967296) :
    Calls Try.prog 6 #[.int .u32 n, .int .u32 d, .agg #[.int .i64 up, .int .i64 a, .int .i64 b]] w fun e w' => e = .returned (.bool true) ∧ Below w.heap.size w w' := by
  have S0 := Lib.hid (SQ.new w (oA3 up a b))
  have A1 := Lib.hid (fun w => rcmp6_calls n d (a := a) (b := b) up w hn hd)
  have A2 := Lib.hid (fun w => may6_calls a b w)
  have A3 := Lib.hid (fun w => rmay6_calls a b w)
  have A4 := Lib.hid (fun w => above_calls n d up a b w hn hd)
  have A5 := Lib.hid (fun w => least_calls n d up a b w hn hd)
  have A6 := Lib.hid (fun w => awake6_calls w)
  have hv := asks_vals n d up a b
  clear hn hd
  generalize cmpR n d up a b = c at *
  generalize aboveR n d up a b = x1 at *
  generalize leastR n d up a b = x2 at *
  have c0 := fun (wx : World) (L : SQ [(w.heap.size, oA3 up a b)] w wx) => cell_of_row wx w.heap.size 0 _ _ _ L.a0
  have c1 := fun (wx : World) (L : SQ [(w.heap.size, oA3 up a b)] w wx) => cell_of_row wx w.heap.size 1 _ _ _ L.a0
  have c2 := fun (wx : World) (L : SQ [(w.heap.size, oA3 up a b)] w wx) => cell_of_row wx w.heap.size 2 _ _ _ L.a0
  have C0 := Lib.hid c0
  have C1 := Lib.hid c1
  have C2 := Lib.hid c2
  clear c0 c1 c2
  cases hm : mayR a b
  all_goals
    rw [hm] at A2 A3
    clear hm
    rcases hv with ⟨rfl, rfl, rfl⟩ | ⟨rfl, rfl, rfl⟩ | ⟨t0, t1, rfl, rfl⟩
    all_goals
      go_enter Try.func6, Try.ntmps6
      go_wp2_with fail
      refine (A1.out _).mono ?_
      rintro e w1 ⟨rfl, hb1⟩
      have S := Lib.hid (S0.out.keep hb1)
      clear hb1
      have L0 := Lib.hid (fun wx (hx : Below w1.heap.size w1 wx) => ldI (C0.out wx (S.out.keep hx)))
      have L1 := Lib.hid (fun wx (hx : Below w1.heap.size w1 wx) => ldI (C1.out wx (S.out.keep hx)))
      have L2 := Lib.hid (fun wx (hx : Below w1.heap.size w1 wx) => ldI (C2.out wx (S.out.keep hx)))
      have P2 := Lib.hid (show ∀ wx, Below w1.heap.size w1 wx → Calls Try.prog 24 #[.int .i64 a, .int .i64 b] wx fun e w' => e = .returned _ ∧ Below wx.heap.size wx w' from fun wx _ => (A2.out wx).mono (by rintro e w' ⟨rfl, rfl⟩; exact ⟨rfl, Below.refl _ _⟩))
      have P3 := Lib.hid (show ∀ wx, Below w1.heap.size w1 wx → Calls Try.prog 25 #[.int .i64 a, .int .i64 b] wx fun e w' => e = .returned _ ∧ Below wx.heap.size wx w' from fun wx _ => (A3.out wx).mono (by rintro e w' ⟨rfl, rfl⟩; exact ⟨rfl, Below.refl _ _⟩))
      have P4 := Lib.hid (fun wx (_ : Below w1.heap.size w1 wx) => A4.out wx)
      have P5 := Lib.hid (fun wx (_ : Below w1.heap.size w1 wx) => A5.out wx)
      have P6 := Lib.hid (fun wx (_ : Below w1.heap.size w1 wx) => A6.out wx)
      clear A1 A2 A3 A4 A5 A6
      go_wp2_with fail
      refine wp_region_quiet_below (by kernel_rfl) (by kernel_rfl) ?_
      repeat (first | ((refine wpQuiet_load rfl 3 _ rfl _ rfl _ (rg_fact L0.out) ?_); simp only [Act.put, List.setIfInBounds_toArray, List.set_cons_zero, List.set_cons_succ]) | ((refine wpQuiet_load rfl 3 _ rfl _ rfl _ (rg_fact L1.out) ?_); simp only [Act.put, List.setIfInBounds_toArray, List.set_cons_zero, List.set_cons_succ]) | ((refine wpQuiet_load rfl 3 _ rfl _ rfl _ (rg_fact L2.out) ?_); simp only [Act.put, List.setIfInBounds_toArray, List.set_cons_zero, List.set_cons_succ]) | (((refine wpQuiet_call rfl 24 _ ?_ _ (rg_of P2.out) ?_); focus (intro wx; go_simp; done)); simp only [Act.put, List.setIfInBounds_toArray, List.set_cons_zero, List.set_cons_succ]) | (((refine wpQuiet_call rfl 25 _ ?_ _ (rg_of P3.out) ?_); focus (intro wx; go_simp; done)); simp only [Act.put, List.setIfInBounds_toArray, List.set_cons_zero, List.set_cons_succ]) | (((refine wpQuiet_call rfl 26 _ ?_ _ (rg_of P4.out) ?_); focus (intro wx; go_simp; done)); simp only [Act.put, List.setIfInBounds_toArray, List.set_cons_zero, List.set_cons_succ]) | (((refine wpQuiet_call rfl 27 _ ?_ _ (rg_of P5.out) ?_); focus (intro wx; go_simp; done)); simp only [Act.put, List.setIfInBounds_toArray, List.set_cons_zero, List.set_cons_succ]) | (((refine wpQuiet_call rfl 28 _ ?_ _ (rg_of P6.out) ?_); focus (intro wx; go_simp; done)); simp only [Act.put, List.setIfInBounds_toArray, List.set_cons_zero, List.set_cons_succ]) | go_big_quiet_step (fail) | quiet_step (fail))
      refine wpQuiet_nil ?_
      rintro _ ⟨rp, rfl⟩
      have hb5 := below_regrown w1 rp.d rp.os
      generalize Sort.grow (redrawn w1 rp.d) rp.os = w5 at *
      have hfin := Lib.hid (below_up S.out.2 hb5)
      clear hb5
      go_wp2_with fail
      go_ret
      exact ⟨rfl, hfin.out⟩
theorem eqL_zero (w : World) : (binOp .eql 26 (.agg (FC 5 fun _ => 0).toArray) (.agg (FC 5 fun _ => 0).toArray)).run Try.prog w = .ok (.bool true) w := by
  have e1 : FC 5 (fun _ => 0) = ((List.range 5).map fun i => ((fun _ => 0 : Nat → Nat) i : Int)).map (Value.int .u64) := by simp [FC]
  rw [e1, run_eql_ints w 26 24 .u64 5 UN5 (by kernel_rfl) Try.sizeOf24 _ _ (by simp) (by simp)]
  simp
theorem eqLgd (w : World) (a b : Operand) (c d : Array Value) : (eqGuard .eql 26 a b (.agg c) (.agg d)).run Try.prog w = .ok () w := run_eqGuard_agg _ _ _ _ _ _ _ (by kernel_rfl)
set_option maxHeartbeats 8000000 in
set_option maxRecDepth 100000 in
theorem ratioProducts_calls (n b : Nat) (up : Int) (w : World) (hn : n < 4294967296) (hb : b < 4294967296) :
    Calls Try.prog 7 #[.int .u32 n, .int .u32 b, .int .i64 up] w fun e w' => e = .returned (.bool true) ∧ Below w.heap.size w w' := by
  have A1 := (fun w => product_calls n b up w hn hb)
  have A6 := Lib.hid (fun w => awake6_calls w)
  have hx : prodX n b up = if upR up = true then n * b * 2 ^ up.toNat else 0 := rfl
  by_cases hu : upR up = true
  · obtain ⟨u0, u1⟩ := upR_iff.1 hu
    obtain ⟨u, rfl⟩ := Int.eq_ofNat_of_zero_le u0
    have v0 : decide ((u : Int) < 0) = false := decide_eq_false (by omega)
    have v1 : decide (255 < (u : Int)) = false := decide_eq_false (by omega)
    rw [if_pos hu, Int.toNat_natCast] at hx
    rw [hx, hu] at A1
    have hP := prod_lt (u := u) hn hb (by omega)
    have x1 : IntKind.u64.wrap (n : Int) = (n : Int) := by rw [IntKind.wrap_u64]; omega
    have x2 : IntKind.u64.wrap (b : Int) = (b : Int) := by rw [IntKind.wrap_u64]; omega
    have B1 := Lib.hid (fun w => r5of_calls n w (by omega))
    have B2 := Lib.hid (fun w => r5of_calls b w (by omega))
    have B3 := Lib.hid (fun v1 v2 w h1 h2 => r5mul_calls n b v1 v2 w h1 h2 (dn64 (by omega)) (dn64 (by omega)))
    have B4 := Lib.hid (fun w => r5pow_calls u w (by omega))
    have B5 := Lib.hid (fun v1 v2 w h1 h2 => r5mul_calls (n * b) (2 ^ u) v1 v2 w h1 h2 (dn320 (nb_lt hn hb)) (dnpow (by omega)))
    have B6 := (fun g w h => limbs_calls (n * b * 2 ^ u) g 0 5 5 w hP (by decide) (by decide) h)
    have B9 := (fun v1 v2 w h1 h2 => r5cmp_calls (n * b * 2 ^ u) (n * b * 2 ^ u) v1 v2 w h1 h2)
    rw [cmpI_eq rfl] at B9
    clear hx hu hn hb hP u0 u1
    have A1 := Lib.hid A1
    have B6 := Lib.hid B6
    have B9 := Lib.hid B9
    generalize n * b * 2 ^ u = R at *
    generalize n * b = P at *
    generalize 2 ^ u = U at *
    unfold UV at *
    go_enter Try.func7, Try.ntmps7
    go_wp2_with fail
    refine (A1.out _).mono ?_
    rintro e w1 ⟨rfl, hb1⟩
    have S := Lib.hid (((SQ.nil w).keep hb1).alloc (oL (lb R)))
    clear hb1
    go_wp2_with (first | (refine wpList_store_last rfl 26 _ _ rfl _ (FC 5 (lb R)).toArray rfl rfl (IN5 _) (by rw [FC_size]; rfl) (FC_one _ _) ?_))
    refine (B1.out _).mono ?_
    rintro e w2 ⟨v2, rfl, d2, b2⟩
    have D2 := Lib.hid d2
    have S := Lib.hid (S.out.keep b2)
    clear d2 b2
    go_wp2_with fail
    refine (B2.out _).mono ?_
    rintro e w3 ⟨v3, rfl, d3, b3⟩
    have D3 := Lib.hid d3
    have D2 := Lib.hid (D2.out.below b3)
    have S := Lib.hid (S.out.keep b3)
    clear d3 b3
    go_wp2_with fail
    refine (B3.out _ _ _ D2.out D3.out).mono ?_
    rintro e w4 ⟨v4, rfl, d4, b4⟩
    have D4 := Lib.hid d4
    have S := Lib.hid (S.out.keep b4)
    clear d4 b4 D2 D3
    go_wp2_with fail
    refine (B4.out _).mono ?_
    rintro e w5 ⟨v5, rfl, d5, b5⟩
    have D5 := Lib.hid d5
    have D4 := Lib.hid (D4.out.below b5)
    have S := Lib.hid (S.out.keep b5)
    clear d5 b5
    go_wp2_with fail
    refine (B5.out _ _ _ D4.out D5.out).mono ?_
    rintro e w6 ⟨v6, rfl, d6, b6⟩
    have D6 := Lib.hid d6
    have S := Lib.hid (S.out.keep b6)
    clear d6 b6 D4 D5
    go_wp2_with fail
    refine (B6.out _ _ (LB.of _ S.out.a0)).mono ?_
    rintro e w7 ⟨v7, rfl, d7, b7⟩
    have D7 := Lib.hid d7
    have D6 := Lib.hid (D6.out.below b7)
    have S := Lib.hid (S.out.keep b7)
    clear d7 b7
    go_wp2_with fail
    refine (B9.out _ _ _ D7.out D6.out).mono ?_
    rintro e w8 ⟨rfl, b8⟩
    have S := Lib.hid (S.out.keep b8)
    clear b8 D7 D6
    go_wp2_with fail
    refine (A6.out _).mono ?_
    rintro e w9 ⟨rfl, b9⟩
    have S := Lib.hid (S.out.keep b9)
    clear b9
    go_wp2_with fail
    go_ret
    exact ⟨rfl, S.out.2⟩
  · have hd : decide (up < 0) = true ∨ (decide (up < 0) = false ∧ decide (255 < up) = true) := by
      simp only [decide_eq_true_eq, decide_eq_false_iff_not]
      rcases Int.lt_or_le up 0 with h | h
      · exact .inl h
      · rcases Int.lt_or_le 255 up with h2 | h2
        · exact .inr ⟨by omega, h2⟩
        · exact absurd (upR_iff.2 ⟨h, h2⟩) hu
    rw [if_neg hu] at hx
    rw [hx, Bool.eq_false_iff.2 hu] at A1
    unfold UV at A1
    rw [lb_zero] at A1
    have A1 := Lib.hid A1
    have q1 := eqL_zero
    have q2 := eqLgd
    clear hx hu hn hb
    rcases hd with h | ⟨h0, h⟩
    all_goals
      go_enter Try.func7, Try.ntmps7
      go_wp2_with fail
      refine (A1.out _).mono ?_
      rintro e w1 ⟨rfl, hb1⟩
      have S := Lib.hid (((SQ.nil w).keep hb1).alloc (oL fun _ => 0))
      clear hb1
      go_wp2_with (first | (refine wpList_store_last rfl 26 _ _ rfl _ (FC 5 (fun _ => 0)).toArray rfl rfl (IN5 _) (by rw [FC_size]; rfl) (FC_one _ _) ?_) | (refine wpList_loadg (by rfl) 26 (.tmp 7) (by rfl) _ (by rfl) _ (ldAt5 S.out.a0) ?_) | (refine wpList_value (by rfl) _ (build_L rfl) ?_))
      refine (A6.out _).mono ?_
      rintro e w9 ⟨rfl, b9⟩
      have S := Lib.hid (S.out.keep b9)
      clear b9
      go_wp2_with fail
      go_ret
      exact ⟨rfl, S.out.2⟩
end Go.Proofs.Ytfelbjiflceopaa.Rt
