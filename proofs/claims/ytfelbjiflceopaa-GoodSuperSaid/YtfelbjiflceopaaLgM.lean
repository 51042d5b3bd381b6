/- The walk of a product of a number of 320 bits and one of 64. -/
import Derived.Test.YtfelbjiflceopaaLgS
import Derived.Test.YtfelbjiflceopaaLgH
namespace Go.Proofs.Ytfelbjiflceopaa.Lg
open Go.RowKit Go.Proofs.Ytfelbjiflceopaa.Mk Go.Proofs.Ytfelbjiflceopaa.Ul Go.Proofs.Ytfelbjiflceopaa.Wi
set_option maxHeartbeats 4000000 in
set_option maxRecDepth 100000 in
theorem mul_calls (X y : Nat) (w : World) (hX : X < (2 ^ 64) ^ 5) (hy : y < 18446744073709551616) :
    Calls Try.prog 46 #[UV 5 X, .int .u64 y] w fun e w' => e = .returned (LR (X * y)) ∧ Below w.heap.size w w' := by
  have S := Lib.hid (SQ.new2 w (oL (lb X)) (oL fun _ => 0))
  have hp := mul_parts X y
  have ey := and_mask y hy
  have eh : (y : Int) / 4294967296 = ((y / 4294967296 : Nat) : Int) := by omega
  have H1 := Lib.hid (fun w => half_calls X (y % 4294967296) w hX (by omega))
  have H2 := Lib.hid (fun w => half_calls X (y / 4294967296) w hX (by omega))
  have H3 := Lib.hid (fun w h => shl_calls (X * (y / 4294967296)) (32 : Nat) w h)
  have H4 := Lib.hid (fun w h1 h2 => ladd_calls (X * (y % 4294967296)) (X * (y / 4294967296) * 2 ^ 32) w h1 h2)
  simp only [shlV_nat] at H3
  rw [hp] at H4
  have HP := Lib.hid hp
  clear hX hy hp
  generalize y % 4294967296 = yl at *
  generalize y / 4294967296 = yh at *
  by_cases f1 : X * yl < (2 ^ 64) ^ 5
  · have G1 := Lib.hid f1
    rw [show fits (X * yl) = true from decide_eq_true f1] at H1
    by_cases f2 : X * yh < (2 ^ 64) ^ 5
    · have G2 := Lib.hid f2
      rw [show fits (X * yh) = true from decide_eq_true f2] at H2
      by_cases f3 : X * yh * 2 ^ 32 < (2 ^ 64) ^ 5
      · have G3 := Lib.hid f3
        rw [LR_yes f3] at H3
        clear f1 f2 f3
        generalize X * yh * 2 ^ 32 = Z at *
        generalize X * yl = P at *
        generalize X * yh = Q at *
        have H4 := Lib.hid (fun w => H4.out w G1.out G3.out)
        have H3 := Lib.hid (fun w => H3.out w G2.out)
        have HLR := Lib.hid (show ∃ f b, LR (X * y) = .tuple #[.agg (FC 5 f).toArray, .bool b] from ⟨_, _, rfl⟩)
        obtain ⟨fr, br, hlr⟩ := HLR.out
        rw [hlr] at H4
        have HE := Lib.hid hlr
        clear hlr HLR G1 G2 G3 HP
        unfold UV at *
        go_enter Try.func46, Try.ntmps46
        go_wp2_with (first | (refine wpList_load_row (by rfl) 26 (.tmp 2) (by rfl) _ (by rfl) _ _ _ _ S.out.a1 UN5 rfl (IN5 _) ?_))
        refine (H1.out _).mono ?_
        rintro e w1 ⟨rfl, hb1⟩
        have S := Lib.hid (SQ.keep S.out hb1)
        have HLT := Lib.hid (show w.heap.size + 1 < w1.heap.size from FB.lt (f := fun _ => 0) S.out.a0)
        have S := Lib.hid (S.out.alloc (oL (lb P)))
        clear hb1
        go_wp2_with (first | (refine wpList_store_last rfl 26 _ _ rfl _ (FC 5 (lb P)).toArray rfl rfl (IN5 _) (by rw [FC_size]; rfl) (FC_one _ _) ?_) | (refine wpList_load_row (by rfl) 26 (.tmp 2) (by rfl) _ (by rfl) _ _ _ _ S.out.a2 UN5 rfl (IN5 _) ?_))
        refine (H2.out _).mono ?_
        rintro e w2 ⟨rfl, hb2⟩
        have S := Lib.hid (SQ.keep S.out hb2)
        have S := Lib.hid (S.out.alloc (oL (lb Q)))
        have hg := Lib.hid (show w.heap.size + 1 < w1.heap.size ∧ w1.heap.size < w2.heap.size from ⟨HLT.out, Nat.lt_of_lt_of_le (by simp) hb2.size⟩)
        clear hb2
        go_wp2_with (first | (refine wpList_store_last rfl 26 _ _ rfl _ (FC 5 (lb Q)).toArray rfl rfl (IN5 _) (by rw [FC_size]; rfl) (FC_one _ _) ?_) | (refine wpList_load_row (by rfl) 26 (.tmp 8) (by rfl) _ (by rfl) _ _ _ _ S.out.a0 UN5 rfl (IN5 _) ?_))
        refine (H3.out _).mono ?_
        rintro e w3 ⟨rfl, hb3⟩
        have S := Lib.hid (SQ.keep S.out hb3)
        clear hb3
        have S0 := Lib.hid S.out
        have S := Lib.hid (S.out.put (c' := (FC 5 (lb Z)).toArray) (by have := hg.out; omega) (by intro p hp; have := hg.out; simp at hp; rcases hp with rfl | rfl | rfl <;> simp <;> omega))
        go_wp2_with (first | (refine wpList_store_row (by rfl) 26 _ _ rfl _ (FC 5 (lb Z)).toArray rfl rfl _ _ S0.out.a0 (IN5 _) (SZ5 _ _) (FC_one 5 _) ?_) | (refine wpList_load_row (by rfl) 26 (.tmp 6) (by rfl) _ (by rfl) _ _ _ _ S.out.a1 UN5 rfl (IN5 _) ?_) | (refine wpList_load_row (by rfl) 26 (.tmp 8) (by rfl) _ (by rfl) _ _ _ _ S.out.a0 UN5 rfl (IN5 _) ?_))
        refine (H4.out _).mono ?_
        rintro e w4 ⟨rfl, hb4⟩
        have S := Lib.hid (SQ.keep S.out hb4)
        clear hb4
        go_wp2_with (first | (refine wpList_store_row (by rfl) 26 _ _ rfl _ (FC 5 fr).toArray rfl rfl _ _ S.out.a2 (IN5 _) (SZ5 _ _) (FC_one 5 _) ?_))
        exact bodyPost_ret (res_cell_tmp 4 5 26 _ _ rfl rfl (ld5 S.out.a2)) rfl ⟨by rw [HE.out]; rfl, below_setRow S.out.2 (by omega)⟩
      · have HE : Hid (LR (X * y) = .tuple #[UV 5 0, .bool false]) := Lib.hid (LR_no (fun h => f3 (by have := HP.out; omega)))
        rw [LR_no f3] at H3
        clear f1 f2 f3 HP H4 G1
        generalize X * yl = P at *
        generalize X * yh = Q at *
        have H3 := Lib.hid (fun w => H3.out w G2.out)
        clear G2
        unfold UV at *
        rw [lb_zero] at HE H3
        go_enter Try.func46, Try.ntmps46
        go_wp2_with (first | (refine wpList_load_row (by rfl) 26 (.tmp 2) (by rfl) _ (by rfl) _ _ _ _ S.out.a1 UN5 rfl (IN5 _) ?_))
        refine (H1.out _).mono ?_
        rintro e w1 ⟨rfl, hb1⟩
        have S := Lib.hid (SQ.keep S.out hb1)
        have HLT := Lib.hid (show w.heap.size + 1 < w1.heap.size from FB.lt (f := fun _ => 0) S.out.a0)
        have S := Lib.hid (S.out.alloc (oL (lb P)))
        clear hb1
        go_wp2_with (first | (refine wpList_store_last rfl 26 _ _ rfl _ (FC 5 (lb P)).toArray rfl rfl (IN5 _) (by rw [FC_size]; rfl) (FC_one _ _) ?_) | (refine wpList_load_row (by rfl) 26 (.tmp 2) (by rfl) _ (by rfl) _ _ _ _ S.out.a2 UN5 rfl (IN5 _) ?_))
        refine (H2.out _).mono ?_
        rintro e w2 ⟨rfl, hb2⟩
        have S := Lib.hid (SQ.keep S.out hb2)
        have S := Lib.hid (S.out.alloc (oL (lb Q)))
        have hg := Lib.hid (show w.heap.size + 1 < w1.heap.size ∧ w1.heap.size < w2.heap.size from ⟨HLT.out, Nat.lt_of_lt_of_le (by simp) hb2.size⟩)
        clear hb2
        go_wp2_with (first | (refine wpList_store_last rfl 26 _ _ rfl _ (FC 5 (lb Q)).toArray rfl rfl (IN5 _) (by rw [FC_size]; rfl) (FC_one _ _) ?_) | (refine wpList_load_row (by rfl) 26 (.tmp 8) (by rfl) _ (by rfl) _ _ _ _ S.out.a0 UN5 rfl (IN5 _) ?_))
        refine (H3.out _).mono ?_
        rintro e w3 ⟨rfl, hb3⟩
        have S := Lib.hid (SQ.keep S.out hb3)
        clear hb3
        have S0 := Lib.hid S.out
        have S := Lib.hid (S.out.put (c' := (FC 5 fun _ => 0).toArray) (by have := hg.out; omega) (by intro p hp; have := hg.out; simp at hp; rcases hp with rfl | rfl | rfl <;> simp <;> omega))
        go_wp2_with (first | (refine wpList_store_row (by rfl) 26 _ _ rfl _ (FC 5 (fun _ => 0)).toArray rfl rfl _ _ S0.out.a0 (IN5 _) (SZ5 _ _) (FC_one 5 _) ?_) | (refine wpList_store_row (by rfl) 26 _ _ rfl _ (FC 5 (fun _ => 0)).toArray rfl rfl _ _ S.out.a2 (IN5 _) (SZ5 _ _) (FC_one 5 _) ?_))
        exact bodyPost_ret (res_cell_tmp 4 5 26 _ _ rfl rfl (ld5 S.out.a2)) rfl ⟨by rw [HE.out]; rfl, below_setRow S.out.2 (by omega)⟩
    · have HE : Hid (LR (X * y) = .tuple #[UV 5 0, .bool false]) := Lib.hid (LR_no (fun h => f2 (by have := HP.out; omega)))
      rw [show fits (X * yh) = false from decide_eq_false f2] at H2
      clear f1 f2 HP H3 H4 G1
      generalize X * yl = P at *
      generalize X * yh = Q at *
      unfold UV at *
      rw [lb_zero] at HE
      go_enter Try.func46, Try.ntmps46
      go_wp2_with (first | (refine wpList_load_row (by rfl) 26 (.tmp 2) (by rfl) _ (by rfl) _ _ _ _ S.out.a1 UN5 rfl (IN5 _) ?_))
      refine (H1.out _).mono ?_
      rintro e w1 ⟨rfl, hb1⟩
      have S := Lib.hid (SQ.keep S.out hb1)
      have HLT := Lib.hid (show w.heap.size + 1 < w1.heap.size from FB.lt (f := fun _ => 0) S.out.a0)
      have S := Lib.hid (S.out.alloc (oL (lb P)))
      clear hb1
      go_wp2_with (first | (refine wpList_store_last rfl 26 _ _ rfl _ (FC 5 (lb P)).toArray rfl rfl (IN5 _) (by rw [FC_size]; rfl) (FC_one _ _) ?_) | (refine wpList_load_row (by rfl) 26 (.tmp 2) (by rfl) _ (by rfl) _ _ _ _ S.out.a2 UN5 rfl (IN5 _) ?_))
      refine (H2.out _).mono ?_
      rintro e w2 ⟨rfl, hb2⟩
      have S := Lib.hid (SQ.keep S.out hb2)
      have S := Lib.hid (S.out.alloc (oL (lb Q)))
      have hg := Lib.hid (show w.heap.size + 1 < w1.heap.size ∧ w1.heap.size < w2.heap.size from ⟨HLT.out, Nat.lt_of_lt_of_le (by simp) hb2.size⟩)
      clear hb2
      go_wp2_with (first | (refine wpList_store_last rfl 26 _ _ rfl _ (FC 5 (lb Q)).toArray rfl rfl (IN5 _) (by rw [FC_size]; rfl) (FC_one _ _) ?_) | (refine wpList_store_row (by rfl) 26 _ _ rfl _ (FC 5 (fun _ => 0)).toArray rfl rfl _ _ S.out.a2 (IN5 _) (SZ5 _ _) (FC_one 5 _) ?_))
      exact bodyPost_ret (res_cell_tmp 4 5 26 _ _ rfl rfl (ld5 S.out.a2)) rfl ⟨by rw [HE.out]; rfl, below_setRow S.out.2 (by omega)⟩
  · have HE : Hid (LR (X * y) = .tuple #[UV 5 0, .bool false]) := Lib.hid (LR_no (fun h => f1 (by have := HP.out; omega)))
    rw [show fits (X * yl) = false from decide_eq_false f1] at H1
    clear f1 HP H2 H3 H4
    generalize X * yl = P at *
    unfold UV at *
    rw [lb_zero] at HE
    go_enter Try.func46, Try.ntmps46
    go_wp2_with (first | (refine wpList_load_row (by rfl) 26 (.tmp 2) (by rfl) _ (by rfl) _ _ _ _ S.out.a1 UN5 rfl (IN5 _) ?_))
    refine (H1.out _).mono ?_
    rintro e w1 ⟨rfl, hb1⟩
    have S := Lib.hid (SQ.keep S.out hb1)
    have HLT := Lib.hid (show w.heap.size + 1 < w1.heap.size from FB.lt (f := fun _ => 0) S.out.a0)
    have S := Lib.hid (S.out.alloc (oL (lb P)))
    clear hb1
    go_wp2_with (first | (refine wpList_store_last rfl 26 _ _ rfl _ (FC 5 (lb P)).toArray rfl rfl (IN5 _) (by rw [FC_size]; rfl) (FC_one _ _) ?_) | (refine wpList_store_row (by rfl) 26 _ _ rfl _ (FC 5 (fun _ => 0)).toArray rfl rfl _ _ S.out.a1 (IN5 _) (SZ5 _ _) (FC_one 5 _) ?_))
    exact bodyPost_ret (res_cell_tmp 4 5 26 _ _ rfl rfl (ld5 S.out.a1)) rfl ⟨by rw [HE.out]; rfl, below_setRow S.out.2 (by omega)⟩
end Go.Proofs.Ytfelbjiflceopaa.Lg
