/- The walks of chapter 6's comparisons. -/
import Derived.Test.YtfelbjiflceopaaRt
import Derived.Deep.RegionHeld3
import Derived.Test.YtfelbjiflceopaaStep
import Derived.Test.YtfelbjiflceopaaSq
namespace Go.Proofs.Ytfelbjiflceopaa.Rt
open Go.RowKit Go.Proofs.Ytfelbjiflceopaa.Mk Go.Proofs.Ytfelbjiflceopaa.Ul Go.Proofs.Ytfelbjiflceopaa.Wi Go.Proofs.Ytfelbjiflceopaa.Lg
/-- both sides -/
def sdX (n : Nat) (up a b : Int) : Nat := if mayR a b = true then prodX n b.toNat up else 0
def sdY (d : Nat) (a b : Int) : Nat := if mayR a b = true then d * (b - a).toNat else 0
theorem sdX_lt {n : Nat} (up a b : Int) (hn : n < 4294967296) : sdX n up a b < (2 ^ 64) ^ 5 := by
  unfold sdX
  split
  · rename_i h
    have := mayR_iff.1 h
    exact prodX_lt up hn (by omega)
  · exact Nat.pow_pos (by decide)
theorem sdY_lt {d : Nat} (a b : Int) (hd : d < 4294967296) : sdY d a b < (2 ^ 64) ^ 5 := by
  unfold sdY
  split
  · rename_i h
    have := mayR_iff.1 h
    exact nb_lt hd (by omega)
  · exact Nat.pow_pos (by decide)
theorem above_sd (n d : Nat) (up a b : Int) : aboveR n d up a b = ((mayR a b && upR up) && decide (0 < cmpI (sdX n up a b) (sdY d a b))) := by
  unfold aboveR sdX sdY prodX
  cases hm : mayR a b <;> cases hu : upR up <;> simp
  rw [cmpI_pos]
theorem least_sd (n d : Nat) (up a b : Int) : leastR n d up a b = ((mayR a b && upR up) && decide (0 ≤ cmpI (sdX n up a b) (sdY d a b))) := by
  unfold leastR sdX sdY prodX
  cases hm : mayR a b <;> cases hu : upR up <;> simp
  rw [cmpI_nn]
set_option maxHeartbeats 8000000 in
set_option maxRecDepth 100000 in
theorem sides_calls (n d : Nat) (up a b : Int) (w : World) (hn : n < 4294967296) (hd : d < 4294967296) :
    Calls Try.prog 45 #[.int .u32 n, .int .u32 d, .int .i64 up, .int .i64 a, .int .i64 b] w fun e w' => e = .returned (.tuple #[UV 5 (sdX n up a b), UV 5 (sdY d a b), .bool (mayR a b && upR up)]) ∧ Below w.heap.size w w' := by
  have A1 := Lib.hid (fun w => may6_calls a b w)
  have hx : sdX n up a b = if mayR a b = true then prodX n b.toNat up else 0 := rfl
  have hy : sdY d a b = if mayR a b = true then d * (b - a).toNat else 0 := rfl
  have S0 := Lib.hid (SQ.new2 w (oL fun _ => 0) (oL fun _ => 0))
  cases hm : mayR a b with
  | false =>
    rw [hm] at A1
    rw [if_neg (by rw [hm]; decide)] at hx hy
    rw [hx, hy]
    clear hx hy hm
    unfold UV
    rw [lb_zero]
    go_enter Try.func45, Try.ntmps45
    go_wp2_with fail
    refine (A1.out _).mono ?_
    rintro e w1 ⟨rfl, rfl⟩
    have S1 := Lib.hid (S0.out.swap.put (c' := (FC 5 fun _ => 0).toArray) (Nat.le_refl _) (by intro p hp; simp at hp; rw [hp]; simp))
    have S2 := Lib.hid (S1.out.swap.put (c' := (FC 5 fun _ => 0).toArray) (by omega) (by intro p hp; simp at hp; rw [hp]; simp))
    go_wp2_with (first | (refine wpList_value (by rfl) _ (build_L rfl) ?_) | (refine wpList_store_row (by rfl) 26 _ _ rfl _ (FC 5 (fun _ => 0)).toArray rfl rfl _ _ S0.out.a1 (IN5 _) (SZ5 _ _) (FC_one 5 _) ?_) | (refine wpList_store_row (by rfl) 26 _ _ rfl _ (FC 5 (fun _ => 0)).toArray rfl rfl _ _ S1.out.a1 (IN5 _) (SZ5 _ _) (FC_one 5 _) ?_))
    exact bodyPost_ret (res_cell_cell_tmp 10 11 12 26 26 ⟨w.heap.size, 0, none⟩ ⟨w.heap.size + 1, 0, none⟩ _ _ rfl rfl rfl (ld5w S2.out.a1) (ld5w S2.out.a0)) rfl ⟨rfl, S2.out.2⟩
  | true =>
    rw [hm] at A1
    rw [if_pos hm] at hx hy
    obtain ⟨m0, m1, m2⟩ := mayR_iff.1 hm
    obtain ⟨B, rfl⟩ := Int.eq_ofNat_of_zero_le (show 0 ≤ b by omega)
    obtain ⟨D, hD⟩ := Int.eq_ofNat_of_zero_le (show 0 ≤ (B : Int) - a by omega)
    have A2 := Lib.hid (fun w => product_calls n B up w hn (by omega))
    have A3 := (fun w => product_calls d D 0 w hd (by omega))
    have e0 : prodX d D 0 = d * D := by
      unfold prodX
      rw [if_pos (by decide)]
      simp
    rw [e0, show upR 0 = true from rfl] at A3
    have A3 := Lib.hid A3
    rw [Int.toNat_natCast] at hx
    rw [hD, Int.toNat_natCast] at hy
    rw [hx, hy]
    have w1 : IntKind.u32.wrap (B : Int) = (B : Int) := by rw [IntKind.wrap_u32]; omega
    have w2 : IntKind.u32.wrap ((B : Int) - a) = (D : Int) := by rw [IntKind.wrap_u32]; omega
    rw [Bool.true_and]
    clear hx hy hm e0 hn hd hD
    generalize prodX n B up = X at *
    generalize d * D = Y at *
    generalize upR up = q at *
    unfold UV at *
    go_enter Try.func45, Try.ntmps45
    go_wp2_with fail
    refine (A1.out _).mono ?_
    rintro e w1 ⟨rfl, rfl⟩
    go_wp2_with fail
    refine (A2.out _).mono ?_
    rintro e w2 ⟨rfl, hb2⟩
    have hz2 := hb2.size
    have S := Lib.hid ((S0.out.keep hb2).alloc (oL (lb X)))
    clear hb2
    go_wp2_with (first | (refine wpList_store_last rfl 26 _ _ rfl _ (FC 5 (lb X)).toArray rfl rfl (IN5 _) (by rw [FC_size]; rfl) (FC_one _ _) ?_))
    refine (A3.out _).mono ?_
    rintro e w3 ⟨rfl, hb3⟩
    have hz3 := hb3.size
    have S := Lib.hid ((S.out.keep hb3).alloc (oL (lb Y)))
    clear hb3
    go_wp2_with (first | (refine wpList_store_last rfl 26 _ _ rfl _ (FC 5 (lb Y)).toArray rfl rfl (IN5 _) (by rw [FC_size]; rfl) (FC_one _ _) ?_))
    have S_W0 := (S.out.sub (L' := [(w3.heap.size, oL (lb Y)), (w2.heap.size, oL (lb X))]) (by intro p hp; simp at hp ⊢; rcases hp with h | h <;> simp [h])).drew
    have G_W0 : FB w.heap.size 5 (fun _ => 0) 26 (w3.alloc (oL (lb Y))).drew := S.out.a3
    have K_W0 : FB (w.heap.size + 1) 5 (fun _ => 0) 26 (w3.alloc (oL (lb Y))).drew := S.out.a2
    have hlt : w.heap.size + 1 < w2.heap.size ∧ w2.heap.size < w3.heap.size := by
      simp at hz2 hz3
      omega
    clear S0 S hz2 hz3 A1 A2 A3
    obtain ⟨L, hL⟩ : ∃ L, L = [(w3.heap.size, oL (lb Y)), (w2.heap.size, oL (lb X))] := ⟨_, rfl⟩
    rw [← hL] at S_W0
    have Q0 := Lib.hid (show ∀ wx, SQ L w wx → wx.heap[w2.heap.size]? = some (oL (lb X)) from fun wx hx => by rw [hL] at hx; exact hx.a1)
    have Q1 := Lib.hid (show ∀ wx, SQ L w wx → wx.heap[w3.heap.size]? = some (oL (lb Y)) from fun wx hx => by rw [hL] at hx; exact hx.a0)
    have HN0 : Hid (∀ p ∈ L, p.1 ≠ w.heap.size) := Lib.hid (fun p hp => by rw [hL] at hp; simp at hp; rcases hp with rfl | rfl <;> simp <;> omega)
    have HN1 : Hid (∀ p ∈ L, p.1 ≠ w.heap.size + 1) := Lib.hid (fun p hp => by rw [hL] at hp; simp at hp; rcases hp with rfl | rfl <;> simp <;> omega)
    clear hL
    refine wp_region_held_drew (S := SQ L w) (by kernel_rfl) S_W0 (fun hHeld => ?_)
    generalize World.drew (w3.alloc (oL (lb Y))) = W0 at *
    clear hHeld
    refine wpAnyH_take (i := 0) (oi := ⟨some 40, _, _, _, _, _⟩) (v := .agg (FC 5 (lb X)).toArray) rfl (by kernel_rfl) (by kernel_rfl) (by kernel_rfl) (fun _ _ _ h => h) (yieldsIf_load_mid (by rfl) 26 _ rfl (w2.heap.size) 0 rfl (FC 5 (lb X)) _ (fun wx hx => range_row (Q0.out _ hx)) UN5 rfl (by rw [FC_len]; kernel_rfl)) (by assumption) ?_
    try simp only [Act.put, List.setIfInBounds_toArray, List.set_cons_zero, List.set_cons_succ]
    refine wpAnyH_take (i := 1) (oi := ⟨some 41, _, _, _, _, _⟩) (v := .agg (FC 5 (lb Y)).toArray) rfl (by kernel_rfl) (by kernel_rfl) (by kernel_rfl) (fun _ _ _ h => h) (yieldsIf_load_mid (by rfl) 26 _ rfl (w3.heap.size) 0 rfl (FC 5 (lb Y)) _ (fun wx hx => range_row (Q1.out _ hx)) UN5 rfl (by rw [FC_len]; kernel_rfl)) (by assumption) ?_
    try simp only [Act.put, List.setIfInBounds_toArray, List.set_cons_zero, List.set_cons_succ]
    refine wpAnyH_take (i := 2) (oi := ⟨some 42, _, _, _, _, _⟩) (v := .bool q) rfl (by kernel_rfl) (by kernel_rfl) (by kernel_rfl) (fun _ _ _ h => h) (Or.inl ⟨by rfl, by intro wx _; go_simp⟩) (by assumption) ?_
    try simp only [Act.put, List.setIfInBounds_toArray, List.set_cons_zero, List.set_cons_succ]
    refine wpAnyH_ready (rs := [3]) (by kernel_rfl) (by simp) ?_
    refine AllReadyH.cons rfl (fun K hK => ?_) AllReadyH.nil
    · refine step_store rfl 26 _ _ rfl _ rfl (.agg (FC 5 (lb X)).toArray) rfl _ (run_storeAt_row (cells := (FC 5 (lb X)).toArray) G_W0 (IN5 _) (SZ5 _ _) (FC_one _ _)) ?_
      generalize hW1 : World.setRow W0 _ _ = V1
      have S_V1 := hW1 ▸ S_W0.row (by omega) HN0.out
      have G_V1 := hW1 ▸ setRow_heap _ _ _ _ _ _ G_W0
      have K_V1 := hW1 ▸ FB.row' K_W0 (by omega)
      try dsimp only
      refine hK.out _ _ S_V1 (fun _ => ?_)
      clear hK K
      refine wpAnyH_ready (rs := [4]) (by kernel_rfl) (by simp) ?_
      refine AllReadyH.cons rfl (fun K hK => ?_) AllReadyH.nil
      · refine step_store rfl 26 _ _ rfl _ rfl (.agg (FC 5 (lb Y)).toArray) rfl _ (run_storeAt_row (cells := (FC 5 (lb Y)).toArray) K_V1 (IN5 _) (SZ5 _ _) (FC_one _ _)) ?_
        generalize hW2 : World.setRow V1 _ _ = V2
        have S_V2 := hW2 ▸ S_V1.row (by omega) HN1.out
        have G_V2 := hW2 ▸ (setRow_other _ _ _ _ (by omega)).trans G_V1
        have K_V2 := hW2 ▸ setRow_heap _ _ _ _ _ _ K_V1
        try dsimp only
        refine hK.out _ _ S_V2 (fun _ => ?_)
        clear hK K
        refine wpAnyH_take (i := 5) (oi := ⟨some 12, _, _, _, _, _⟩) (v := .bool q) rfl (by kernel_rfl) (by kernel_rfl) (by kernel_rfl) (fun _ _ _ h => h) (Or.inl ⟨by rfl, by intro wx _; go_simp⟩) (by assumption) ?_
        refine wpAnyH_done (by kernel_rfl) ?_ _
        go_wp2_with fail
        exact bodyPost_ret (res_cell_cell_tmp 10 11 12 26 26 ⟨w.heap.size, 0, none⟩ ⟨w.heap.size + 1, 0, none⟩ _ _ rfl rfl rfl (ld5w G_V2) (ld5w K_V2)) rfl ⟨rfl, S_V2.2⟩
set_option maxHeartbeats 4000000 in
set_option maxRecDepth 100000 in
theorem above_calls (n d : Nat) (up a b : Int) (w : World) (hn : n < 4294967296) (hd : d < 4294967296) :
    Calls Try.prog 26 #[.int .u32 n, .int .u32 d, .int .i64 up, .int .i64 a, .int .i64 b] w fun e w' => e = .returned (.bool (aboveR n d up a b)) ∧ Below w.heap.size w w' := by
  have A1 := Lib.hid (fun w => sides_calls n d up a b w hn hd)
  have A2 := Lib.hid (fun w => lcmp_calls (sdX n up a b) (sdY d a b) w (sdX_lt up a b hn) (sdY_lt a b hd))
  rw [above_sd]
  clear hn hd
  generalize (mayR a b && upR up) = q at *
  generalize cmpI (sdX n up a b) (sdY d a b) = c at *
  generalize sdX n up a b = X at *
  generalize sdY d a b = Y at *
  unfold UV at *
  cases q
  all_goals
    go_enter Try.func26, Try.ntmps26
    go_wp2_with fail
    refine (A1.out _).mono ?_
    rintro e w1 ⟨rfl, hb1⟩
    have S := Lib.hid (((SQ.nil w).keep hb1).alloc2 (oL fun _ => 0) (oL fun _ => 0))
    have hz := hb1.size
    clear hb1
    have S1 := Lib.hid (S.out.swap.put (c' := (FC 5 (lb X)).toArray) hz (by intro p hp; simp at hp; rw [hp]; simp))
    have S2 := Lib.hid (S1.out.swap.put (c' := (FC 5 (lb Y)).toArray) (by omega) (by intro p hp; simp at hp; rw [hp]; simp))
    clear hz
  · go_wp2_with (first | (refine wpList_store_row (by rfl) 26 _ _ rfl _ (FC 5 (lb X)).toArray rfl rfl _ _ S.out.a1 (IN5 _) (SZ5 _ _) (FC_one 5 _) ?_) | (refine wpList_store_row (by rfl) 26 _ _ rfl _ (FC 5 (lb Y)).toArray rfl rfl _ _ S1.out.a1 (IN5 _) (SZ5 _ _) (FC_one 5 _) ?_))
    go_ret
    exact ⟨ret_bool (by simp), S2.out.2⟩
  · go_wp2_with (first | (refine wpList_store_row (by rfl) 26 _ _ rfl _ (FC 5 (lb X)).toArray rfl rfl _ _ S.out.a1 (IN5 _) (SZ5 _ _) (FC_one 5 _) ?_) | (refine wpList_store_row (by rfl) 26 _ _ rfl _ (FC 5 (lb Y)).toArray rfl rfl _ _ S1.out.a1 (IN5 _) (SZ5 _ _) (FC_one 5 _) ?_) | (refine wpList_loadg (by rfl) 26 (.tmp 11) (by rfl) _ (by rfl) _ (ldAt5 S2.out.a1) ?_) | (refine wpList_loadg (by rfl) 26 (.tmp 12) (by rfl) _ (by rfl) _ (ldAt5 S2.out.a0) ?_))
    refine (A2.out _).mono ?_
    rintro e w2 ⟨rfl, hb2⟩
    have S2 := Lib.hid (S2.out.keep hb2)
    clear hb2
    go_wp2_with fail
    go_ret
    exact ⟨ret_bool (by simp), S2.out.2⟩
set_option maxHeartbeats 4000000 in
set_option maxRecDepth 100000 in
theorem least_calls (n d : Nat) (up a b : Int) (w : World) (hn : n < 4294967296) (hd : d < 4294967296) :
    Calls Try.prog 27 #[.int .u32 n, .int .u32 d, .int .i64 up, .int .i64 a, .int .i64 b] w fun e w' => e = .returned (.bool (leastR n d up a b)) ∧ Below w.heap.size w w' := by
  have A1 := Lib.hid (fun w => sides_calls n d up a b w hn hd)
  have A2 := Lib.hid (fun w => lcmp_calls (sdX n up a b) (sdY d a b) w (sdX_lt up a b hn) (sdY_lt a b hd))
  rw [least_sd]
  clear hn hd
  generalize (mayR a b && upR up) = q at *
  generalize cmpI (sdX n up a b) (sdY d a b) = c at *
  generalize sdX n up a b = X at *
  generalize sdY d a b = Y at *
  unfold UV at *
  cases q
  all_goals
    go_enter Try.func27, Try.ntmps27
    go_wp2_with fail
    refine (A1.out _).mono ?_
    rintro e w1 ⟨rfl, hb1⟩
    have S := Lib.hid (((SQ.nil w).keep hb1).alloc2 (oL fun _ => 0) (oL fun _ => 0))
    have hz := hb1.size
    clear hb1
    have S1 := Lib.hid (S.out.swap.put (c' := (FC 5 (lb X)).toArray) hz (by intro p hp; simp at hp; rw [hp]; simp))
    have S2 := Lib.hid (S1.out.swap.put (c' := (FC 5 (lb Y)).toArray) (by omega) (by intro p hp; simp at hp; rw [hp]; simp))
    clear hz
  · go_wp2_with (first | (refine wpList_store_row (by rfl) 26 _ _ rfl _ (FC 5 (lb X)).toArray rfl rfl _ _ S.out.a1 (IN5 _) (SZ5 _ _) (FC_one 5 _) ?_) | (refine wpList_store_row (by rfl) 26 _ _ rfl _ (FC 5 (lb Y)).toArray rfl rfl _ _ S1.out.a1 (IN5 _) (SZ5 _ _) (FC_one 5 _) ?_))
    go_ret
    exact ⟨ret_bool (by simp), S2.out.2⟩
  · go_wp2_with (first | (refine wpList_store_row (by rfl) 26 _ _ rfl _ (FC 5 (lb X)).toArray rfl rfl _ _ S.out.a1 (IN5 _) (SZ5 _ _) (FC_one 5 _) ?_) | (refine wpList_store_row (by rfl) 26 _ _ rfl _ (FC 5 (lb Y)).toArray rfl rfl _ _ S1.out.a1 (IN5 _) (SZ5 _ _) (FC_one 5 _) ?_) | (refine wpList_loadg (by rfl) 26 (.tmp 11) (by rfl) _ (by rfl) _ (ldAt5 S2.out.a1) ?_) | (refine wpList_loadg (by rfl) 26 (.tmp 12) (by rfl) _ (by rfl) _ (ldAt5 S2.out.a0) ?_))
    refine (A2.out _).mono ?_
    rintro e w2 ⟨rfl, hb2⟩
    have S2 := Lib.hid (S2.out.keep hb2)
    clear hb2
    go_wp2_with fail
    go_ret
    exact ⟨ret_bool (by simp), S2.out.2⟩
set_option maxHeartbeats 4000000 in
theorem awake6_calls (w : World) : Calls Try.prog 28 #[] w fun e w' => e = .returned (.bool true) ∧ Below w.heap.size w w' := by
  have A1 := Lib.hid (fun w => (show aboveR 1 2 0 1 2 = false by decide +kernel) ▸ above_calls 1 2 0 1 2 w (by decide) (by decide))
  have A2 := Lib.hid (fun w => (show leastR 1 2 0 1 2 = true by decide +kernel) ▸ least_calls 1 2 0 1 2 w (by decide) (by decide))
  have A3 := Lib.hid (fun w => (show aboveR 1 2 1 1 2 = true by decide +kernel) ▸ above_calls 1 2 1 1 2 w (by decide) (by decide))
  go_enter Try.func28, Try.ntmps28
  go_wp2_with fail
  refine (A1.out _).mono ?_
  rintro e w1 ⟨rfl, hb1⟩
  have B1 := Lib.hid hb1
  clear hb1
  go_wp2_with fail
  refine (A2.out _).mono ?_
  rintro e w2 ⟨rfl, hb2⟩
  have B2 := Lib.hid (below_up B1.out hb2)
  clear hb2
  go_wp2_with fail
  refine (A3.out _).mono ?_
  rintro e w3 ⟨rfl, hb3⟩
  have B3 := Lib.hid (below_up B2.out hb3)
  clear hb3
  go_wp2_with fail
  go_ret
  exact ⟨rfl, B3.out⟩
end Go.Proofs.Ytfelbjiflceopaa.Rt
