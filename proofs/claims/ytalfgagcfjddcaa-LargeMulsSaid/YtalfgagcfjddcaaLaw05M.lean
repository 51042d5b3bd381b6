/- The walk of chapter 5's law LargeMuls. -/
import Derived.Test.YtalfgagcfjddcaaLaw05A
namespace Go.Proofs.Ytalfgagcfjddcaa.Lg
open Go.RowKit Go.Proofs.Ytalfgagcfjddcaa.Mk Go.Proofs.Ytalfgagcfjddcaa.Ul Go.Proofs.Ytalfgagcfjddcaa.Wi Go.Proofs.Ytalfgagcfjddcaa.Wd Go.Proofs.Ytalfgagcfjddcaa.R5
theorem dn_64 {y : Nat} (h : y < 18446744073709551616) : dn y ≤ 1000 := Nat.le_trans ((dn_le 4 y).2 (Nat.lt_of_lt_of_le h (by decide))) (by decide)
theorem dn_pow_le {n : Nat} (h : n ≤ 1000) : dn (2 ^ n) ≤ 1000 := by rw [dn_pow]; omega
theorem shl_far {X : Nat} {n : Int} (h : 400 < n) (hX : X ≠ 0) : shlV X n = .tuple #[UV 5 0, .bool false] := by
  rw [shlV_pos (by omega), LR_no]
  obtain ⟨k, hk⟩ : ∃ k, k = n.toNat := ⟨_, rfl⟩
  rw [← hk]
  intro h2
  have h3 := bl320 h2
  rw [bl_shl hX] at h3
  omega
theorem shl_none {n : Int} (h : 400 < n) : shlV 0 n = .tuple #[UV 5 0, .bool true] := by
  rw [shlV_pos (by omega), Nat.zero_mul, LR_yes (Nat.pow_pos (by decide))]
set_option maxHeartbeats 8000000 in
set_option maxRecDepth 100000 in
theorem largeMuls_calls (X y : Nat) (n : Int) (w : World) (hX : X < (2 ^ 64) ^ 5) (hy : y < 18446744073709551616) : Calls Try.prog 11 #[UV 5 X, .int .u64 y, .int .i64 n] w fun e w' => e = .returned (.bool true) ∧ Below w.heap.size w w' := by
  have S0 := Lib.hid (SQ.new w (oL (lb X)))
  have HM := Lib.hid (limbs_calls X w.heap.size 0 5 5 (w.alloc (oL (lb X))) hX (by decide) (by decide) (LB.of _ S0.out.a0))
  have A1 := Lib.hid (fun w => mul_calls X y w hX hy)
  have A2 := Lib.hid (fun w => r5of_calls y w hy)
  have A3 := Lib.hid (fun v1 v2 w h1 h2 => r5mul_calls X y v1 v2 w h1 h2 (dn_lim hX) (dn_64 hy))
  have A4 := Lib.hid (fun v w h => same5_calls (X * y) v w h)
  have A5 := Lib.hid (fun w => shl_calls X n w hX)
  have A6 := Lib.hid (fun v1 v2 w h1 h2 (hn : n.toNat ≤ 1000) => r5mul_calls X (2 ^ n.toNat) v1 v2 w h1 h2 (dn_lim hX) (dn_pow_le hn))
  have A7 := Lib.hid (fun v w h => same5_calls (X * 2 ^ n.toNat) v w h)
  have A8 := Lib.hid (fun w => awake5_calls w)
  have A9 := Lib.hid (fun w (hn : n.toNat ≤ 1000) => r5pow_calls n.toNat w hn)
  clear hX hy
  unfold LR at A1
  unfold UV at *
  generalize lb (okX (fits (X * y)) (X * y)) = fz at *
  generalize fits (X * y) = b at *
  obtain ⟨fx, hfx⟩ : ∃ f, f = lb X := ⟨_, rfl⟩
  rw [← hfx] at S0 HM A1 A5 ⊢
  clear hfx
  go_enter Try.func11, Try.ntmps11
  go_wp2_with fail
  refine HM.out.mono ?_
  rintro e w1 ⟨v, rfl, R, hb1⟩
  have S := Lib.hid (S0.out.keep hb1)
  have R := Lib.hid R
  clear hb1 HM S0
  go_wp2_with (refine wpList_load_row (by rfl) 49 (.tmp 3) (by rfl) _ (by rfl) _ _ _ _ S.out.a0 UN5 rfl (IN5 _) ?_)
  refine (A1.out _).mono ?_
  rintro e w2 ⟨rfl, hb2⟩
  have S := Lib.hid ((S.out.keep hb2).alloc (oL fz))
  have R := Lib.hid ((R.out.below hb2).below (bl1 w2 (oL fz)))
  clear hb2 A1
  go_wp2_with (refine wpList_store_last rfl 49 _ _ rfl _ (FC 5 fz).toArray rfl rfl (IN5 _) (by rw [FC_size]; rfl) (FC_one _ _) ?_)
  go_cut [27] (fun s27 wx => s27 = .bool false ∧ Hid (SQ [(w.heap.size, oL fx)] w wx) ∧ Hid (DV wx v X))
  case first =>
    have S_W0 := S.out.drew
    have R_W0 := R.out.below (Below.refl _ _).drew
    clear R S
    obtain ⟨L, hL⟩ : ∃ L, L = [(w2.heap.size, oL fz), (w.heap.size, oL fx)] := ⟨_, rfl⟩
    rw [← hL] at S_W0
    have Q0 := Lib.hid (show ∀ wx, SQ L w wx → wx.heap[w2.heap.size]? = some (oL fz) from fun wx hx => by rw [hL] at hx; exact hx.a0)
    have Q1 := Lib.hid (show ∀ wx, SQ L w wx → SQ [(w.heap.size, oL fx)] w wx from fun wx hx => by rw [hL] at hx; exact hx.tail)
    clear hL
    refine wp_region_held_drew (S := SQ L w) (by kernel_rfl) S_W0 (fun hHeld => ?_)
    generalize World.drew (w2.alloc (oL fz)) = W0 at *
    clear hHeld
    refine wpAnyH_take (i := 0) (oi := ⟨some 20, _, _, _, _, _⟩) (v := .agg (FC 5 fz).toArray) rfl (by kernel_rfl) (by kernel_rfl) (by kernel_rfl) (fun _ _ _ h => h) (yieldsIf_load_mid (by rfl) 49 _ rfl (w2.heap.size) 0 rfl (FC 5 fz) _ (fun wx hx => range_row (Q0.out _ hx)) UN5 rfl (by rw [FC_len]; kernel_rfl)) (by assumption) ?_
    try simp only [Act.put, List.setIfInBounds_toArray, List.set_cons_zero, List.set_cons_succ]
    refine wpAnyH_take (i := 1) (oi := ⟨some 21, _, _, _, _, _⟩) (v := .bool b) rfl (by kernel_rfl) (by kernel_rfl) (by kernel_rfl) (fun _ _ _ h => h) (Or.inl ⟨by rfl, by intro wx _; go_simp⟩) (by assumption) ?_
    try simp only [Act.put, List.setIfInBounds_toArray, List.set_cons_zero, List.set_cons_succ]
    refine wpAnyH_take (i := 2) (oi := ⟨some 22, _, _, _, _, _⟩) (v := v) rfl (by kernel_rfl) (by kernel_rfl) (by kernel_rfl) (fun _ _ _ h => h) (Or.inl ⟨by rfl, by intro wx _; go_simp⟩) (by assumption) ?_
    try simp only [Act.put, List.setIfInBounds_toArray, List.set_cons_zero, List.set_cons_succ]
    refine wpAnyH_take (i := 3) (oi := ⟨some 23, _, _, _, _, _⟩) (v := .int .u64 y) rfl (by kernel_rfl) (by kernel_rfl) (by kernel_rfl) (fun _ _ _ h => h) (Or.inl ⟨by rfl, by intro wx _; go_simp⟩) (by assumption) ?_
    try simp only [Act.put, List.setIfInBounds_toArray, List.set_cons_zero, List.set_cons_succ]
    refine wpAnyH_ready (rs := [4]) (by kernel_rfl) (by simp) ?_
    refine AllReadyH.cons rfl (fun K hK => ?_) AllReadyH.nil
    · go_simp
      go_at_call 46
      refine (A2.out _).mono ?_
      rintro r V1 ⟨v3, rfl, P_V1, hb1⟩
      have S_V1 := S_W0.keep hb1
      have R_V1 := R_W0.below hb1
      try dsimp only
      refine hK.out _ _ S_V1 (fun _ => ?_)
      clear hK K
      refine wpAnyH_ready (rs := [5]) (by kernel_rfl) (by simp) ?_
      refine AllReadyH.cons rfl (fun K hK => ?_) AllReadyH.nil
      · go_simp
        go_at_call 45
        refine (A3.out _ _ _ R_V1 P_V1).mono ?_
        rintro r V2 ⟨v4, rfl, T_V2, hb2⟩
        have S_V2 := S_V1.keep hb2
        have R_V2 := R_V1.below hb2
        have P_V2 := P_V1.below hb2
        try dsimp only
        refine hK.out _ _ S_V2 (fun _ => ?_)
        clear hK K
        refine wpAnyH_ready (rs := [6]) (by kernel_rfl) (by simp) ?_
        refine AllReadyH.cons rfl (fun K hK => ?_) AllReadyH.nil
        · go_simp
          go_at_call 35
          refine (A4.out _ _ T_V2).mono ?_
          rintro r V3 ⟨rfl, hb3⟩
          have S_V3 := S_V2.keep hb3
          have R_V3 := R_V2.below hb3
          have P_V3 := P_V2.below hb3
          have T_V3 := T_V2.below hb3
          try dsimp only
          refine hK.out _ _ S_V3 (fun _ => ?_)
          clear hK K
          refine wpAnyH_take (i := 7) (oi := ⟨some 27, _, _, _, _, _⟩) (v := .bool false) rfl (by kernel_rfl) (by kernel_rfl) (by kernel_rfl) (fun _ _ _ h => h) (Or.inl ⟨by rfl, by intro wx _; go_simp⟩) (by assumption) ?_
          refine wpAnyH_done (by kernel_rfl) ?_ _
          go_wp2_with fail
          go_meet
          exact ⟨rfl, Lib.hid (Q1.out _ S_V3), Lib.hid R_V3⟩
  case rest =>
    obtain ⟨rfl, S, R⟩ := hcut
    clear A2 A3 A4
    have q1 := eqL0 (Z := 0) (Nat.pow_pos (by decide))
    rw [decide_eq_true rfl] at q1
    have q2 := eqLg
    by_cases c1 : n < 0
    · rw [shlV_neg c1] at A5
      unfold UV at A5
      clear A6 A7 A9
      have c2 : ¬ 0 < n := by omega
      go_wp2_with (refine wpList_load_row (by rfl) 49 (.tmp 3) (by rfl) _ (by rfl) _ _ _ _ S.out.a0 UN5 rfl (IN5 _) ?_)
      refine (A5.out _).mono ?_
      rintro e w3 ⟨rfl, hb3⟩
      have S := Lib.hid ((S.out.keep hb3).alloc (oL (lb 0)))
      clear hb3
      go_wp2_with (first | (refine wpList_store_last rfl 49 _ _ rfl _ (FC 5 (lb 0)).toArray rfl rfl (IN5 _) (by rw [FC_size]; rfl) (FC_one _ _) ?_) | (refine wpList_loadg (by rfl) 49 (.tmp 10) (by rfl) _ (by rfl) _ (ldAt5 S.out.a0) ?_))
      refine (A8.out _).mono ?_
      rintro e w4 ⟨rfl, hb4⟩
      have S := Lib.hid (S.out.keep hb4)
      clear hb4
      go_wp2_with fail
      go_ret
      exact ⟨rfl, S.out.2⟩
    · by_cases c3 : 400 < n
      · have c2 : 0 < n := by omega
        clear A6 A7 A9
        obtain ⟨A, g, o, c, rfl, hlc, hcm, _, _⟩ := R.out.cells
        clear R
        by_cases h0 : X = 0
        · subst h0
          rw [shl_none c3] at A5
          rw [show dn 0 = 0 from congrArg List.length dl_zero] at *
          unfold UV at A5
          go_wp2_with (refine wpList_load_row (by rfl) 49 (.tmp 3) (by rfl) _ (by rfl) _ _ _ _ S.out.a0 UN5 rfl (IN5 _) ?_)
          refine (A5.out _).mono ?_
          rintro e w3 ⟨rfl, hb3⟩
          have S := Lib.hid ((S.out.keep hb3).alloc (oL (lb 0)))
          clear hb3
          go_wp2_with (first | (refine wpList_store_last rfl 49 _ _ rfl _ (FC 5 (lb 0)).toArray rfl rfl (IN5 _) (by rw [FC_size]; rfl) (FC_one _ _) ?_) | (refine wpList_loadg (by rfl) 49 (.tmp 10) (by rfl) _ (by rfl) _ (ldAt5 S.out.a0) ?_))
          refine (A8.out _).mono ?_
          rintro e w4 ⟨rfl, hb4⟩
          have S := Lib.hid (S.out.keep hb4)
          clear hb4
          go_wp2_with fail
          go_ret
          exact ⟨rfl, S.out.2⟩
        · rw [shl_far c3 h0] at A5
          have hd : (((dn X : Nat) : Int) == 0) = false := by
            rw [beq_eq_false_iff_ne]
            exact fun h => h0 (dn_zero (by omega))
          clear h0
          generalize dn X = d at *
          unfold UV at A5
          go_wp2_with (refine wpList_load_row (by rfl) 49 (.tmp 3) (by rfl) _ (by rfl) _ _ _ _ S.out.a0 UN5 rfl (IN5 _) ?_)
          refine (A5.out _).mono ?_
          rintro e w3 ⟨rfl, hb3⟩
          have S := Lib.hid ((S.out.keep hb3).alloc (oL (lb 0)))
          clear hb3
          go_wp2_with (first | (refine wpList_store_last rfl 49 _ _ rfl _ (FC 5 (lb 0)).toArray rfl rfl (IN5 _) (by rw [FC_size]; rfl) (FC_one _ _) ?_) | (refine wpList_loadg (by rfl) 49 (.tmp 10) (by rfl) _ (by rfl) _ (ldAt5 S.out.a0) ?_))
          refine (A8.out _).mono ?_
          rintro e w4 ⟨rfl, hb4⟩
          have S := Lib.hid (S.out.keep hb4)
          clear hb4
          go_wp2_with fail
          go_ret
          exact ⟨rfl, S.out.2⟩
      · obtain ⟨m, rfl⟩ := Int.eq_ofNat_of_zero_le (show 0 ≤ n by omega)
        rw [shlV_nat] at A5
        simp only [Int.toNat_natCast] at A6 A7 A9
        have hm : m ≤ 1000 := by omega
        have A6 := Lib.hid (fun v1 v2 w h1 h2 => A6.out v1 v2 w h1 h2 hm)
        have A9 := Lib.hid (fun w => A9.out w hm)
        have c4 : ¬ (400 : Int) < (m : Int) := c3
        have c5 : ¬ (m : Int) < 0 := c1
        clear c1 c3 hm q1 q2
        unfold LR UV at A5
        generalize lb (okX (fits (X * 2 ^ m)) (X * 2 ^ m)) = fs at *
        generalize fits (X * 2 ^ m) = b2 at *
        go_wp2_with (refine wpList_load_row (by rfl) 49 (.tmp 3) (by rfl) _ (by rfl) _ _ _ _ S.out.a0 UN5 rfl (IN5 _) ?_)
        refine (A5.out _).mono ?_
        rintro e w3 ⟨rfl, hb3⟩
        have S := Lib.hid ((S.out.keep hb3).alloc (oL fs))
        have R := Lib.hid ((R.out.below hb3).below (bl1 w3 (oL fs)))
        clear hb3 A5
        go_wp2_with (refine wpList_store_last rfl 49 _ _ rfl _ (FC 5 fs).toArray rfl rfl (IN5 _) (by rw [FC_size]; rfl) (FC_one _ _) ?_)
        have S_W0 := S.out.drew
        have R_W0 := R.out.below (Below.refl _ _).drew
        clear R S
        obtain ⟨L, hL⟩ : ∃ L, L = [(w3.heap.size, oL fs), (w.heap.size, oL fx)] := ⟨_, rfl⟩
        rw [← hL] at S_W0
        have Q0 := Lib.hid (show ∀ wx, SQ L w wx → wx.heap[w3.heap.size]? = some (oL fs) from fun wx hx => by rw [hL] at hx; exact hx.a0)
        clear hL
        refine wp_region_held_drew (S := SQ L w) (by kernel_rfl) S_W0 (fun hHeld => ?_)
        generalize World.drew (w3.alloc (oL fs)) = W0 at *
        clear hHeld
        refine wpAnyH_take (i := 0) (oi := ⟨some 57, _, _, _, _, _⟩) (v := .agg (FC 5 fs).toArray) rfl (by kernel_rfl) (by kernel_rfl) (by kernel_rfl) (fun _ _ _ h => h) (yieldsIf_load_mid (by rfl) 49 _ rfl (w3.heap.size) 0 rfl (FC 5 fs) _ (fun wx hx => range_row (Q0.out _ hx)) UN5 rfl (by rw [FC_len]; kernel_rfl)) (by assumption) ?_
        try simp only [Act.put, List.setIfInBounds_toArray, List.set_cons_zero, List.set_cons_succ]
        refine wpAnyH_take (i := 1) (oi := ⟨some 58, _, _, _, _, _⟩) (v := .bool b2) rfl (by kernel_rfl) (by kernel_rfl) (by kernel_rfl) (fun _ _ _ h => h) (Or.inl ⟨by rfl, by intro wx _; go_simp⟩) (by assumption) ?_
        try simp only [Act.put, List.setIfInBounds_toArray, List.set_cons_zero, List.set_cons_succ]
        refine wpAnyH_take (i := 2) (oi := ⟨some 59, _, _, _, _, _⟩) (v := v) rfl (by kernel_rfl) (by kernel_rfl) (by kernel_rfl) (fun _ _ _ h => h) (Or.inl ⟨by rfl, by intro wx _; go_simp⟩) (by assumption) ?_
        try simp only [Act.put, List.setIfInBounds_toArray, List.set_cons_zero, List.set_cons_succ]
        refine wpAnyH_take (i := 3) (oi := ⟨some 60, _, _, _, _, _⟩) (v := .int .i64 (m : Int)) rfl (by kernel_rfl) (by kernel_rfl) (by kernel_rfl) (fun _ _ _ h => h) (Or.inl ⟨by rfl, by intro wx _; go_simp⟩) (by assumption) ?_
        try simp only [Act.put, List.setIfInBounds_toArray, List.set_cons_zero, List.set_cons_succ]
        refine wpAnyH_ready (rs := [4]) (by kernel_rfl) (by simp) ?_
        refine AllReadyH.cons rfl (fun K hK => ?_) AllReadyH.nil
        · go_simp
          go_at_call 48
          refine (A9.out _).mono ?_
          rintro r V1 ⟨v3, rfl, P_V1, hb1⟩
          have S_V1 := S_W0.keep hb1
          have R_V1 := R_W0.below hb1
          try dsimp only
          refine hK.out _ _ S_V1 (fun _ => ?_)
          clear hK K
          refine wpAnyH_ready (rs := [5]) (by kernel_rfl) (by simp) ?_
          refine AllReadyH.cons rfl (fun K hK => ?_) AllReadyH.nil
          · go_simp
            go_at_call 45
            refine (A6.out _ _ _ R_V1 P_V1).mono ?_
            rintro r V2 ⟨v4, rfl, T_V2, hb2⟩
            have S_V2 := S_V1.keep hb2
            have R_V2 := R_V1.below hb2
            have P_V2 := P_V1.below hb2
            try dsimp only
            refine hK.out _ _ S_V2 (fun _ => ?_)
            clear hK K
            refine wpAnyH_ready (rs := [6]) (by kernel_rfl) (by simp) ?_
            refine AllReadyH.cons rfl (fun K hK => ?_) AllReadyH.nil
            · go_simp
              go_at_call 35
              refine (A7.out _ _ T_V2).mono ?_
              rintro r V3 ⟨rfl, hb3⟩
              have S_V3 := S_V2.keep hb3
              have R_V3 := R_V2.below hb3
              have P_V3 := P_V2.below hb3
              have T_V3 := T_V2.below hb3
              try dsimp only
              refine hK.out _ _ S_V3 (fun _ => ?_)
              clear hK K
              refine wpAnyH_take (i := 7) (oi := ⟨some 64, _, _, _, _, _⟩) (v := .bool true) rfl (by kernel_rfl) (by kernel_rfl) (by kernel_rfl) (fun _ _ _ h => h) (Or.inl ⟨by rfl, by intro wx _; go_simp⟩) (by assumption) ?_
              refine wpAnyH_ready (rs := [8]) (by kernel_rfl) (by simp) ?_
              refine AllReadyH.cons rfl (fun K hK => ?_) AllReadyH.nil
              · go_simp
                go_at_call 41
                refine (A8.out _).mono ?_
                rintro r V4 ⟨rfl, hb4⟩
                have S_V4 := S_V3.keep hb4
                have R_V4 := R_V3.below hb4
                have P_V4 := P_V3.below hb4
                have T_V4 := T_V3.below hb4
                try dsimp only
                refine hK.out _ _ S_V4 (fun _ => ?_)
                clear hK K
                refine wpAnyH_take (i := 9) (oi := ⟨some 66, _, _, _, _, _⟩) (v := .bool true) rfl (by kernel_rfl) (by kernel_rfl) (by kernel_rfl) (fun _ _ _ h => h) (Or.inl ⟨by rfl, by intro wx _; go_simp⟩) (by assumption) ?_
                refine wpAnyH_take (i := 10) (oi := ⟨some 6, _, _, _, _, _⟩) (v := .bool true) rfl (by kernel_rfl) (by kernel_rfl) (by kernel_rfl) (fun _ _ _ h => h) (Or.inl ⟨by rfl, by intro wx _; go_simp⟩) (by assumption) ?_
                refine wpAnyH_done (by kernel_rfl) ?_ _
                go_wp2_with fail
                go_ret
                exact ⟨rfl, S_V4.2⟩
end Go.Proofs.Ytalfgagcfjddcaa.Lg
