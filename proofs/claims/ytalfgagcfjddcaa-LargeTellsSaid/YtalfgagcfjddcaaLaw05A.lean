/- The walk of chapter 5's law LargeAdds. -/
import Derived.Test.YtalfgagcfjddcaaLaw05S
import Derived.Deep.RegionHeld
import Derived.Deep.MidRow
import Derived.Deep.DeepCutAuto
namespace Go.Proofs.Ytalfgagcfjddcaa.Lg
open Go.RowKit Go.Proofs.Ytalfgagcfjddcaa.Mk Go.Proofs.Ytalfgagcfjddcaa.Ul Go.Proofs.Ytalfgagcfjddcaa.Wi Go.Proofs.Ytalfgagcfjddcaa.Wd Go.Proofs.Ytalfgagcfjddcaa.R5
theorem dn_lim {X : Nat} (h : X < (2 ^ 64) ^ 5) : dn X ≤ 1000 := Nat.le_trans ((dn_le 20 X).2 (Nat.lt_of_lt_of_le h (by decide))) (by decide)
set_option maxHeartbeats 8000000 in
set_option maxRecDepth 100000 in
theorem largeAdds_calls (X Y : Nat) (w : World) (hX : X < (2 ^ 64) ^ 5) (hY : Y < (2 ^ 64) ^ 5) : Calls Try.prog 9 #[UV 5 X, UV 5 Y] w fun e w' => e = .returned (.bool true) ∧ Below w.heap.size w w' := by
  have HM := Lib.hid (fun g w h => limbs_calls X g 0 5 5 w hX (by decide) (by decide) h)
  have KM := Lib.hid (fun g w h => limbs_calls Y g 0 5 5 w hY (by decide) (by decide) h)
  have A1 := Lib.hid (fun w => ladd_calls X Y w hX hY)
  have A2 := Lib.hid (fun v1 v2 w h1 h2 => r5add_calls X Y v1 v2 w h1 h2 (dn_lim hX) (dn_lim hY))
  have A3 := Lib.hid (fun v w h => same5_calls (X + Y) v w h)
  have A4 := Lib.hid (fun w => lcmp_calls X Y w hX hY)
  have A5 := Lib.hid (fun v1 v2 w h1 h2 => r5cmp_calls X Y v1 v2 w h1 h2)
  have A6 := Lib.hid (fun w => llen_calls X w hX)
  have A7 := Lib.hid (show ∀ v w, DV w v X → Calls Try.prog 40 #[v] w fun e w' => e = .returned (.int .i64 (bl X : Nat)) ∧ Below w.heap.size w w' from fun v w h => (r5len_calls X v w h).mono (by rintro e w' ⟨rfl, rfl⟩; exact ⟨rfl, Below.refl _ _⟩))
  have A8 := Lib.hid (fun w => awake5_calls w)
  clear hX hY
  unfold LR at A1
  have S0 := SQ.new2 w (oL (lb X)) (oL (lb Y))
  unfold UV at *
  generalize lb (okX (fits (X + Y)) (X + Y)) = fz at *
  generalize fits (X + Y) = b at *
  generalize cmpI X Y = cm at *
  generalize bl X = bx at *
  go_enter Try.func9, Try.ntmps9
  go_wp2_with fail
  generalize World.alloc (World.alloc w _) _ = W at *
  have S_W0 := S0.drew
  clear S0
  go_upto_region 1 with fail
  go_cut [5, 6] (fun s5 s6 wx => Hid (SQ [(w.heap.size + 1, oL (lb Y)), (w.heap.size, oL (lb X))] w wx) ∧ Hid (DV wx s5 X ∧ DV wx s6 Y))
  case first =>
    refine wp_region_held_drew (S := SQ [(w.heap.size + 1, oL (lb Y)), (w.heap.size, oL (lb X))] w) (by kernel_rfl) S_W0 (fun hHeld => ?_)
    generalize World.drew W = W0 at *
    clear hHeld
    refine wpAnyH_take (i := 0) (oi := ⟨some 9, _, _, _, _, _⟩) (v := .slice (some ⟨w.heap.size, 0, none⟩) 5 5) rfl (by kernel_rfl) (by kernel_rfl) (by kernel_rfl) (fun _ _ _ h => h) (Or.inl ⟨by rfl, by intro wx _; go_simp⟩) (by assumption) ?_
    try simp only [Act.put, List.setIfInBounds_toArray, List.set_cons_zero, List.set_cons_succ]
    refine wpAnyH_take (i := 2) (oi := ⟨some 11, _, _, _, _, _⟩) (v := .slice (some ⟨w.heap.size + 1, 0, none⟩) 5 5) rfl (by kernel_rfl) (by kernel_rfl) (by kernel_rfl) (fun _ _ _ h => h) (Or.inl ⟨by rfl, by intro wx _; go_simp⟩) (by assumption) ?_
    try simp only [Act.put, List.setIfInBounds_toArray, List.set_cons_zero, List.set_cons_succ]
    refine wpAnyH_ready (rs := [1]) (by kernel_rfl) (by simp) ?_
    refine AllReadyH.cons rfl (fun K hK => ?_) AllReadyH.nil
    · go_simp
      go_at_call 33
      refine (HM.out _ _ (LB.of _ S_W0.a1)).mono ?_
      rintro r V1 ⟨v1, rfl, R_V1, hb1⟩
      have S_V1 := S_W0.keep hb1
      try dsimp only
      refine hK.out _ _ S_V1 (fun _ => ?_)
      clear hK K
      refine wpAnyH_ready (rs := [3]) (by kernel_rfl) (by simp) ?_
      refine AllReadyH.cons rfl (fun K hK => ?_) AllReadyH.nil
      · go_simp
        go_at_call 33
        refine (KM.out _ _ (LB.of _ S_V1.a0)).mono ?_
        rintro r V2 ⟨v2, rfl, T_V2, hb2⟩
        have S_V2 := S_V1.keep hb2
        have R_V2 := R_V1.below hb2
        try dsimp only
        refine hK.out _ _ S_V2 (fun _ => ?_)
        clear hK K
        refine wpAnyH_take (i := 4) (oi := ⟨some 5, _, _, _, _, _⟩) (v := v1) rfl (by kernel_rfl) (by kernel_rfl) (by kernel_rfl) (fun _ _ _ h => h) (Or.inl ⟨by rfl, by intro wx _; go_simp⟩) (by assumption) ?_
        refine wpAnyH_take (i := 5) (oi := ⟨some 6, _, _, _, _, _⟩) (v := v2) rfl (by kernel_rfl) (by kernel_rfl) (by kernel_rfl) (fun _ _ _ h => h) (Or.inl ⟨by rfl, by intro wx _; go_simp⟩) (by assumption) ?_
        refine wpAnyH_done (by kernel_rfl) ?_ _
        go_wp2_with fail
        go_meet
        exact ⟨Lib.hid S_V2, Lib.hid ⟨R_V2, T_V2⟩⟩
  case rest =>
    obtain ⟨S, hq⟩ := hcut
    clear S_W0
    go_wp2_with (first | (refine wpList_load_row (by rfl) 49 (.tmp 2) (by rfl) _ (by rfl) _ _ _ _ S.out.a1 UN5 rfl (IN5 _) ?_) | (refine wpList_load_row (by rfl) 49 (.tmp 3) (by rfl) _ (by rfl) _ _ _ _ S.out.a0 UN5 rfl (IN5 _) ?_))
    refine (A1.out _).mono ?_
    rintro e w3 ⟨rfl, hb3⟩
    have S := Lib.hid (S.out.keep hb3)
    have S := Lib.hid (S.out.alloc (oL fz))
    have hq := Lib.hid (And.intro ((hq.out.1.below hb3).below (bl1 w3 (oL fz))) ((hq.out.2.below hb3).below (bl1 w3 (oL fz))))
    clear hb3
    go_wp2_with (refine wpList_store_last rfl 49 _ _ rfl _ (FC 5 fz).toArray rfl rfl (IN5 _) (by rw [FC_size]; rfl) (FC_one _ _) ?_)
    have S_W0 := S.out.drew
    have R_W0 := Lib.hid (show DV (World.drew (w3.alloc (oL fz))) u5 X from hq.out.1.below (Below.refl _ _).drew)
    have T_W0 := Lib.hid (show DV (World.drew (w3.alloc (oL fz))) u6 Y from hq.out.2.below (Below.refl _ _).drew)
    clear hq S
    obtain ⟨L, hL⟩ : ∃ L, L = [(w3.heap.size, oL fz), (w.heap.size + 1, oL (lb Y)), (w.heap.size, oL (lb X))] := ⟨_, rfl⟩
    rw [← hL] at S_W0
    have Q0 := Lib.hid (show ∀ wx, SQ L w wx → wx.heap[w3.heap.size]? = some (oL fz) from fun wx hx => by rw [hL] at hx; exact hx.a0)
    have Q1 := Lib.hid (show ∀ wx, SQ L w wx → wx.heap[w.heap.size + 1]? = some (oL (lb Y)) from fun wx hx => by rw [hL] at hx; exact hx.a1)
    have Q2 := Lib.hid (show ∀ wx, SQ L w wx → wx.heap[w.heap.size]? = some (oL (lb X)) from fun wx hx => by rw [hL] at hx; exact hx.a2)
    clear hL
    refine wp_region_held_drew (S := SQ L w) (by kernel_rfl) S_W0 (fun hHeld => ?_)
    generalize World.drew (w3.alloc (oL fz)) = W0 at *
    have R_W0 := R_W0.out
    have T_W0 := T_W0.out
    clear hHeld
    refine wpAnyH_take (i := 0) (oi := ⟨some 19, _, _, _, _, _⟩) (v := .agg (FC 5 fz).toArray) rfl (by kernel_rfl) (by kernel_rfl) (by kernel_rfl) (fun _ _ _ h => h) (yieldsIf_load_mid (by rfl) 49 _ rfl (w3.heap.size) 0 rfl (FC 5 fz) _ (fun wx hx => range_row (Q0.out _ hx)) UN5 rfl (by rw [FC_len]; kernel_rfl)) (by assumption) ?_
    try simp only [Act.put, List.setIfInBounds_toArray, List.set_cons_zero, List.set_cons_succ]
    refine wpAnyH_take (i := 1) (oi := ⟨some 20, _, _, _, _, _⟩) (v := .bool b) rfl (by kernel_rfl) (by kernel_rfl) (by kernel_rfl) (fun _ _ _ h => h) (Or.inl ⟨by rfl, by intro wx _; go_simp⟩) (by assumption) ?_
    try simp only [Act.put, List.setIfInBounds_toArray, List.set_cons_zero, List.set_cons_succ]
    refine wpAnyH_take (i := 2) (oi := ⟨some 21, _, _, _, _, _⟩) (v := u5) rfl (by kernel_rfl) (by kernel_rfl) (by kernel_rfl) (fun _ _ _ h => h) (Or.inl ⟨by rfl, by intro wx _; go_simp⟩) (by assumption) ?_
    try simp only [Act.put, List.setIfInBounds_toArray, List.set_cons_zero, List.set_cons_succ]
    refine wpAnyH_take (i := 3) (oi := ⟨some 22, _, _, _, _, _⟩) (v := u6) rfl (by kernel_rfl) (by kernel_rfl) (by kernel_rfl) (fun _ _ _ h => h) (Or.inl ⟨by rfl, by intro wx _; go_simp⟩) (by assumption) ?_
    try simp only [Act.put, List.setIfInBounds_toArray, List.set_cons_zero, List.set_cons_succ]
    refine wpAnyH_ready (rs := [4]) (by kernel_rfl) (by simp) ?_
    refine AllReadyH.cons rfl (fun K hK => ?_) AllReadyH.nil
    · go_simp
      go_at_call 36
      refine (A2.out _ _ _ R_W0 T_W0).mono ?_
      rintro r V1 ⟨v3, rfl, P_V1, hb1⟩
      have S_V1 := S_W0.keep hb1
      have R_V1 := R_W0.below hb1
      have T_V1 := T_W0.below hb1
      try dsimp only
      refine hK.out _ _ S_V1 (fun _ => ?_)
      clear hK K
      refine wpAnyH_ready (rs := [5]) (by kernel_rfl) (by simp) ?_
      refine AllReadyH.cons rfl (fun K hK => ?_) AllReadyH.nil
      · go_simp
        go_at_call 35
        refine (A3.out _ _ P_V1).mono ?_
        rintro r V2 ⟨rfl, hb2⟩
        have S_V2 := S_V1.keep hb2
        have R_V2 := R_V1.below hb2
        have T_V2 := T_V1.below hb2
        have P_V2 := P_V1.below hb2
        try dsimp only
        refine hK.out _ _ S_V2 (fun _ => ?_)
        clear hK K
        refine wpAnyH_take (i := 6) (oi := ⟨some 25, _, _, _, _, _⟩) (v := .bool true) rfl (by kernel_rfl) (by kernel_rfl) (by kernel_rfl) (fun _ _ _ h => h) (Or.inl ⟨by rfl, by intro wx _; go_simp⟩) (by assumption) ?_
        refine wpAnyH_take (i := 7) (oi := ⟨some 26, _, _, _, _, _⟩) (v := .agg (FC 5 (lb X)).toArray) rfl (by kernel_rfl) (by kernel_rfl) (by kernel_rfl) (fun _ _ _ h => h) (yieldsIf_load_mid (by rfl) 49 _ rfl (w.heap.size) 0 rfl (FC 5 (lb X)) _ (fun wx hx => range_row (Q2.out _ hx)) UN5 rfl (by rw [FC_len]; kernel_rfl)) (by assumption) ?_
        refine wpAnyH_take (i := 8) (oi := ⟨some 27, _, _, _, _, _⟩) (v := .agg (FC 5 (lb Y)).toArray) rfl (by kernel_rfl) (by kernel_rfl) (by kernel_rfl) (fun _ _ _ h => h) (yieldsIf_load_mid (by rfl) 49 _ rfl (w.heap.size + 1) 0 rfl (FC 5 (lb Y)) _ (fun wx hx => range_row (Q1.out _ hx)) UN5 rfl (by rw [FC_len]; kernel_rfl)) (by assumption) ?_
        refine wpAnyH_take (i := 10) (oi := ⟨some 29, _, _, _, _, _⟩) (v := u5) rfl (by kernel_rfl) (by kernel_rfl) (by kernel_rfl) (fun _ _ _ h => h) (Or.inl ⟨by rfl, by intro wx _; go_simp⟩) (by assumption) ?_
        refine wpAnyH_take (i := 11) (oi := ⟨some 30, _, _, _, _, _⟩) (v := u6) rfl (by kernel_rfl) (by kernel_rfl) (by kernel_rfl) (fun _ _ _ h => h) (Or.inl ⟨by rfl, by intro wx _; go_simp⟩) (by assumption) ?_
        refine wpAnyH_ready (rs := [9]) (by kernel_rfl) (by simp) ?_
        refine AllReadyH.cons rfl (fun K hK => ?_) AllReadyH.nil
        · go_simp
          go_at_call 37
          refine (A4.out _).mono ?_
          rintro r V3 ⟨rfl, hb3⟩
          have S_V3 := S_V2.keep hb3
          have R_V3 := R_V2.below hb3
          have T_V3 := T_V2.below hb3
          have P_V3 := P_V2.below hb3
          try dsimp only
          refine hK.out _ _ S_V3 (fun _ => ?_)
          clear hK K
          refine wpAnyH_ready (rs := [12]) (by kernel_rfl) (by simp) ?_
          refine AllReadyH.cons rfl (fun K hK => ?_) AllReadyH.nil
          · go_simp
            go_at_call 38
            refine (A5.out _ _ _ R_V3 T_V3).mono ?_
            rintro r V4 ⟨rfl, hb4⟩
            have S_V4 := S_V3.keep hb4
            have R_V4 := R_V3.below hb4
            have T_V4 := T_V3.below hb4
            have P_V4 := P_V3.below hb4
            try dsimp only
            refine hK.out _ _ S_V4 (fun _ => ?_)
            clear hK K
            refine wpAnyH_take (i := 13) (oi := ⟨some 32, _, _, _, _, _⟩) (v := .bool true) rfl (by kernel_rfl) (by kernel_rfl) (by kernel_rfl) (fun _ _ _ h => h) (Or.inl ⟨by rfl, by intro wx _; go_simp⟩) (by assumption) ?_
            refine wpAnyH_take (i := 14) (oi := ⟨some 33, _, _, _, _, _⟩) (v := .bool true) rfl (by kernel_rfl) (by kernel_rfl) (by kernel_rfl) (fun _ _ _ h => h) (Or.inl ⟨by rfl, by intro wx _; go_simp⟩) (by assumption) ?_
            refine wpAnyH_take (i := 15) (oi := ⟨some 34, _, _, _, _, _⟩) (v := .bool true) rfl (by kernel_rfl) (by kernel_rfl) (by kernel_rfl) (fun _ _ _ h => h) (Or.inl ⟨by rfl, by intro wx _; go_simp⟩) (by assumption) ?_
            refine wpAnyH_take (i := 16) (oi := ⟨some 35, _, _, _, _, _⟩) (v := .agg (FC 5 (lb X)).toArray) rfl (by kernel_rfl) (by kernel_rfl) (by kernel_rfl) (fun _ _ _ h => h) (yieldsIf_load_mid (by rfl) 49 _ rfl (w.heap.size) 0 rfl (FC 5 (lb X)) _ (fun wx hx => range_row (Q2.out _ hx)) UN5 rfl (by rw [FC_len]; kernel_rfl)) (by assumption) ?_
            refine wpAnyH_take (i := 18) (oi := ⟨some 37, _, _, _, _, _⟩) (v := u5) rfl (by kernel_rfl) (by kernel_rfl) (by kernel_rfl) (fun _ _ _ h => h) (Or.inl ⟨by rfl, by intro wx _; go_simp⟩) (by assumption) ?_
            refine wpAnyH_ready (rs := [17]) (by kernel_rfl) (by simp) ?_
            refine AllReadyH.cons rfl (fun K hK => ?_) AllReadyH.nil
            · go_simp
              go_at_call 39
              refine (A6.out _).mono ?_
              rintro r V5 ⟨rfl, hb5⟩
              have S_V5 := S_V4.keep hb5
              have R_V5 := R_V4.below hb5
              have T_V5 := T_V4.below hb5
              have P_V5 := P_V4.below hb5
              try dsimp only
              refine hK.out _ _ S_V5 (fun _ => ?_)
              clear hK K
              refine wpAnyH_ready (rs := [19]) (by kernel_rfl) (by simp) ?_
              refine AllReadyH.cons rfl (fun K hK => ?_) AllReadyH.nil
              · go_simp
                go_at_call 40
                refine (A7.out _ _ R_V5).mono ?_
                rintro r V6 ⟨rfl, hb6⟩
                have S_V6 := S_V5.keep hb6
                have R_V6 := R_V5.below hb6
                have T_V6 := T_V5.below hb6
                have P_V6 := P_V5.below hb6
                try dsimp only
                refine hK.out _ _ S_V6 (fun _ => ?_)
                clear hK K
                refine wpAnyH_take (i := 20) (oi := ⟨some 39, _, _, _, _, _⟩) (v := .bool true) rfl (by kernel_rfl) (by kernel_rfl) (by kernel_rfl) (fun _ _ _ h => h) (Or.inl ⟨by rfl, by intro wx _; go_simp⟩) (by assumption) ?_
                refine wpAnyH_take (i := 21) (oi := ⟨some 40, _, _, _, _, _⟩) (v := .bool true) rfl (by kernel_rfl) (by kernel_rfl) (by kernel_rfl) (fun _ _ _ h => h) (Or.inl ⟨by rfl, by intro wx _; go_simp⟩) (by assumption) ?_
                refine wpAnyH_take (i := 22) (oi := ⟨some 41, _, _, _, _, _⟩) (v := .bool true) rfl (by kernel_rfl) (by kernel_rfl) (by kernel_rfl) (fun _ _ _ h => h) (Or.inl ⟨by rfl, by intro wx _; go_simp⟩) (by assumption) ?_
                refine wpAnyH_ready (rs := [23]) (by kernel_rfl) (by simp) ?_
                refine AllReadyH.cons rfl (fun K hK => ?_) AllReadyH.nil
                · go_simp
                  go_at_call 41
                  refine (A8.out _).mono ?_
                  rintro r V7 ⟨rfl, hb7⟩
                  have S_V7 := S_V6.keep hb7
                  have R_V7 := R_V6.below hb7
                  have T_V7 := T_V6.below hb7
                  have P_V7 := P_V6.below hb7
                  try dsimp only
                  refine hK.out _ _ S_V7 (fun _ => ?_)
                  clear hK K
                  refine wpAnyH_take (i := 24) (oi := ⟨some 43, _, _, _, _, _⟩) (v := .bool true) rfl (by kernel_rfl) (by kernel_rfl) (by kernel_rfl) (fun _ _ _ h => h) (Or.inl ⟨by rfl, by intro wx _; go_simp⟩) (by assumption) ?_
                  refine wpAnyH_take (i := 25) (oi := ⟨some 4, _, _, _, _, _⟩) (v := .bool true) rfl (by kernel_rfl) (by kernel_rfl) (by kernel_rfl) (fun _ _ _ h => h) (Or.inl ⟨by rfl, by intro wx _; go_simp⟩) (by assumption) ?_
                  refine wpAnyH_done (by kernel_rfl) ?_ _
                  go_wp2_with fail
                  go_ret
                  exact ⟨rfl, S_V7.2⟩
end Go.Proofs.Ytalfgagcfjddcaa.Lg
