/- The walks of chapter 19's laws. -/
import Derived.Test.YtalfgagcfjddcaaAw19
namespace Go.Proofs.Ytalfgagcfjddcaa.Wk
open Go.RowKit Go.Proofs.Ytalfgagcfjddcaa.Mk Go.Proofs.Ytalfgagcfjddcaa.Ul Go.Proofs.Ytalfgagcfjddcaa.Wd Go.Proofs.Ytalfgagcfjddcaa.Wi Go.Proofs.Ytalfgagcfjddcaa.R4 Go.Proofs.Ytalfgagcfjddcaa.Hf Go.Proofs.Ytalfgagcfjddcaa.L4
set_option maxHeartbeats 4000000 in
set_option maxRecDepth 100000 in
theorem lawMost_calls (h : List UInt8) (n : Int) (w : World) (hl : h.length = 32) (hn : n ≤ 9223372036854775807) : Calls Try.prog 4 #[hv h, .int .i64 n] w fun e w' => e = .returned (.bool true) ∧ Below w.heap.size w w' := by
  have hle := IHl hl
  have S0 := Lib.hid (SQ.new w (oH h))
  have HR := Lib.hid (show ∀ wx, SQ [(w.heap.size, oH h)] w wx → wx.rangeAt w.heap.size 0 (hc h) from fun wx hx => range_row hx.a0)
  have hY := Nat.lt_of_le_of_lt (shrI_le (beN h) n) ((lim _).1 (beN32 hl))
  have A1 := Lib.hid (fun w => most_calls h n w hl)
  have A2 := Lib.hid (fun w => rof_calls h w hl)
  have A3 := Lib.hid (fun b c w r1 => rshr_calls (beN h) b 0 c n w ((lim _).1 (beN32 hl)) r1 hn)
  have A4 := Lib.hid (fun b c w r1 => rhash_calls (shrI (beN h) n) b 0 c w hY r1)
  have HB := Lib.hid (beL_len 32 (shrI (beN h) n))
  have HA := Lib.hid (fun w => awake_calls w)
  generalize beL 32 (shrI (beN h) n) = y at *
  clear hl hY
  unfold hv at *
  go_enter Try.func4, Try.ntmps4
  go_wp2_with fail
  generalize World.alloc w _ = W at *
  have S_W0 := S0.out.drew
  clear S0
  refine wp_region_held_drew (S := SQ [(w.heap.size, oH h)] w) (by kernel_rfl) S_W0 (fun hHeld => ?_)
  generalize World.drew W = W0 at *
  clear hHeld
  refine wpAnyH_take (i := 0) (oi := ⟨some 5, _, _, _, _, _⟩) (v := hv h) rfl (by kernel_rfl) (by kernel_rfl) (by kernel_rfl) (fun _ _ _ h => h) (yieldsIf_load_mid (by rfl) 23 _ rfl w.heap.size 0 rfl (hc h) _ HR.out UH rfl hle) (by assumption) ?_
  try simp only [Act.put, List.setIfInBounds_toArray, List.set_cons_zero, List.set_cons_succ]
  refine wpAnyH_take (i := 1) (oi := ⟨some 6, _, _, _, _, _⟩) (v := .int .i64 n) rfl (by kernel_rfl) (by kernel_rfl) (by kernel_rfl) (fun _ _ _ h => h) (Or.inl ⟨by rfl, by intro wx _; go_simp⟩) (by assumption) ?_
  try simp only [Act.put, List.setIfInBounds_toArray, List.set_cons_zero, List.set_cons_succ]
  refine wpAnyH_take (i := 3) (oi := ⟨some 8, _, _, _, _, _⟩) (v := hv h) rfl (by kernel_rfl) (by kernel_rfl) (by kernel_rfl) (fun _ _ _ h => h) (yieldsIf_load_mid (by rfl) 23 _ rfl w.heap.size 0 rfl (hc h) _ HR.out UH rfl hle) (by assumption) ?_
  try simp only [Act.put, List.setIfInBounds_toArray, List.set_cons_zero, List.set_cons_succ]
  refine wpAnyH_take (i := 5) (oi := ⟨some 10, _, _, _, _, _⟩) (v := .int .i64 n) rfl (by kernel_rfl) (by kernel_rfl) (by kernel_rfl) (fun _ _ _ h => h) (Or.inl ⟨by rfl, by intro wx _; go_simp⟩) (by assumption) ?_
  try simp only [Act.put, List.setIfInBounds_toArray, List.set_cons_zero, List.set_cons_succ]
  refine wpAnyH_ready (rs := [2]) (by kernel_rfl) (by simp) ?_
  refine AllReadyH.cons rfl (fun K hK => ?_) AllReadyH.nil
  · go_simp
    go_at_call 20
    refine (A1.out _).mono ?_
    rintro r V1 ⟨rfl, hb1⟩
    have S_V1 := S_W0.keep hb1
    try dsimp only
    refine hK.out _ _ S_V1 (fun _ => ?_)
    clear hK K
    refine wpAnyH_ready (rs := [4]) (by kernel_rfl) (by simp) ?_
    refine AllReadyH.cons rfl (fun K hK => ?_) AllReadyH.nil
    · go_simp
      go_at_call 23
      refine (A2.out _).mono ?_
      rintro r V2 ⟨b1, k1, rfl, R_V2, _, hb2⟩
      have S_V2 := S_V1.keep hb2
      try dsimp only
      refine hK.out _ _ S_V2 (fun _ => ?_)
      clear hK K
      refine wpAnyH_ready (rs := [6]) (by kernel_rfl) (by simp) ?_
      refine AllReadyH.cons rfl (fun K hK => ?_) AllReadyH.nil
      · go_simp
        go_at_call 22
        refine (A3.out b1 k1 _ R_V2).mono ?_
        rintro r V3 ⟨b2, k2, rfl, T_V3, _, hb3⟩
        have S_V3 := S_V2.keep hb3
        have R_V3 := R_V2.below hb3
        try dsimp only
        refine hK.out _ _ S_V3 (fun _ => ?_)
        clear hK K
        refine wpAnyH_ready (rs := [7]) (by kernel_rfl) (by simp) ?_
        refine AllReadyH.cons rfl (fun K hK => ?_) AllReadyH.nil
        · go_simp
          go_at_call 21
          refine (A4.out b2 k2 _ T_V3).mono ?_
          rintro r V4 ⟨rfl, hb4⟩
          have S_V4 := S_V3.keep hb4
          have R_V4 := R_V3.below hb4
          have T_V4 := T_V3.below hb4
          try dsimp only
          refine hK.out _ _ S_V4 (fun _ => ?_)
          clear hK K
          refine wpAnyH_take (i := 8) (oi := ⟨some 13, _, _, _, _, _⟩) (v := .bool true) rfl (by kernel_rfl) (by kernel_rfl) (by kernel_rfl) (fun _ _ _ h => h) (Or.inl ⟨by rfl, fun wx _ => run_bin (x := .tmp 7) (y := .tmp 12) rfl rfl rfl (eqHg wx _ _) (eqHr HB.out wx)⟩) (by assumption) ?_
          try simp only [Act.put, List.setIfInBounds_toArray, List.set_cons_zero, List.set_cons_succ]
          refine wpAnyH_take (i := 9) (oi := ⟨some 14, _, _, _, _, _⟩) (v := .bool true) rfl (by kernel_rfl) (by kernel_rfl) (by kernel_rfl) (fun _ _ _ h => h) (Or.inl ⟨by rfl, by intro wx _; go_simp⟩) (by assumption) ?_
          try simp only [Act.put, List.setIfInBounds_toArray, List.set_cons_zero, List.set_cons_succ]
          refine wpAnyH_ready (rs := [10]) (by kernel_rfl) (by simp) ?_
          refine AllReadyH.cons rfl (fun K hK => ?_) AllReadyH.nil
          · go_simp
            go_at_call 19
            refine (HA.out _).mono ?_
            rintro r V5 ⟨rfl, hb5⟩
            have S_V5 := S_V4.keep hb5
            have R_V5 := R_V4.below hb5
            have T_V5 := T_V4.below hb5
            try dsimp only
            refine hK.out _ _ S_V5 (fun _ => ?_)
            clear hK K
            refine wpAnyH_take (i := 11) (oi := ⟨some 16, _, _, _, _, _⟩) (v := .bool true) rfl (by kernel_rfl) (by kernel_rfl) (by kernel_rfl) (fun _ _ _ h => h) (Or.inl ⟨by rfl, by intro wx _; go_simp⟩) (by assumption) ?_
            try simp only [Act.put, List.setIfInBounds_toArray, List.set_cons_zero, List.set_cons_succ]
            refine wpAnyH_take (i := 12) (oi := ⟨some 4, _, _, _, _, _⟩) (v := .bool true) rfl (by kernel_rfl) (by kernel_rfl) (by kernel_rfl) (fun _ _ _ h => h) (Or.inl ⟨by rfl, by intro wx _; go_simp⟩) (by assumption) ?_
            refine wpAnyH_done (by kernel_rfl) ?_ _
            have hfin := Lib.hid S_V5.2
            clear HR A1 A2 A3 A4 HA
            go_wp2_with fail
            go_ret
            exact ⟨rfl, hfin.out⟩
end Go.Proofs.Ytalfgagcfjddcaa.Wk
