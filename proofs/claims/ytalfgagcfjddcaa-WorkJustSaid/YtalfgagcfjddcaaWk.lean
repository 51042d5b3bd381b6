/- The walks of chapter 19's functions. -/
import Derived.Test.YtalfgagcfjddcaaWkMath
import Derived.Test.YtalfgagcfjddcaaLaw04A
namespace Go.Proofs.Ytalfgagcfjddcaa.Wk
open Go.RowKit Go.Proofs.Ytalfgagcfjddcaa.Mk Go.Proofs.Ytalfgagcfjddcaa.Ul Go.Proofs.Ytalfgagcfjddcaa.Wd Go.Proofs.Ytalfgagcfjddcaa.Wi Go.Proofs.Ytalfgagcfjddcaa.R4 Go.Proofs.Ytalfgagcfjddcaa.Hf Go.Proofs.Ytalfgagcfjddcaa.L4
set_option maxHeartbeats 4000000 in
set_option maxRecDepth 100000 in
theorem ok_calls (h k : List UInt8) (w : World) (hl : h.length = 32) (kl : k.length = 32) :
    Calls Try.prog 15 #[hv h, hv k] w fun e w' => e = .returned (.bool (okB (beN h) (beN k))) ∧ Below w.heap.size w w' := by
  have S0 := Lib.hid (SQ.new2 w (oH h) (oH k))
  have HC := Lib.hid (okB_cmp (beN h) (beN k))
  unfold hv
  go_enter Try.func15, Try.ntmps15
  go_wp2_with fail
  generalize World.alloc (World.alloc w _) _ = W at *
  have L0 : ∀ wx, Below W.heap.size W wx → (Instr.loadAt 23 (.pointer (some ⟨w.heap.size, 0, none⟩))).run Try.prog wx = .ok (hv h) wx := fun wx hb => HH.at (S0.out.keep hb).a1 hl
  have L1 : ∀ wx, Below W.heap.size W wx → (Instr.loadAt 23 (.pointer (some ⟨w.heap.size + 1, 0, none⟩))).run Try.prog wx = .ok (hv k) wx := fun wx hb => HH.at (S0.out.keep hb).a0 kl
  have P1 : ∀ wx, Below W.heap.size W wx → Calls Try.prog 24 #[hv h] wx fun e w' => e = .returned (UV 4 (beN h)) ∧ Below wx.heap.size wx w' := fun wx _ => of_calls h wx hl
  have P2 : ∀ wx, Below W.heap.size W wx → Calls Try.prog 24 #[hv k] wx fun e w' => e = .returned (UV 4 (beN k)) ∧ Below wx.heap.size wx w' := fun wx _ => of_calls k wx kl
  have P3 : ∀ wx, Below W.heap.size W wx → Calls Try.prog 32 #[UV 4 (beN h), UV 4 (beN k)] wx fun e w' => e = .returned (.int .i64 (cmpI (beN h) (beN k))) ∧ Below wx.heap.size wx w' := fun wx _ => cmp_calls _ _ wx (beN32 hl) (beN32 kl)
  clear hl kl
  generalize UV 4 (beN h) = x at *
  generalize UV 4 (beN k) = y at *
  generalize cmpI (beN h) (beN k) = c at *
  refine wp_region_quiet_below (by kernel_rfl) (by kernel_rfl) ?_
  repeat (first | (refine wpQuiet_load rfl 23 _ rfl _ rfl _ (rg_fact L0) ?_) | (refine wpQuiet_load rfl 23 _ rfl _ rfl _ (rg_fact L1) ?_) | ((refine wpQuiet_call rfl 24 _ ?_ _ (rg_of P1) ?_); focus (intro wx; go_simp; done)) | ((refine wpQuiet_call rfl 24 _ ?_ _ (rg_of P2) ?_); focus (intro wx; go_simp; done)) | ((refine wpQuiet_call rfl 32 _ ?_ _ (rg_of P3) ?_); focus (intro wx; go_simp; done)) | go_big_quiet_step (fail) | quiet_step (fail))
  refine wpQuiet_nil ?_
  rintro _ ⟨rp, rfl⟩
  have hb5 := below_regrown W rp.d rp.os
  generalize Sort.grow (redrawn W rp.d) rp.os = w5 at *
  have hfin := Lib.hid (S0.out.keep hb5).2
  clear L0 L1 P1 P2 P3 hb5
  go_wp2_with fail
  go_ret
  exact ⟨by rw [← HC.out]; rfl, hfin.out⟩
set_option maxHeartbeats 4000000 in
set_option maxRecDepth 100000 in
theorem most_calls (h : List UInt8) (n : Int) (w : World) (hl : h.length = 32) :
    Calls Try.prog 20 #[hv h, .int .i64 n] w fun e w' => e = .returned (hv (beL 32 (shrI (beN h) n))) ∧ Below w.heap.size w w' := by
  have HL := Lib.hid hl
  have H1 := Lib.hid (fun w => of_calls h w hl)
  have H2 := Lib.hid (fun w => shr_calls (beN h) n w (beN32 hl))
  have H3 := Lib.hid (fun w => hash_calls (shrI (beN h) n) w)
  have HB := Lib.hid (beL_len 32 (shrI (beN h) n))
  generalize beL 32 (shrI (beN h) n) = y at *
  clear hl
  unfold hv at *
  go_enter Try.func20, Try.ntmps20
  have S0 := Lib.hid (SQ.new2 w (oH h) (oH (List.replicate 32 0)))
  go_wp2_with (first | (refine wpList_load_row (by rfl) 23 (.tmp 2) (by rfl) _ (by rfl) _ _ _ _ S0.out.a1 UH rfl (IHa HL.out) ?_))
  refine (H1.out _).mono ?_
  rintro e w1 ⟨rfl, hb1⟩
  have S1 := Lib.hid (SQ.keep S0.out hb1)
  clear hb1
  go_wp2_with fail
  refine (H2.out _).mono ?_
  rintro e w2 ⟨rfl, hb2⟩
  have S2 := Lib.hid (S1.out.keep hb2)
  clear hb2
  go_wp2_with fail
  refine (H3.out _).mono ?_
  rintro e w3 ⟨rfl, hb3⟩
  have S3 := Lib.hid (S2.out.keep hb3)
  clear hb3
  go_wp2_with (first | (refine wpList_store_row (by rfl) 23 _ _ rfl _ (hc y).toArray rfl rfl _ _ S3.out.a0 (IHa HB.out) (by rw [List.size_toArray, List.size_toArray, hc_len, hc_len, HB.out]; rfl) (hc_one y) ?_))
  exact bodyPost_ret (results_cell 4 23 _ _ rfl rfl (run_loadVar_row _ _ _ _ _ _ _ (setRow_heap _ _ _ _ _ _ S3.out.a0) UH rfl (IHa HB.out))) rfl ⟨rfl, below_setRow S3.out.2 (by omega)⟩
set_option maxHeartbeats 4000000 in
set_option maxRecDepth 100000 in
theorem rok_calls (h k : List UInt8) (w : World) (hl : h.length = 32) (kl : k.length = 32) :
    Calls Try.prog 16 #[hv h, hv k] w fun e w' => e = .returned (.bool (okB (beN h) (beN k))) ∧ Below w.heap.size w w' := by
  have hle := IHl hl
  have kle := IHl kl
  have S0 := Lib.hid (SQ.new2 w (oH h) (oH k))
  have HC := Lib.hid (okB_cmp (beN h) (beN k))
  have HR := Lib.hid (show ∀ wx, SQ [(w.heap.size + 1, oH k), (w.heap.size, oH h)] w wx → wx.rangeAt w.heap.size 0 (hc h) from fun wx hx => range_row hx.a1)
  have KR := Lib.hid (show ∀ wx, SQ [(w.heap.size + 1, oH k), (w.heap.size, oH h)] w wx → wx.rangeAt (w.heap.size + 1) 0 (hc k) from fun wx hx => range_row hx.a0)
  have HP := Lib.hid (fun w => rof_calls h w hl)
  have KP := Lib.hid (fun w => rof_calls k w kl)
  have A0 := Lib.hid (fun b c b' c' w r1 r2 => rcmp_calls (beN h) (beN k) b 0 c b' 0 c' w ((lim _).1 (beN32 hl)) ((lim _).1 (beN32 kl)) r1 r2)
  clear hl kl
  generalize cmpI (beN h) (beN k) = c at *
  unfold hv at *
  go_enter Try.func16, Try.ntmps16
  go_wp2_with fail
  generalize World.alloc (World.alloc w _) _ = W at *
  have S_W0 := S0.out.drew
  clear S0
  refine wp_region_held_drew (S := SQ [(w.heap.size + 1, oH k), (w.heap.size, oH h)] w) (by kernel_rfl) S_W0 (fun hHeld => ?_)
  generalize World.drew W = W0 at *
  clear hHeld
  refine wpAnyH_take (i := 0) (oi := ⟨some 5, _, _, _, _, _⟩) (v := hv h) rfl (by kernel_rfl) (by kernel_rfl) (by kernel_rfl) (fun _ _ _ h => h) (yieldsIf_load_mid (by rfl) 23 _ rfl w.heap.size 0 rfl (hc h) _ HR.out UH rfl hle) (by assumption) ?_
  try simp only [Act.put, List.setIfInBounds_toArray, List.set_cons_zero, List.set_cons_succ]
  refine wpAnyH_take (i := 2) (oi := ⟨some 7, _, _, _, _, _⟩) (v := hv k) rfl (by kernel_rfl) (by kernel_rfl) (by kernel_rfl) (fun _ _ _ h => h) (yieldsIf_load_mid (by rfl) 23 _ rfl (w.heap.size + 1) 0 rfl (hc k) _ KR.out UH rfl kle) (by assumption) ?_
  try simp only [Act.put, List.setIfInBounds_toArray, List.set_cons_zero, List.set_cons_succ]
  refine wpAnyH_ready (rs := [1]) (by kernel_rfl) (by simp) ?_
  refine AllReadyH.cons rfl (fun K hK => ?_) AllReadyH.nil
  · go_simp
    go_at_call 23
    refine (HP.out _).mono ?_
    rintro r V1 ⟨b1, k1, rfl, R_V1, _, hb1⟩
    have S_V1 := S_W0.keep hb1
    try dsimp only
    refine hK.out _ _ S_V1 (fun _ => ?_)
    clear hK K
    refine wpAnyH_ready (rs := [3]) (by kernel_rfl) (by simp) ?_
    refine AllReadyH.cons rfl (fun K hK => ?_) AllReadyH.nil
    · go_simp
      go_at_call 23
      refine (KP.out _).mono ?_
      rintro r V2 ⟨b2, k2, rfl, T_V2, _, hb2⟩
      have S_V2 := S_V1.keep hb2
      have R_V2 := R_V1.below hb2
      try dsimp only
      refine hK.out _ _ S_V2 (fun _ => ?_)
      clear hK K
      refine wpAnyH_ready (rs := [4]) (by kernel_rfl) (by simp) ?_
      refine AllReadyH.cons rfl (fun K hK => ?_) AllReadyH.nil
      · go_simp
        go_at_call 54
        refine (A0.out b1 k1 b2 k2 _ R_V2 T_V2).mono ?_
        rintro r V3 ⟨rfl, hb3⟩
        have S_V3 := S_V2.keep hb3
        have R_V3 := R_V2.below hb3
        have T_V3 := T_V2.below hb3
        try dsimp only
        refine hK.out _ _ S_V3 (fun _ => ?_)
        clear hK K
        refine wpAnyH_take (i := 5) (oi := ⟨some 10, _, _, _, _, _⟩) (v := .bool (decide (c ≤ 0))) rfl (by kernel_rfl) (by kernel_rfl) (by kernel_rfl) (fun _ _ _ h => h) (Or.inl ⟨by rfl, by intro wx _; go_simp⟩) (by assumption) ?_
        try simp only [Act.put, List.setIfInBounds_toArray, List.set_cons_zero, List.set_cons_succ]
        refine wpAnyH_take (i := 6) (oi := ⟨some 4, _, _, _, _, _⟩) (v := .bool (decide (c ≤ 0))) rfl (by kernel_rfl) (by kernel_rfl) (by kernel_rfl) (fun _ _ _ h => h) (Or.inl ⟨by rfl, by intro wx _; go_simp⟩) (by assumption) ?_
        refine wpAnyH_done (by kernel_rfl) ?_ _
        have hfin := Lib.hid S_V3.2
        clear HR KR HP KP A0
        go_wp2_with fail
        go_ret
        exact ⟨by rw [← HC.out]; rfl, hfin.out⟩
set_option maxHeartbeats 4000000 in
set_option maxRecDepth 100000 in
theorem rlevel_calls (h k : List UInt8) (w : World) (hl : h.length = 32) (kl : k.length = 32) :
    Calls Try.prog 18 #[hv h, hv k] w fun e w' => e = .returned (.int .i64 (lvI (beN h) (beN k))) ∧ Below w.heap.size w w' := by
  have HL := Lib.hid hl
  have KL := Lib.hid kl
  have S0 := Lib.hid (SQ.new2 w (oH h) (oH k))
  have HP := Lib.hid (fun w => rof_calls h w hl)
  have KP := Lib.hid (fun w => rof_calls k w kl)
  have A1 := Lib.hid (fun (n : Nat) b c w (hn : n ≤ 256) r1 => rshr_calls (beN k) b 0 c n w ((lim _).1 (beN32 kl)) r1 (by omega))
  have A0 := Lib.hid (fun (n : Nat) b c b' c' w r1 r2 => rcmp_calls (beN h) (beN k / 2 ^ n) b 0 c b' 0 c' w ((lim _).1 (beN32 hl)) (Nat.lt_of_le_of_lt (Nat.div_le_self _ _) ((lim _).1 (beN32 kl))) r1 r2)
  simp only [shrI_nat] at A1
  obtain ⟨X, hX⟩ : ∃ X, X = beN h := ⟨_, rfl⟩
  obtain ⟨Y, hY⟩ : ∃ Y, Y = beN k := ⟨_, rfl⟩
  rw [← hX] at HP A0 ⊢
  rw [← hY] at KP A0 A1 ⊢
  clear hl kl hX hY
  unfold hv at *
  go_enter Try.func18, Try.ntmps18
  go_wp2_with (first | (refine wpList_load_row (by rfl) 23 (.tmp 2) (by rfl) _ (by rfl) _ _ _ _ S0.out.a1 UH rfl (IHa HL.out) ?_))
  refine (HP.out _).mono ?_
  rintro e w1 ⟨b1, k1, rfl, r1, _, hb1⟩
  have S1 := Lib.hid (SQ.keep S0.out hb1)
  have R1 := Lib.hid r1
  clear hb1 r1
  go_wp2_with (first | (refine wpList_load_row (by rfl) 23 (.tmp 3) (by rfl) _ (by rfl) _ _ _ _ S1.out.a0 UH rfl (IHa KL.out) ?_))
  refine (KP.out _).mono ?_
  rintro e w2 ⟨b2, k2, rfl, r2, _, hb2⟩
  have S2 := Lib.hid (And.intro (R1.out.below hb2) (And.intro r2 (S1.out.keep hb2).2))
  clear hb2 r2 R1 S1 S0
  go_wp2_with fail
  go_loopw [7] (fun s7 wr => ∃ i : Nat, i ≤ 256 ∧ s7 = .int .i64 i ∧ Hid (lvN X Y (256 - i) i = lvN X Y 256 0) ∧ Hid (BR wr b1 0 X ∧ BR wr b2 0 Y ∧ Below w.heap.size w wr)) (fun s7 _ => 256 - (intOf s7).toNat)
  case atStart => exact ⟨0, by omega, rfl, Lib.hid rfl, S2⟩
  case round =>
    obtain ⟨i, hi, rfl, hlv, hq⟩ := hrel
    by_cases hil : i < 256
    · have i1 : (i : Int) < 256 := by omega
      have hst := lvN_step (x := X) (t := Y) hil
      rw [hlv.out] at hst
      have hcp := (cmpI_pos X (Y / 2 ^ i)).2
      by_cases hle : X ≤ Y / 2 ^ i
      · have c0 := hcp.2 hle
        have HS := Lib.hid (hst.1 hle)
        have B0 := Lib.hid (A0.out i)
        clear hcp hst hle
        generalize cmpI X (Y / 2 ^ i) = c at *
        go_wp2_with fail
        refine (A1.out i b2 k2 _ (by omega) hq.out.2.1).mono ?_
        rintro e w3 ⟨b3, k3, rfl, r3, _, hb3⟩
        have S3 := Lib.hid (And.intro (hq.out.1.below hb3) (And.intro (hq.out.2.1.below hb3) (And.intro r3 (below_up hq.out.2.2 hb3))))
        clear hb3 r3
        go_wp2_with fail
        refine (B0.out b1 k1 b3 k3 _ S3.out.1 S3.out.2.2.1).mono ?_
        rintro e w4 ⟨rfl, hb4⟩
        have S4 := Lib.hid (And.intro (S3.out.1.below hb4) (And.intro (S3.out.2.1.below hb4) (below_up S3.out.2.2.2 hb4)))
        clear hb4
        go_wp2_with fail
        go_roundw
        case rel => exact ⟨i + 1, by omega, by go_num, HS, S4⟩
        case measure => simp [intOf] <;> omega
      · have c0 : 0 < cmpI X (Y / 2 ^ i) := (cmpI_pos X (Y / 2 ^ i)).1.2 hle
        have HS := Lib.hid (hst.2 hle)
        have B0 := Lib.hid (A0.out i)
        clear hcp hst hle
        generalize cmpI X (Y / 2 ^ i) = c at *
        go_wp2_with fail
        refine (A1.out i b2 k2 _ (by omega) hq.out.2.1).mono ?_
        rintro e w3 ⟨b3, k3, rfl, r3, _, hb3⟩
        have S3 := Lib.hid (And.intro (hq.out.1.below hb3) (And.intro (hq.out.2.1.below hb3) (And.intro r3 (below_up hq.out.2.2 hb3))))
        clear hb3 r3
        go_wp2_with fail
        refine (B0.out b1 k1 b3 k3 _ S3.out.1 S3.out.2.2.1).mono ?_
        rintro e w4 ⟨rfl, hb4⟩
        have S4 := Lib.hid (below_up S3.out.2.2.2 hb4)
        clear hb4
        go_wp2_with fail
        go_ret
        exact ⟨by unfold lvI; rw [HS.out]; rfl, S4.out⟩
    · obtain rfl : i = 256 := by omega
      have HS : Hid (lvN X Y 256 0 = 256) := Lib.hid (by rw [← hlv.out]; rfl)
      go_wp2_with fail
      go_ret
      exact ⟨by unfold lvI; rw [HS.out]; rfl, hq.out.2.2⟩
end Go.Proofs.Ytalfgagcfjddcaa.Wk
