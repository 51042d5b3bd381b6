/- The walks of chapter 4's laws. -/
import Derived.Deep.RegionHeld3
import Derived.Deep.CutRange
import Derived.Deep.DeepCutAuto
import Derived.Test.YtalfgagcfjddcaaSq
import Derived.Test.YtalfgagcfjddcaaAw04
import Derived.Test.YtalfgagcfjddcaaStep
import Derived.Test.YtalfgagcfjddcaaR4H
import Derived.Test.YtalfgagcfjddcaaR4A
import Derived.Test.YtalfgagcfjddcaaWiH
import Derived.Test.YtalfgagcfjddcaaWiC
import Derived.Test.YtalfgagcfjddcaaWiS
namespace Go.Proofs.Ytalfgagcfjddcaa.L4
open Go.RowKit Go.Proofs.Ytalfgagcfjddcaa.Mk Go.Proofs.Ytalfgagcfjddcaa.Ul Go.Proofs.Ytalfgagcfjddcaa.Wd Go.Proofs.Ytalfgagcfjddcaa.Wi Go.Proofs.Ytalfgagcfjddcaa.R4 Go.Proofs.Ytalfgagcfjddcaa.Hf
theorem FB.row {g g' n : Nat} {f : Nat → Nat} {t : TypeId} {w : World} {cs : Array Value} (h : FB g n f t w) (hg : g ≠ g') : FB g n f t (w.setRow g' cs) := (setRow_other _ _ _ _ hg).trans h
theorem BR.row {b o X g : Nat} {w : World} {cs : Array Value} (h : BR w b o X) (hg : b ≠ g) : BR (w.setRow g cs) b o X := h.eq (setRow_other _ _ _ _ hg)
set_option maxHeartbeats 4000000 in
set_option maxRecDepth 100000 in
theorem lawShifts_calls (h : List UInt8) (n : Int) (w : World) (hl : h.length = 32) (hn : n ≤ 9223372036854775807) : Calls Try.prog 7 #[hv h, .int .i64 n] w fun e w' => e = .returned (.bool true) ∧ Below w.heap.size w w' := by
  have HL := Lib.hid hl
  have hle := IHl hl
  have hX := beN32 hl
  have HX := Lib.hid hX
  obtain ⟨L, hLL⟩ : ∃ L, L = [(w.heap.size, Obj.cells (hc h).toArray 23 (0, 0))] := ⟨_, rfl⟩
  have HLL := Lib.hid hLL
  have S0 : SQ L w (w.alloc (.cells (hc h).toArray 23)) := by rw [hLL]; exact ⟨KQ.cons (nw1 _ _) (KQ.nil _), bl1 _ _⟩
  have HR := Lib.hid (show ∀ wx, SQ L w wx → wx.rangeAt w.heap.size 0 (hc h) from fun wx hx => range_row (hx.1 (w.heap.size, Obj.cells (hc h).toArray 23 (0, 0)) (by rw [hLL]; simp)))
  clear hl hX hLL
  unfold hv
  go_enter Try.func7, Try.ntmps7
  go_wp2_with fail
  generalize World.alloc w _ = W at *
  have S_W0 := S0.drew
  have hsz : w.heap.size < W.drew.heap.size := S0.1.lt (p := (w.heap.size, Obj.cells (hc h).toArray 23 (0, 0))) (by rw [HLL.out]; simp)
  have HNE : Hid (∀ g, w.heap.size < g → ∀ p ∈ L, p.1 ≠ g) := Lib.hid (fun g hg p hp => by rw [HLL.out] at hp; simp at hp; rw [hp]; simp; omega)
  clear S0
  go_upto_region 1 with fail
  go_cut [5, 6] (fun s5 s6 wx => ∃ g b c, s5 = .pointer (some ⟨g, 0, none⟩) ∧ s6 = .slice (some ⟨b, 0, none⟩) 256 c ∧ Hid (FB g 4 (lb (beN h)) 37 wx ∧ BR wx b 0 (beN h) ∧ SQ L w wx))
  case first =>
    have HO := Lib.hid (fun w => of_calls h w HL.out)
    have HP := Lib.hid (fun w => rof_calls h w HL.out)
    unfold hv UV at *
    refine wp_region_held_drew (S := SQ L w) (by kernel_rfl) S_W0 (fun hHeld => ?_)
    generalize World.drew W = W0 at *
    clear hHeld
    refine wpAnyH_take (i := 0) (oi := ⟨some 7, _, _, _, _, _⟩) (v := hv h) rfl (by kernel_rfl) (by kernel_rfl) (by kernel_rfl) (fun _ _ _ h => h) (yieldsIf_load_mid (by rfl) 23 _ rfl w.heap.size 0 rfl (hc h) _ HR.out UH rfl hle) (by assumption) ?_
    try simp only [Act.put, List.setIfInBounds_toArray, List.set_cons_zero, List.set_cons_succ]
    refine wpAnyH_take (i := 2) (oi := ⟨some 9, _, _, _, _, _⟩) (v := hv h) rfl (by kernel_rfl) (by kernel_rfl) (by kernel_rfl) (fun _ _ _ h => h) (yieldsIf_load_mid (by rfl) 23 _ rfl w.heap.size 0 rfl (hc h) _ HR.out UH rfl hle) (by assumption) ?_
    try simp only [Act.put, List.setIfInBounds_toArray, List.set_cons_zero, List.set_cons_succ]
    refine wpAnyH_ready (rs := [1, 4]) (by kernel_rfl) (by simp) ?_
    refine AllReadyH.cons rfl (fun K hK => ?_) (AllReadyH.cons rfl (fun K hK => ?_) AllReadyH.nil)
    · go_simp
      go_at_call 24
      refine (HO.out _).mono ?_
      rintro r V1 ⟨rfl, hb1⟩
      have hz1 := hb1.size
      have S_V1 := S_W0.keep hb1
      try dsimp only
      refine hK.out _ _ S_V1 (fun _ => ?_)
      clear hK K
      refine wpAnyH_ready (rs := [3, 4]) (by kernel_rfl) (by simp) ?_
      refine AllReadyH.cons rfl (fun K hK => ?_) (AllReadyH.cons rfl (fun K hK => ?_) AllReadyH.nil)
      · go_simp
        go_at_call 23
        refine (HP.out _).mono ?_
        rintro r V2 ⟨b, c, rfl, R_V2, F_V2, hb2⟩
        have hl2 := R_V2.lt
        have hz2 := hb2.size
        have S_V2 := S_V1.keep hb2
        try dsimp only
        refine hK.out _ _ S_V2 (fun _ => ?_)
        clear hK K
        refine wpAnyH_ready (rs := [4]) (by kernel_rfl) (by simp) ?_
        refine AllReadyH.cons rfl (fun K hK => ?_) AllReadyH.nil
        · go_simp
          generalize hW3 : World.alloc V2 _ = V3
          have hb3 : Below V2.heap.size V2 V3 := by rw [← hW3]; exact bl1 _ _
          have G_V3 : FB V2.heap.size 4 (fun _ => 0) 37 V3 := by rw [← hW3]; exact nw1 _ _
          have hz3 : V2.heap.size < V3.heap.size := G_V3.lt
          have hg0 : w.heap.size < V2.heap.size := by omega
          clear hW3
          have S_V3 := S_V2.keep hb3
          have R_V3 := R_V2.below hb3
          have F_V3 := F_V2
          try dsimp only
          refine hK.out _ _ S_V3 (fun _ => ?_)
          clear hK K
          refine wpAnyH_ready (rs := [5]) (by kernel_rfl) (by simp) ?_
          refine AllReadyH.cons rfl (fun K hK => ?_) AllReadyH.nil
          · have hr4 := R_V3.lt
            refine step_store rfl 37 _ _ rfl _ rfl (.agg (FC 4 (lb (beN h))).toArray) rfl _ (run_storeAt_row (cells := (FC 4 (lb (beN h))).toArray) G_V3 (IN4 _) (SZ4 _ _) (FC_one _ _)) ?_
            generalize hW4 : World.setRow V3 _ _ = V4
            have S_V4 := hW4 ▸ S_V3.row (by omega) (HNE.out _ hg0)
            have R_V4 := hW4 ▸ BR.row R_V3 (by omega)
            have F_V4 := F_V3
            have G_V4 := hW4 ▸ setRow_heap _ _ _ _ _ _ G_V3
            try dsimp only
            refine hK.out _ _ S_V4 (fun _ => ?_)
            clear hK K
            refine wpAnyH_take (i := 6) (oi := ⟨some 6, _, _, _, _, _⟩) (v := .slice (some ⟨b, 0, none⟩) 256 c) rfl (by kernel_rfl) (by kernel_rfl) (by kernel_rfl) (fun _ _ _ h => h) (Or.inl ⟨by rfl, by intro wx _; go_simp⟩) (by assumption) ?_
            refine wpAnyH_done (by kernel_rfl) ?_ _
            go_wp2_with fail
            go_meet
            exact ⟨_, b, c, rfl, rfl, Lib.hid ⟨G_V4, R_V4, S_V4⟩⟩
      · go_simp
        generalize hW5 : World.alloc V1 _ = V5
        have hb5 : Below V1.heap.size V1 V5 := by rw [← hW5]; exact bl1 _ _
        have G_V5 : FB V1.heap.size 4 (fun _ => 0) 37 V5 := by rw [← hW5]; exact nw1 _ _
        have hz5 : V1.heap.size < V5.heap.size := G_V5.lt
        have hg0 : w.heap.size < V1.heap.size := by omega
        clear hW5
        have S_V5 := S_V1.keep hb5
        try dsimp only
        refine hK.out _ _ S_V5 (fun _ => ?_)
        clear hK K
        refine wpAnyH_ready (rs := [3]) (by kernel_rfl) (by simp) ?_
        refine AllReadyH.cons rfl (fun K hK => ?_) AllReadyH.nil
        · go_simp
          go_at_call 23
          refine (HP.out _).mono ?_
          rintro r V6 ⟨b, c, rfl, R_V6, F_V6, hb6⟩
          have hl6 := R_V6.lt
          have hz6 := hb6.size
          have S_V6 := S_V5.keep hb6
          have G_V6 := G_V5.keep hb6
          try dsimp only
          refine hK.out _ _ S_V6 (fun _ => ?_)
          clear hK K
          refine wpAnyH_ready (rs := [5]) (by kernel_rfl) (by simp) ?_
          refine AllReadyH.cons rfl (fun K hK => ?_) AllReadyH.nil
          · have hr7 := R_V6.lt
            refine step_store rfl 37 _ _ rfl _ rfl (.agg (FC 4 (lb (beN h))).toArray) rfl _ (run_storeAt_row (cells := (FC 4 (lb (beN h))).toArray) G_V6 (IN4 _) (SZ4 _ _) (FC_one _ _)) ?_
            generalize hW7 : World.setRow V6 _ _ = V7
            have S_V7 := hW7 ▸ S_V6.row (by omega) (HNE.out _ hg0)
            have G_V7 := hW7 ▸ setRow_heap _ _ _ _ _ _ G_V6
            have R_V7 := hW7 ▸ BR.row R_V6 (by omega)
            have F_V7 := F_V6
            try dsimp only
            refine hK.out _ _ S_V7 (fun _ => ?_)
            clear hK K
            refine wpAnyH_take (i := 6) (oi := ⟨some 6, _, _, _, _, _⟩) (v := .slice (some ⟨b, 0, none⟩) 256 c) rfl (by kernel_rfl) (by kernel_rfl) (by kernel_rfl) (fun _ _ _ h => h) (Or.inl ⟨by rfl, by intro wx _; go_simp⟩) (by assumption) ?_
            refine wpAnyH_done (by kernel_rfl) ?_ _
            go_wp2_with fail
            go_meet
            exact ⟨_, b, c, rfl, rfl, Lib.hid ⟨G_V7, R_V7, S_V7⟩⟩
    · go_simp
      generalize hW8 : World.alloc W0 _ = V8
      have hb8 : Below W0.heap.size W0 V8 := by rw [← hW8]; exact bl1 _ _
      have G_V8 : FB W0.heap.size 4 (fun _ => 0) 37 V8 := by rw [← hW8]; exact nw1 _ _
      have hz8 : W0.heap.size < V8.heap.size := G_V8.lt
      have hg0 : w.heap.size < W0.heap.size := by omega
      clear hW8
      have S_V8 := S_W0.keep hb8
      try dsimp only
      refine hK.out _ _ S_V8 (fun _ => ?_)
      clear hK K
      refine wpAnyH_ready (rs := [1]) (by kernel_rfl) (by simp) ?_
      refine AllReadyH.cons rfl (fun K hK => ?_) AllReadyH.nil
      · go_simp
        go_at_call 24
        refine (HO.out _).mono ?_
        rintro r V9 ⟨rfl, hb9⟩
        have hz9 := hb9.size
        have S_V9 := S_V8.keep hb9
        have G_V9 := G_V8.keep hb9
        try dsimp only
        refine hK.out _ _ S_V9 (fun _ => ?_)
        clear hK K
        refine wpAnyH_ready (rs := [3]) (by kernel_rfl) (by simp) ?_
        refine AllReadyH.cons rfl (fun K hK => ?_) AllReadyH.nil
        · go_simp
          go_at_call 23
          refine (HP.out _).mono ?_
          rintro r V10 ⟨b, c, rfl, R_V10, F_V10, hb10⟩
          have hl10 := R_V10.lt
          have hz10 := hb10.size
          have S_V10 := S_V9.keep hb10
          have G_V10 := G_V9.keep hb10
          try dsimp only
          refine hK.out _ _ S_V10 (fun _ => ?_)
          clear hK K
          refine wpAnyH_ready (rs := [5]) (by kernel_rfl) (by simp) ?_
          refine AllReadyH.cons rfl (fun K hK => ?_) AllReadyH.nil
          · have hr11 := R_V10.lt
            refine step_store rfl 37 _ _ rfl _ rfl (.agg (FC 4 (lb (beN h))).toArray) rfl _ (run_storeAt_row (cells := (FC 4 (lb (beN h))).toArray) G_V10 (IN4 _) (SZ4 _ _) (FC_one _ _)) ?_
            generalize hW11 : World.setRow V10 _ _ = V11
            have S_V11 := hW11 ▸ S_V10.row (by omega) (HNE.out _ hg0)
            have G_V11 := hW11 ▸ setRow_heap _ _ _ _ _ _ G_V10
            have R_V11 := hW11 ▸ BR.row R_V10 (by omega)
            have F_V11 := F_V10
            try dsimp only
            refine hK.out _ _ S_V11 (fun _ => ?_)
            clear hK K
            refine wpAnyH_take (i := 6) (oi := ⟨some 6, _, _, _, _, _⟩) (v := .slice (some ⟨b, 0, none⟩) 256 c) rfl (by kernel_rfl) (by kernel_rfl) (by kernel_rfl) (fun _ _ _ h => h) (Or.inl ⟨by rfl, by intro wx _; go_simp⟩) (by assumption) ?_
            refine wpAnyH_done (by kernel_rfl) ?_ _
            go_wp2_with fail
            go_meet
            exact ⟨_, b, c, rfl, rfl, Lib.hid ⟨G_V11, R_V11, S_V11⟩⟩
  case rest =>
    obtain ⟨g, b, c, rfl, rfl, hq⟩ := hcut
    have HX2 := Lib.hid ((lim _).1 HX.out)
    have HA := Lib.hid (fun w => awake_calls w)
    generalize beN h = X at *
    have H1 := Lib.hid (fun w => shr_calls X n w HX.out)
    have H3 := Lib.hid (fun w r1 => rshr_calls X b 0 c n w HX2.out r1 hn)
    have H5 := Lib.hid (fun w => len_calls X w HX.out)
    have H6 := Lib.hid (fun w r1 => rlen_calls X b 0 c w HX2.out r1)
    have HY := Lib.hid (Nat.lt_of_le_of_lt (shrI_le X n) HX2.out)
    generalize shrI X n = Y at *
    have H2 := Lib.hid (fun w => hash_calls Y w)
    have H4 := Lib.hid (fun b c w r1 => rhash_calls Y b 0 c w HY.out r1)
    have HLl := Lib.hid (beL_len 32 Y)
    generalize beL 32 Y = y at *
    unfold UV at *
    obtain ⟨f, hf⟩ : ∃ f, f = lb X := ⟨_, rfl⟩
    rw [← hf] at H1 H5 hq
    clear hf
    generalize lb Y = fy at *
    have Q1 := Lib.hid hq.out.1
    have Q2 := Lib.hid hq.out.2.1
    have Q3 := Lib.hid hq.out.2.2.2
    clear hq S_W0 hsz HR
    go_wp2_with (first | (refine wpList_load_row (by rfl) 37 (.tmp 5) (by rfl) _ (by rfl) _ _ _ _ Q1.out UN4 rfl (IN4 _) ?_))
    refine (H1.out _).mono ?_
    rintro e w1 ⟨rfl, hb1⟩
    have Q1 := Lib.hid (Q1.out.keep hb1)
    have Q2 := Lib.hid (Q2.out.below hb1)
    have Q3 := Lib.hid (below_up Q3.out hb1)
    clear hb1
    go_wp2_with fail
    refine (H2.out _).mono ?_
    rintro e w2 ⟨rfl, hb2⟩
    have Q1 := Lib.hid (Q1.out.keep hb2)
    have Q2 := Lib.hid (Q2.out.below hb2)
    have Q3 := Lib.hid (below_up Q3.out hb2)
    clear hb2
    go_wp2_with fail
    refine (H3.out _ Q2.out).mono ?_
    rintro e w3 ⟨b3, c3, rfl, r3, _, hb3⟩
    have R3 := Lib.hid r3
    have Q1 := Lib.hid (Q1.out.keep hb3)
    have Q2 := Lib.hid (Q2.out.below hb3)
    have Q3 := Lib.hid (below_up Q3.out hb3)
    clear hb3 r3
    go_wp2_with fail
    refine (H4.out b3 c3 _ R3.out).mono ?_
    rintro e w4 ⟨rfl, hb4⟩
    have Q1 := Lib.hid (Q1.out.keep hb4)
    have Q2 := Lib.hid (Q2.out.below hb4)
    have Q3 := Lib.hid (below_up Q3.out hb4)
    clear hb4 R3
    go_wp2_with (first | (refine wpList_value (by rfl) (.bool true) (run_bin (x := .tmp 14) (y := .tmp 18) (by rfl) (by rfl) (by rfl) (eqHg _ _ _) (eqHr HLl.out _)) ?_) | (refine wpList_loadg (by rfl) 37 (.tmp 5) (by rfl) _ (by rfl) _ (ldAt4 Q1.out) ?_))
    refine (H5.out _).mono ?_
    rintro e w5 ⟨rfl, hb5⟩
    have Q2 := Lib.hid (Q2.out.below hb5)
    have Q3 := Lib.hid (below_up Q3.out hb5)
    clear hb5
    go_wp2_with fail
    refine (H6.out _ Q2.out).mono ?_
    rintro e w6 ⟨rfl, rfl⟩
    go_wp2_with fail
    refine (HA.out _).mono ?_
    rintro e w7 ⟨rfl, hb7⟩
    have Q3 := Lib.hid (below_up Q3.out hb7)
    clear hb7
    go_wp2_with fail
    go_ret
    exact ⟨rfl, Q3.out⟩
end Go.Proofs.Ytalfgagcfjddcaa.L4
