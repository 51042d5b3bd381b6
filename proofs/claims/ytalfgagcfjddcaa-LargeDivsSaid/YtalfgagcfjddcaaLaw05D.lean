/- The walk of chapter 5's law LargeDivs. -/
import Derived.Test.YtalfgagcfjddcaaLaw05A
import Derived.Test.YtalfgagcfjddcaaStep
namespace Go.Proofs.Ytalfgagcfjddcaa.Lg
open Go.RowKit Go.Proofs.Ytalfgagcfjddcaa.Mk Go.Proofs.Ytalfgagcfjddcaa.Ul Go.Proofs.Ytalfgagcfjddcaa.Wi Go.Proofs.Ytalfgagcfjddcaa.Wd Go.Proofs.Ytalfgagcfjddcaa.R5
theorem eqL_self (f : Nat → Nat) (w : World) : (binOp .eql 49 (.agg (FC 5 f).toArray) (.agg (FC 5 f).toArray)).run Try.prog w = .ok (.bool true) w := by
  have e1 : FC 5 f = ((List.range 5).map fun i => (f i : Int)).map (Value.int .u64) := by simp [FC]
  rw [e1, run_eql_ints w 49 35 .u64 5 UN5 U64' Try.sizeOf35 _ _ (by simp) (by simp)]
  simp
set_option maxHeartbeats 8000000 in
set_option maxRecDepth 100000 in
theorem largeDivs_calls (X y : Nat) (w : World) (hX : X < (2 ^ 64) ^ 5) (hy : y < 4294967296) : Calls Try.prog 12 #[UV 5 X, .int .u32 y] w fun e w' => e = .returned (.bool true) ∧ Below w.heap.size w w' := by
  have S0 := Lib.hid (SQ.new w (oL (lb X)))
  have A8 := Lib.hid (fun w => awake5_calls w)
  have q2 := eqLg
  by_cases h0 : y = 0
  · subst h0
    have A1 := Lib.hid (fun w => div0_calls X w)
    have q1 := eqL0 (Z := 0) (Nat.pow_pos (by decide))
    rw [decide_eq_true rfl] at q1
    clear hX hy
    unfold UV at *
    go_enter Try.func12, Try.ntmps12
    go_wp2_with (refine wpList_load_row (by rfl) 49 (.tmp 2) (by rfl) _ (by rfl) _ _ _ _ S0.out.a0 UN5 rfl (IN5 _) ?_)
    refine (A1.out _).mono ?_
    rintro e w1 ⟨rfl, hb1⟩
    have S := Lib.hid ((S0.out.keep hb1).alloc (oL (lb 0)))
    clear hb1 S0
    go_wp2_with (first | (refine wpList_store_last rfl 49 _ _ rfl _ (FC 5 (lb 0)).toArray rfl rfl (IN5 _) (by rw [FC_size]; rfl) (FC_one _ _) ?_) | (refine wpList_load_row (by rfl) 49 (.tmp 5) (by rfl) _ (by rfl) _ _ _ _ S.out.a0 UN5 rfl (IN5 _) ?_))
    refine (A8.out _).mono ?_
    rintro e w4 ⟨rfl, hb4⟩
    have S := Lib.hid (S.out.keep hb4)
    clear hb4
    go_wp2_with fail
    go_ret
    exact ⟨rfl, S.out.2⟩
  · have h1 : 0 < y := by omega
    have hq : X / y * y ≤ X := Nat.div_mul_le_self X y
    have hm := Nat.mod_lt X h1
    have A1 := Lib.hid (fun w => div_calls X y w hX h1 hy)
    have A2 := (fun w => mul_calls (X / y) y w (Nat.lt_of_le_of_lt (Nat.div_le_self _ _) hX) (by omega))
    have A3 := Lib.hid (fun w => lof_calls (X % y) w (by omega))
    have A4 := (fun w => ladd_calls (X / y * y) (X % y) w (Nat.lt_of_le_of_lt hq hX) (Nat.lt_of_le_of_lt (Nat.mod_le _ _) hX))
    rw [LR_yes (Nat.lt_of_le_of_lt hq hX)] at A2
    rw [Nat.div_add_mod' X y, LR_yes hX] at A4
    have A2 := Lib.hid A2
    have A4 := Lib.hid A4
    have hr : X % y < 4294967296 := by omega
    clear hX hq
    generalize X % y = r at *
    generalize X / y * y = p at *
    generalize X / y = q at *
    unfold UV at *
    have q1 := eqL_self (lb X)
    go_enter Try.func12, Try.ntmps12
    go_wp2_with (refine wpList_load_row (by rfl) 49 (.tmp 2) (by rfl) _ (by rfl) _ _ _ _ S0.out.a0 UN5 rfl (IN5 _) ?_)
    refine (A1.out _).mono ?_
    rintro e w1 ⟨rfl, hb1⟩
    have S := Lib.hid ((S0.out.keep hb1).alloc (oL (lb q)))
    clear hb1 S0
    go_wp2_with (first | (refine wpList_store_last rfl 49 _ _ rfl _ (FC 5 (lb q)).toArray rfl rfl (IN5 _) (by rw [FC_size]; rfl) (FC_one _ _) ?_) | (refine wpList_load_row (by rfl) 49 (.tmp 5) (by rfl) _ (by rfl) _ _ _ _ S.out.a0 UN5 rfl (IN5 _) ?_))
    refine (A2.out _).mono ?_
    rintro e w2 ⟨rfl, hb2⟩
    have S := Lib.hid ((S.out.keep hb2).alloc (oL (lb p)))
    clear hb2
    go_wp2_with (first | (refine wpList_store_last rfl 49 _ _ rfl _ (FC 5 (lb p)).toArray rfl rfl (IN5 _) (by rw [FC_size]; rfl) (FC_one _ _) ?_))
    go_cut [9, 10] (fun s9 s10 wx => ∃ g, s9 = .pointer (some ⟨g, 0, none⟩) ∧ s10 = .bool true ∧ Hid (SQ [(g, oL (lb X)), (w2.heap.size, oL (lb p)), (w1.heap.size, oL (lb q)), (w.heap.size, oL (lb X))] w wx))
    case first =>
      have hs0 : w.heap.size ≤ w2.heap.size := by
        have := FB.lt (f := lb X) (n := 5) (t := 49) S.out.a2
        simp at this
        omega
      have hs1 : w1.heap.size ≤ w2.heap.size := by
        have := FB.lt (f := lb q) (n := 5) (t := 49) S.out.a1
        simp at this
        omega
      have hsz : w2.heap.size < ((w2.alloc (oL (lb p))).drew).heap.size := by show _ < (w2.alloc (oL (lb p))).heap.size; simp
      have S_W0 := S.out.drew
      clear S
      obtain ⟨L, hL⟩ : ∃ L, L = [(w2.heap.size, oL (lb p)), (w1.heap.size, oL (lb q)), (w.heap.size, oL (lb X))] := ⟨_, rfl⟩
      rw [← hL] at S_W0
      have HL := Lib.hid hL
      have Q0 := Lib.hid (show ∀ wx, SQ L w wx → wx.heap[w2.heap.size]? = some (oL (lb p)) from fun wx hx => by rw [hL] at hx; exact hx.a0)
      have HNE : Hid (∀ g, w2.heap.size < g → ∀ p ∈ L, p.1 ≠ g) := Lib.hid (fun g hg p hp => by rw [hL] at hp; simp at hp; rcases hp with rfl | rfl | rfl <;> simp <;> omega)
      clear hL
      have hwr : IntKind.u64.wrap (r : Int) = (r : Int) := by rw [IntKind.wrap_u64]; omega
      refine wp_region_held_drew (S := SQ L w) (by kernel_rfl) S_W0 (fun hHeld => ?_)
      generalize World.drew (w2.alloc (oL (lb p))) = W0 at *
      clear hHeld
      refine wpAnyH_take (i := 0) (oi := ⟨some 37, _, _, _, _, _⟩) (v := .agg (FC 5 (lb p)).toArray) rfl (by kernel_rfl) (by kernel_rfl) (by kernel_rfl) (fun _ _ _ h => h) (yieldsIf_load_mid (by rfl) 49 _ rfl (w2.heap.size) 0 rfl (FC 5 (lb p)) _ (fun wx hx => range_row (Q0.out _ hx)) UN5 rfl (by rw [FC_len]; kernel_rfl)) (by assumption) ?_
      try simp only [Act.put, List.setIfInBounds_toArray, List.set_cons_zero, List.set_cons_succ]
      refine wpAnyH_take (i := 1) (oi := ⟨some 38, _, _, _, _, _⟩) (v := .int .u32 r) rfl (by kernel_rfl) (by kernel_rfl) (by kernel_rfl) (fun _ _ _ h => h) (Or.inl ⟨by rfl, by intro wx _; go_simp⟩) (by assumption) ?_
      try simp only [Act.put, List.setIfInBounds_toArray, List.set_cons_zero, List.set_cons_succ]
      refine wpAnyH_take (i := 2) (oi := ⟨some 39, _, _, _, _, _⟩) (v := .int .u64 r) rfl (by kernel_rfl) (by kernel_rfl) (by kernel_rfl) (fun _ _ _ h => h) (Or.inl ⟨by rfl, by intro wx _; go_simp⟩) (by assumption) ?_
      try simp only [Act.put, List.setIfInBounds_toArray, List.set_cons_zero, List.set_cons_succ]
      refine wpAnyH_ready (rs := [3, 8]) (by kernel_rfl) (by simp) ?_
      refine AllReadyH.cons rfl (fun K hK => ?_) (AllReadyH.cons rfl (fun K hK => ?_) AllReadyH.nil)
      · go_simp
        go_at_call 43
        refine (A3.out _).mono ?_
        rintro e V1 ⟨rfl, hb1⟩
        have hz1 := hb1.size
        have S_V1 := S_W0.keep hb1
        try dsimp only
        refine hK.out _ _ S_V1 (fun _ => ?_)
        clear hK K
        refine wpAnyH_ready (rs := [4, 8]) (by kernel_rfl) (by simp) ?_
        refine AllReadyH.cons rfl (fun K hK => ?_) (AllReadyH.cons rfl (fun K hK => ?_) AllReadyH.nil)
        · go_simp
          go_at_call 34
          refine (A4.out _).mono ?_
          rintro e V2 ⟨rfl, hb2⟩
          have hz2 := hb2.size
          have S_V2 := S_V1.keep hb2
          try dsimp only
          refine hK.out _ _ S_V2 (fun _ => ?_)
          clear hK K
          refine wpAnyH_take (i := 5) (oi := ⟨some 36, _, _, _, _, _⟩) (v := .tuple #[.agg (FC 5 (lb X)).toArray, .bool true]) rfl (by kernel_rfl) (by kernel_rfl) (by kernel_rfl) (fun _ _ _ h => h) (Or.inl ⟨by rfl, by intro wx _; go_simp⟩) (by assumption) ?_
          refine wpAnyH_take (i := 6) (oi := ⟨some 42, _, _, _, _, _⟩) (v := .agg (FC 5 (lb X)).toArray) rfl (by kernel_rfl) (by kernel_rfl) (by kernel_rfl) (fun _ _ _ h => h) (Or.inl ⟨by rfl, by intro wx _; go_simp⟩) (by assumption) ?_
          refine wpAnyH_take (i := 7) (oi := ⟨some 43, _, _, _, _, _⟩) (v := .bool true) rfl (by kernel_rfl) (by kernel_rfl) (by kernel_rfl) (fun _ _ _ h => h) (Or.inl ⟨by rfl, by intro wx _; go_simp⟩) (by assumption) ?_
          refine wpAnyH_ready (rs := [8]) (by kernel_rfl) (by simp) ?_
          refine AllReadyH.cons rfl (fun K hK => ?_) AllReadyH.nil
          · go_simp
            generalize hW3 : World.alloc V2 _ = V3
            have hb3 : Below V2.heap.size V2 V3 := by rw [← hW3]; exact bl1 _ _
            have G_V3 : FB V2.heap.size 5 (fun _ => 0) 49 V3 := by rw [← hW3]; exact nw1 _ _
            have hz3 : V2.heap.size < V3.heap.size := G_V3.lt
            have hg0 : w2.heap.size < V2.heap.size := by omega
            clear hW3
            have S_V3 := S_V2.keep hb3
            try dsimp only
            refine hK.out _ _ S_V3 (fun _ => ?_)
            clear hK K
            refine wpAnyH_ready (rs := [9]) (by kernel_rfl) (by simp) ?_
            refine AllReadyH.cons rfl (fun K hK => ?_) AllReadyH.nil
            · refine step_store rfl 49 _ _ rfl _ rfl (.agg (FC 5 (lb X)).toArray) rfl _ (run_storeAt_row (cells := (FC 5 (lb X)).toArray) G_V3 (IN5 _) (SZ5 _ _) (FC_one _ _)) ?_
              generalize hW4 : World.setRow V3 _ _ = V4
              have S_V4 := hW4 ▸ S_V3.row (by omega) (HNE.out _ hg0)
              have G_V4 := hW4 ▸ setRow_heap _ _ _ _ _ _ G_V3
              try dsimp only
              refine hK.out _ _ S_V4 (fun _ => ?_)
              clear hK K
              refine wpAnyH_take (i := 10) (oi := ⟨some 10, _, _, _, _, _⟩) (v := .bool true) rfl (by kernel_rfl) (by kernel_rfl) (by kernel_rfl) (fun _ _ _ h => h) (Or.inl ⟨by rfl, by intro wx _; go_simp⟩) (by assumption) ?_
              refine wpAnyH_done (by kernel_rfl) ?_ _
              go_wp2_with fail
              go_meet
              exact ⟨_, rfl, rfl, Lib.hid (by rw [← HL.out]; exact S_V4.add G_V4)⟩
        · go_simp
          generalize hW5 : World.alloc V1 _ = V5
          have hb5 : Below V1.heap.size V1 V5 := by rw [← hW5]; exact bl1 _ _
          have G_V5 : FB V1.heap.size 5 (fun _ => 0) 49 V5 := by rw [← hW5]; exact nw1 _ _
          have hz5 : V1.heap.size < V5.heap.size := G_V5.lt
          have hg0 : w2.heap.size < V1.heap.size := by omega
          clear hW5
          have S_V5 := S_V1.keep hb5
          try dsimp only
          refine hK.out _ _ S_V5 (fun _ => ?_)
          clear hK K
          refine wpAnyH_ready (rs := [4]) (by kernel_rfl) (by simp) ?_
          refine AllReadyH.cons rfl (fun K hK => ?_) AllReadyH.nil
          · go_simp
            go_at_call 34
            refine (A4.out _).mono ?_
            rintro e V6 ⟨rfl, hb6⟩
            have hz6 := hb6.size
            have S_V6 := S_V5.keep hb6
            have G_V6 := G_V5.keep hb6
            try dsimp only
            refine hK.out _ _ S_V6 (fun _ => ?_)
            clear hK K
            refine wpAnyH_take (i := 5) (oi := ⟨some 36, _, _, _, _, _⟩) (v := .tuple #[.agg (FC 5 (lb X)).toArray, .bool true]) rfl (by kernel_rfl) (by kernel_rfl) (by kernel_rfl) (fun _ _ _ h => h) (Or.inl ⟨by rfl, by intro wx _; go_simp⟩) (by assumption) ?_
            refine wpAnyH_take (i := 6) (oi := ⟨some 42, _, _, _, _, _⟩) (v := .agg (FC 5 (lb X)).toArray) rfl (by kernel_rfl) (by kernel_rfl) (by kernel_rfl) (fun _ _ _ h => h) (Or.inl ⟨by rfl, by intro wx _; go_simp⟩) (by assumption) ?_
            refine wpAnyH_take (i := 7) (oi := ⟨some 43, _, _, _, _, _⟩) (v := .bool true) rfl (by kernel_rfl) (by kernel_rfl) (by kernel_rfl) (fun _ _ _ h => h) (Or.inl ⟨by rfl, by intro wx _; go_simp⟩) (by assumption) ?_
            refine wpAnyH_ready (rs := [9]) (by kernel_rfl) (by simp) ?_
            refine AllReadyH.cons rfl (fun K hK => ?_) AllReadyH.nil
            · refine step_store rfl 49 _ _ rfl _ rfl (.agg (FC 5 (lb X)).toArray) rfl _ (run_storeAt_row (cells := (FC 5 (lb X)).toArray) G_V6 (IN5 _) (SZ5 _ _) (FC_one _ _)) ?_
              generalize hW7 : World.setRow V6 _ _ = V7
              have S_V7 := hW7 ▸ S_V6.row (by omega) (HNE.out _ hg0)
              have G_V7 := hW7 ▸ setRow_heap _ _ _ _ _ _ G_V6
              try dsimp only
              refine hK.out _ _ S_V7 (fun _ => ?_)
              clear hK K
              refine wpAnyH_take (i := 10) (oi := ⟨some 10, _, _, _, _, _⟩) (v := .bool true) rfl (by kernel_rfl) (by kernel_rfl) (by kernel_rfl) (fun _ _ _ h => h) (Or.inl ⟨by rfl, by intro wx _; go_simp⟩) (by assumption) ?_
              refine wpAnyH_done (by kernel_rfl) ?_ _
              go_wp2_with fail
              go_meet
              exact ⟨_, rfl, rfl, Lib.hid (by rw [← HL.out]; exact S_V7.add G_V7)⟩
      · go_simp
        generalize hW8 : World.alloc W0 _ = V8
        have hb8 : Below W0.heap.size W0 V8 := by rw [← hW8]; exact bl1 _ _
        have G_V8 : FB W0.heap.size 5 (fun _ => 0) 49 V8 := by rw [← hW8]; exact nw1 _ _
        have hz8 : W0.heap.size < V8.heap.size := G_V8.lt
        have hg0 : w2.heap.size < W0.heap.size := by omega
        clear hW8
        have S_V8 := S_W0.keep hb8
        try dsimp only
        refine hK.out _ _ S_V8 (fun _ => ?_)
        clear hK K
        refine wpAnyH_ready (rs := [3]) (by kernel_rfl) (by simp) ?_
        refine AllReadyH.cons rfl (fun K hK => ?_) AllReadyH.nil
        · go_simp
          go_at_call 43
          refine (A3.out _).mono ?_
          rintro e V9 ⟨rfl, hb9⟩
          have hz9 := hb9.size
          have S_V9 := S_V8.keep hb9
          have G_V9 := G_V8.keep hb9
          try dsimp only
          refine hK.out _ _ S_V9 (fun _ => ?_)
          clear hK K
          refine wpAnyH_ready (rs := [4]) (by kernel_rfl) (by simp) ?_
          refine AllReadyH.cons rfl (fun K hK => ?_) AllReadyH.nil
          · go_simp
            go_at_call 34
            refine (A4.out _).mono ?_
            rintro e V10 ⟨rfl, hb10⟩
            have hz10 := hb10.size
            have S_V10 := S_V9.keep hb10
            have G_V10 := G_V9.keep hb10
            try dsimp only
            refine hK.out _ _ S_V10 (fun _ => ?_)
            clear hK K
            refine wpAnyH_take (i := 5) (oi := ⟨some 36, _, _, _, _, _⟩) (v := .tuple #[.agg (FC 5 (lb X)).toArray, .bool true]) rfl (by kernel_rfl) (by kernel_rfl) (by kernel_rfl) (fun _ _ _ h => h) (Or.inl ⟨by rfl, by intro wx _; go_simp⟩) (by assumption) ?_
            refine wpAnyH_take (i := 6) (oi := ⟨some 42, _, _, _, _, _⟩) (v := .agg (FC 5 (lb X)).toArray) rfl (by kernel_rfl) (by kernel_rfl) (by kernel_rfl) (fun _ _ _ h => h) (Or.inl ⟨by rfl, by intro wx _; go_simp⟩) (by assumption) ?_
            refine wpAnyH_take (i := 7) (oi := ⟨some 43, _, _, _, _, _⟩) (v := .bool true) rfl (by kernel_rfl) (by kernel_rfl) (by kernel_rfl) (fun _ _ _ h => h) (Or.inl ⟨by rfl, by intro wx _; go_simp⟩) (by assumption) ?_
            refine wpAnyH_ready (rs := [9]) (by kernel_rfl) (by simp) ?_
            refine AllReadyH.cons rfl (fun K hK => ?_) AllReadyH.nil
            · refine step_store rfl 49 _ _ rfl _ rfl (.agg (FC 5 (lb X)).toArray) rfl _ (run_storeAt_row (cells := (FC 5 (lb X)).toArray) G_V10 (IN5 _) (SZ5 _ _) (FC_one _ _)) ?_
              generalize hW11 : World.setRow V10 _ _ = V11
              have S_V11 := hW11 ▸ S_V10.row (by omega) (HNE.out _ hg0)
              have G_V11 := hW11 ▸ setRow_heap _ _ _ _ _ _ G_V10
              try dsimp only
              refine hK.out _ _ S_V11 (fun _ => ?_)
              clear hK K
              refine wpAnyH_take (i := 10) (oi := ⟨some 10, _, _, _, _, _⟩) (v := .bool true) rfl (by kernel_rfl) (by kernel_rfl) (by kernel_rfl) (fun _ _ _ h => h) (Or.inl ⟨by rfl, by intro wx _; go_simp⟩) (by assumption) ?_
              refine wpAnyH_done (by kernel_rfl) ?_ _
              go_wp2_with fail
              go_meet
              exact ⟨_, rfl, rfl, Lib.hid (by rw [← HL.out]; exact S_V11.add G_V11)⟩
    case rest =>
      obtain ⟨g, rfl, rfl, S⟩ := hcut
      clear A1 A2 A3 A4
      go_wp2_with (first | (refine wpList_loadg (by rfl) 49 (.tmp 9) (by rfl) _ (by rfl) _ (ldAt5 S.out.a0) ?_) | (refine wpList_loadg (by rfl) 49 (.tmp 2) (by rfl) _ (by rfl) _ (ldAt5 S.out.a3) ?_))
      refine (A8.out _).mono ?_
      rintro e w4 ⟨rfl, hb4⟩
      have S := Lib.hid (S.out.keep hb4)
      clear hb4
      go_wp2_with fail
      go_ret
      exact ⟨rfl, S.out.2⟩
end Go.Proofs.Ytalfgagcfjddcaa.Lg
