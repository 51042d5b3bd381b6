/- The walk of chapter 5's law LargeTells. -/
import Derived.Test.YtalfgagcfjddcaaLaw05A
import Derived.Test.YtalfgagcfjddcaaLaw05Q
import Derived.Test.YtalfgagcfjddcaaLaw05D
namespace Go.Proofs.Ytalfgagcfjddcaa.Lg
open Go.RowKit Go.Proofs.Ytalfgagcfjddcaa.Mk Go.Proofs.Ytalfgagcfjddcaa.Ul Go.Proofs.Ytalfgagcfjddcaa.Wi Go.Proofs.Ytalfgagcfjddcaa.Wd Go.Proofs.Ytalfgagcfjddcaa.R5
theorem pf_next {X i : Nat} (hX : X < (2 ^ 64) ^ 5) (h : i < (decL X).length) : LR (pf X i * 10) = .tuple #[UV 5 (pf X i * 10), .bool true] ∧ LR (pf X i * 10 + dgt X i) = .tuple #[UV 5 (pf X (i + 1)), .bool true] := by
  have h1 := pf_step X i h
  have h2 := pf_le X (i + 1)
  constructor
  · exact LR_yes (Nat.lt_of_le_of_lt (by omega) hX)
  · rw [h1]
    exact LR_yes (Nat.lt_of_le_of_lt h2 hX)
theorem get_digit (X i : Nat) (h : i < (ba (decL X)).size) : ((ba (decL X))[i]).toNat = 48 + dgt X i := by
  have e := decL_get X i h
  have e2 := bs_get (ba (decL X)) i h h
  rw [← e2]
  exact e
set_option maxHeartbeats 16000000 in
set_option maxRecDepth 100000 in
theorem largeTells_calls (X : Nat) (w : World) (hX : X < (2 ^ 64) ^ 5) : Calls Try.prog 13 #[UV 5 X] w fun e w' => e = .returned (.bool true) ∧ Below w.heap.size w w' := by
  have A1 := Lib.hid (fun w => text_calls X w hX)
  have A2 := Lib.hid (fun i w (h : i < (ba (decL X)).size) => (pf_next hX h).1 ▸ mul_calls (pf X i) 10 w (Nat.lt_of_le_of_lt (pf_le X i) hX) (by decide))
  have A3 := Lib.hid (fun i w => lof_calls (dgt X i) w (by have := dgt_lt X i; omega))
  have A4 := Lib.hid (fun i w (h : i < (ba (decL X)).size) => (pf_next hX h).2 ▸ ladd_calls (pf X i * 10) (dgt X i) w (by
    have h1 := pf_step X i h
    have h2 := pf_le X (i + 1)
    exact Nat.lt_of_le_of_lt (by omega) hX) (Nat.lt_of_lt_of_le (dgt_lt X i) (by decide)))
  have S0 := Lib.hid (SQ.new w (oL (lb X)))
  have HM := Lib.hid (fun g w h => limbs_calls X g 0 5 5 w hX (by decide) (by decide) h)
  have A5 := Lib.hid (fun v w h => r5text_calls X v w (dn_lim hX) h)
  have A8 := Lib.hid (fun w => awake5_calls w)
  have HG := Lib.hid (fun i (h : i < (ba (decL X)).size) => get_digit X i h)
  have HD := Lib.hid (show pf X (ba (decL X)).size = X from pf_done X)
  have HZ := Lib.hid (show lb (pf X 0) = fun _ => 0 by rw [pf_zero]; exact lb_zero)
  have HT := Lib.hid (fun i => dgt_lt X i)
  have hlen : (ba (decL X)).size ≤ 97 := by
    rw [ba_size]
    simp only [decL, List.length_reverse]
    exact d10_len 96 X (Nat.lt_of_lt_of_le hX (by decide))
  have q2 := eqLg
  have q1 := eqL_self (lb X)
  clear hX
  generalize ba (decL X) = s at *
  unfold UV at *
  go_enter Try.func13, Try.ntmps13
  go_wp2_with (refine wpList_load_row (by rfl) 49 (.tmp 1) (by rfl) _ (by rfl) _ _ _ _ S0.out.a0 UN5 rfl (IN5 _) ?_)
  refine (A1.out _).mono ?_
  rintro e w1 ⟨rfl, hb1⟩
  have S := Lib.hid ((S0.out.keep hb1).alloc (oL fun _ => 0))
  have hw1 : w.heap.size < w1.heap.size := by
    have := hb1.size
    simp at this
    omega
  clear hb1 S0
  go_wp2_with fail
  go_loopw [5] (fun s5 wr => ∃ i : Nat, i ≤ s.size ∧ s5 = .int .i64 i ∧ Hid (SQ [(w1.heap.size, oL (lb (pf X i))), (w.heap.size, oL (lb X))] w wr)) (fun s5 _ => s.size - (intOf s5).toNat)
  case atStart => exact ⟨0, by omega, rfl, by rw [HZ.out]; exact S⟩
  case round =>
    clear S
    obtain ⟨i, hi, rfl, S⟩ := hrel
    by_cases hlt : i < s.size
    · have B2 := Lib.hid (fun w => A2.out i w hlt)
      have B3 := Lib.hid (fun w => A3.out i w)
      have B4 := Lib.hid (fun w => A4.out i w hlt)
      have hdg := HG.out i hlt
      have hd10 := HT.out i
      obtain ⟨c, hcs⟩ : ∃ c, s[i]'hlt = c := ⟨_, rfl⟩
      rw [hcs] at hdg
      have S1 := S
      generalize pf X i * 10 = p at *
      generalize dgt X i = d at *
      obtain ⟨f1, hf1⟩ : ∃ f, f = lb (pf X (i + 1)) := ⟨_, rfl⟩
      have HF1 := Lib.hid hf1
      rw [← hf1] at B4
      clear hf1
      obtain ⟨f0, hf0⟩ : ∃ f, f = lb (pf X i) := ⟨_, rfl⟩
      rw [← hf0] at B2 S S1
      clear hf0 A2 A3 A4 A5 HG HD HZ HT HM S1
      go_wp2_with (first | (refine wpList_load_row (by rfl) 49 (.tmp 4) (by rfl) _ (by rfl) _ _ _ _ S.out.a0 UN5 rfl (IN5 _) ?_))
      refine (B2.out _).mono ?_
      rintro e w2 ⟨rfl, hb2⟩
      have S2 := Lib.hid ((S.out.keep hb2).alloc (oL (lb p)))
      have hw2 : w1.heap.size < w2.heap.size := by
        have h1 := hb2.size
        have h2 : w1.heap.size < wr.heap.size := (Array.getElem?_eq_some_iff.1 S.out.a0).1
        omega
      clear hb2 S
      go_wp2_with (first | (refine wpList_store_last rfl 49 _ _ rfl _ (FC 5 (lb p)).toArray rfl rfl (IN5 _) (by rw [FC_size]; rfl) (FC_one _ _) ?_))
      go_cut [8, 9] (fun s8 s9 wx => ∃ g, s8 = .pointer (some ⟨g, 0, none⟩) ∧ s9 = .bool true ∧ Hid (SQ [(g, oL f1), (w2.heap.size, oL (lb p)), (w1.heap.size, oL f0), (w.heap.size, oL (lb X))] w wx))
      case first =>
        have hsz : w2.heap.size < ((w2.alloc (oL (lb p))).drew).heap.size := by show _ < (w2.alloc (oL (lb p))).heap.size; simp
        have S_W0 := S2.out.drew
        clear S2
        obtain ⟨L, hL⟩ : ∃ L, L = [(w2.heap.size, oL (lb p)), (w1.heap.size, oL f0), (w.heap.size, oL (lb X))] := ⟨_, rfl⟩
        rw [← hL] at S_W0
        have HL := Lib.hid hL
        have Q0 := Lib.hid (show ∀ wx, SQ L w wx → wx.heap[w2.heap.size]? = some (oL (lb p)) from fun wx hx => by rw [hL] at hx; exact hx.a0)
        have HNE : Hid (∀ g, w2.heap.size < g → ∀ p ∈ L, p.1 ≠ g) := Lib.hid (fun g hg p hp => by rw [hL] at hp; simp at hp; rcases hp with rfl | rfl | rfl <;> simp <;> omega)
        clear hL
        have hc0 : (0 : Int) ≤ (i : Int) := by omega
        have hc1 : (i : Int) < (s.size : Int) := by omega
        have hc2 : IntKind.u64.wrap (c.toNat : Int) = (c.toNat : Int) := by rw [IntKind.wrap_u64]; omega
        have hc3 : IntKind.u64.wrap ((c.toNat : Int) - 48) = (d : Int) := by rw [IntKind.wrap_u64]; omega
        clear hdg
        refine wp_region_held_drew (S := SQ L w) (by kernel_rfl) S_W0 (fun hHeld => ?_)
        generalize World.drew (w2.alloc (oL (lb p))) = W0 at *
        clear hHeld
        refine wpAnyH_take (i := 0) (oi := ⟨some 24, _, _, _, _, _⟩) (v := .agg (FC 5 (lb p)).toArray) rfl (by kernel_rfl) (by kernel_rfl) (by kernel_rfl) (fun _ _ _ h => h) (yieldsIf_load_mid (by rfl) 49 _ rfl (w2.heap.size) 0 rfl (FC 5 (lb p)) _ (fun wx hx => range_row (Q0.out _ hx)) UN5 rfl (by rw [FC_len]; kernel_rfl)) (by assumption) ?_
        try simp only [Act.put, List.setIfInBounds_toArray, List.set_cons_zero, List.set_cons_succ]
        refine wpAnyH_take (i := 1) (oi := ⟨some 25, _, _, _, _, _⟩) (v := .string s) rfl (by kernel_rfl) (by kernel_rfl) (by kernel_rfl) (fun _ _ _ h => h) (Or.inl ⟨by rfl, by intro wx _; go_simp⟩) (by assumption) ?_
        try simp only [Act.put, List.setIfInBounds_toArray, List.set_cons_zero, List.set_cons_succ]
        refine wpAnyH_take (i := 2) (oi := ⟨some 26, _, _, _, _, _⟩) (v := .int .i64 (i : Int)) rfl (by kernel_rfl) (by kernel_rfl) (by kernel_rfl) (fun _ _ _ h => h) (Or.inl ⟨by rfl, by intro wx _; go_simp⟩) (by assumption) ?_
        try simp only [Act.put, List.setIfInBounds_toArray, List.set_cons_zero, List.set_cons_succ]
        refine wpAnyH_take (i := 3) (oi := ⟨some 27, _, _, _, _, _⟩) (v := .int .u8 (c.toNat : Int)) rfl (by kernel_rfl) (by kernel_rfl) (by kernel_rfl) (fun _ _ _ h => h) (Or.inl ⟨by rfl, by intro wx _; go_simp⟩) (by assumption) ?_
        try simp only [Act.put, List.setIfInBounds_toArray, List.set_cons_zero, List.set_cons_succ]
        refine wpAnyH_take (i := 4) (oi := ⟨some 28, _, _, _, _, _⟩) (v := .int .u64 (c.toNat : Int)) rfl (by kernel_rfl) (by kernel_rfl) (by kernel_rfl) (fun _ _ _ h => h) (Or.inl ⟨by rfl, by intro wx _; go_simp⟩) (by assumption) ?_
        try simp only [Act.put, List.setIfInBounds_toArray, List.set_cons_zero, List.set_cons_succ]
        refine wpAnyH_take (i := 5) (oi := ⟨some 29, _, _, _, _, _⟩) (v := .int .u64 (d : Int)) rfl (by kernel_rfl) (by kernel_rfl) (by kernel_rfl) (fun _ _ _ h => h) (Or.inl ⟨by rfl, by intro wx _; go_simp⟩) (by assumption) ?_
        try simp only [Act.put, List.setIfInBounds_toArray, List.set_cons_zero, List.set_cons_succ]
        refine wpAnyH_ready (rs := [6, 11]) (by kernel_rfl) (by simp) ?_
        refine AllReadyH.cons rfl (fun K hK => ?_) (AllReadyH.cons rfl (fun K hK => ?_) AllReadyH.nil)
        · go_simp
          go_at_call 43
          refine (B3.out _).mono ?_
          rintro e V1 ⟨rfl, hb1⟩
          have hz1 := hb1.size
          have S_V1 := S_W0.keep hb1
          try dsimp only
          refine hK.out _ _ S_V1 (fun _ => ?_)
          clear hK K
          refine wpAnyH_ready (rs := [7, 11]) (by kernel_rfl) (by simp) ?_
          refine AllReadyH.cons rfl (fun K hK => ?_) (AllReadyH.cons rfl (fun K hK => ?_) AllReadyH.nil)
          · go_simp
            go_at_call 34
            refine (B4.out _).mono ?_
            rintro e V2 ⟨rfl, hb2⟩
            have hz2 := hb2.size
            have S_V2 := S_V1.keep hb2
            try dsimp only
            refine hK.out _ _ S_V2 (fun _ => ?_)
            clear hK K
            refine wpAnyH_take (i := 8) (oi := ⟨some 23, _, _, _, _, _⟩) (v := .tuple #[.agg (FC 5 f1).toArray, .bool true]) rfl (by kernel_rfl) (by kernel_rfl) (by kernel_rfl) (fun _ _ _ h => h) (Or.inl ⟨by rfl, by intro wx _; go_simp⟩) (by assumption) ?_
            refine wpAnyH_take (i := 9) (oi := ⟨some 32, _, _, _, _, _⟩) (v := .agg (FC 5 f1).toArray) rfl (by kernel_rfl) (by kernel_rfl) (by kernel_rfl) (fun _ _ _ h => h) (Or.inl ⟨by rfl, by intro wx _; go_simp⟩) (by assumption) ?_
            refine wpAnyH_take (i := 10) (oi := ⟨some 33, _, _, _, _, _⟩) (v := .bool true) rfl (by kernel_rfl) (by kernel_rfl) (by kernel_rfl) (fun _ _ _ h => h) (Or.inl ⟨by rfl, by intro wx _; go_simp⟩) (by assumption) ?_
            refine wpAnyH_ready (rs := [11]) (by kernel_rfl) (by simp) ?_
            refine AllReadyH.cons rfl (fun K hK => ?_) AllReadyH.nil
            · go_simp
              generalize hW3 : World.alloc V2 _ = V3
              have hb3 : Below V2.heap.size V2 V3 := by rw [← hW3]; exact bl1 _ _
              have G_V3 : FB V2.heap.size 5 (fun _ => 0) 49 V3 := by rw [← hW3]; exact nw1 _ _
              have hz3 : V2.heap.size < V3.heap.size := G_V3.lt
              have hg0 : w2.heap.size < V2.heap.size := by omega
              clear hW3
              have S_V3 := S_V2.keep hb3
              try dsimp only
              refine hK.out _ _ S_V3 (fun _ => ?_)
              clear hK K
              refine wpAnyH_ready (rs := [12]) (by kernel_rfl) (by simp) ?_
              refine AllReadyH.cons rfl (fun K hK => ?_) AllReadyH.nil
              · refine step_store rfl 49 _ _ rfl _ rfl (.agg (FC 5 f1).toArray) rfl _ (run_storeAt_row (cells := (FC 5 f1).toArray) G_V3 (IN5 _) (SZ5 _ _) (FC_one _ _)) ?_
                generalize hW4 : World.setRow V3 _ _ = V4
                have S_V4 := hW4 ▸ S_V3.row (by omega) (HNE.out _ hg0)
                have G_V4 := hW4 ▸ setRow_heap _ _ _ _ _ _ G_V3
                try dsimp only
                refine hK.out _ _ S_V4 (fun _ => ?_)
                clear hK K
                refine wpAnyH_take (i := 13) (oi := ⟨some 9, _, _, _, _, _⟩) (v := .bool true) rfl (by kernel_rfl) (by kernel_rfl) (by kernel_rfl) (fun _ _ _ h => h) (Or.inl ⟨by rfl, by intro wx _; go_simp⟩) (by assumption) ?_
                refine wpAnyH_done (by kernel_rfl) ?_ _
                go_wp2_with fail
                go_meet
                exact ⟨_, rfl, rfl, Lib.hid (by rw [← HL.out]; exact S_V4.add G_V4)⟩
          · go_simp
            generalize hW5 : World.alloc V1 _ = V5
            have hb5 : Below V1.heap.size V1 V5 := by rw [← hW5]; exact bl1 _ _
            have G_V5 : FB V1.heap.size 5 (fun _ => 0) 49 V5 := by rw [← hW5]; exact nw1 _ _
            have hz5 : V1.heap.size < V5.heap.size := G_V5.lt
            have hg0 : w2.heap.size < V1.heap.size := by omega
            clear hW5
            have S_V5 := S_V1.keep hb5
            try dsimp only
            refine hK.out _ _ S_V5 (fun _ => ?_)
            clear hK K
            refine wpAnyH_ready (rs := [7]) (by kernel_rfl) (by simp) ?_
            refine AllReadyH.cons rfl (fun K hK => ?_) AllReadyH.nil
            · go_simp
              go_at_call 34
              refine (B4.out _).mono ?_
              rintro e V6 ⟨rfl, hb6⟩
              have hz6 := hb6.size
              have S_V6 := S_V5.keep hb6
              have G_V6 := G_V5.keep hb6
              try dsimp only
              refine hK.out _ _ S_V6 (fun _ => ?_)
              clear hK K
              refine wpAnyH_take (i := 8) (oi := ⟨some 23, _, _, _, _, _⟩) (v := .tuple #[.agg (FC 5 f1).toArray, .bool true]) rfl (by kernel_rfl) (by kernel_rfl) (by kernel_rfl) (fun _ _ _ h => h) (Or.inl ⟨by rfl, by intro wx _; go_simp⟩) (by assumption) ?_
              refine wpAnyH_take (i := 9) (oi := ⟨some 32, _, _, _, _, _⟩) (v := .agg (FC 5 f1).toArray) rfl (by kernel_rfl) (by kernel_rfl) (by kernel_rfl) (fun _ _ _ h => h) (Or.inl ⟨by rfl, by intro wx _; go_simp⟩) (by assumption) ?_
              refine wpAnyH_take (i := 10) (oi := ⟨some 33, _, _, _, _, _⟩) (v := .bool true) rfl (by kernel_rfl) (by kernel_rfl) (by kernel_rfl) (fun _ _ _ h => h) (Or.inl ⟨by rfl, by intro wx _; go_simp⟩) (by assumption) ?_
              refine wpAnyH_ready (rs := [12]) (by kernel_rfl) (by simp) ?_
              refine AllReadyH.cons rfl (fun K hK => ?_) AllReadyH.nil
              · refine step_store rfl 49 _ _ rfl _ rfl (.agg (FC 5 f1).toArray) rfl _ (run_storeAt_row (cells := (FC 5 f1).toArray) G_V6 (IN5 _) (SZ5 _ _) (FC_one _ _)) ?_
                generalize hW7 : World.setRow V6 _ _ = V7
                have S_V7 := hW7 ▸ S_V6.row (by omega) (HNE.out _ hg0)
                have G_V7 := hW7 ▸ setRow_heap _ _ _ _ _ _ G_V6
                try dsimp only
                refine hK.out _ _ S_V7 (fun _ => ?_)
                clear hK K
                refine wpAnyH_take (i := 13) (oi := ⟨some 9, _, _, _, _, _⟩) (v := .bool true) rfl (by kernel_rfl) (by kernel_rfl) (by kernel_rfl) (fun _ _ _ h => h) (Or.inl ⟨by rfl, by intro wx _; go_simp⟩) (by assumption) ?_
                refine wpAnyH_done (by kernel_rfl) ?_ _
                go_wp2_with fail
                go_meet
                exact ⟨_, rfl, rfl, Lib.hid (by rw [← HL.out]; exact S_V7.add G_V7)⟩
        · go_simp
          generalize hW8 : World.alloc W0 _ = V8
          have hb8 : Below W0.heap.size W0 V8 := by rw [← hW8]; exact bl1 _ _
          have G_V8 : FB W0.heap.size 5 (fun _ => 0) 49 V8 := by rw [← hW8]; exact nw1 _ _
          have hz8 : W0.heap.size < V8.heap.size := G_V8.lt
          have hg0 : w2.heap.size < W0.heap.size := by omega
          clear hW8
          have S_V8 := S_W0.keep hb8
          try dsimp only
          refine hK.out _ _ S_V8 (fun _ => ?_)
          clear hK K
          refine wpAnyH_ready (rs := [6]) (by kernel_rfl) (by simp) ?_
          refine AllReadyH.cons rfl (fun K hK => ?_) AllReadyH.nil
          · go_simp
            go_at_call 43
            refine (B3.out _).mono ?_
            rintro e V9 ⟨rfl, hb9⟩
            have hz9 := hb9.size
            have S_V9 := S_V8.keep hb9
            have G_V9 := G_V8.keep hb9
            try dsimp only
            refine hK.out _ _ S_V9 (fun _ => ?_)
            clear hK K
            refine wpAnyH_ready (rs := [7]) (by kernel_rfl) (by simp) ?_
            refine AllReadyH.cons rfl (fun K hK => ?_) AllReadyH.nil
            · go_simp
              go_at_call 34
              refine (B4.out _).mono ?_
              rintro e V10 ⟨rfl, hb10⟩
              have hz10 := hb10.size
              have S_V10 := S_V9.keep hb10
              have G_V10 := G_V9.keep hb10
              try dsimp only
              refine hK.out _ _ S_V10 (fun _ => ?_)
              clear hK K
              refine wpAnyH_take (i := 8) (oi := ⟨some 23, _, _, _, _, _⟩) (v := .tuple #[.agg (FC 5 f1).toArray, .bool true]) rfl (by kernel_rfl) (by kernel_rfl) (by kernel_rfl) (fun _ _ _ h => h) (Or.inl ⟨by rfl, by intro wx _; go_simp⟩) (by assumption) ?_
              refine wpAnyH_take (i := 9) (oi := ⟨some 32, _, _, _, _, _⟩) (v := .agg (FC 5 f1).toArray) rfl (by kernel_rfl) (by kernel_rfl) (by kernel_rfl) (fun _ _ _ h => h) (Or.inl ⟨by rfl, by intro wx _; go_simp⟩) (by assumption) ?_
              refine wpAnyH_take (i := 10) (oi := ⟨some 33, _, _, _, _, _⟩) (v := .bool true) rfl (by kernel_rfl) (by kernel_rfl) (by kernel_rfl) (fun _ _ _ h => h) (Or.inl ⟨by rfl, by intro wx _; go_simp⟩) (by assumption) ?_
              refine wpAnyH_ready (rs := [12]) (by kernel_rfl) (by simp) ?_
              refine AllReadyH.cons rfl (fun K hK => ?_) AllReadyH.nil
              · refine step_store rfl 49 _ _ rfl _ rfl (.agg (FC 5 f1).toArray) rfl _ (run_storeAt_row (cells := (FC 5 f1).toArray) G_V10 (IN5 _) (SZ5 _ _) (FC_one _ _)) ?_
                generalize hW11 : World.setRow V10 _ _ = V11
                have S_V11 := hW11 ▸ S_V10.row (by omega) (HNE.out _ hg0)
                have G_V11 := hW11 ▸ setRow_heap _ _ _ _ _ _ G_V10
                try dsimp only
                refine hK.out _ _ S_V11 (fun _ => ?_)
                clear hK K
                refine wpAnyH_take (i := 13) (oi := ⟨some 9, _, _, _, _, _⟩) (v := .bool true) rfl (by kernel_rfl) (by kernel_rfl) (by kernel_rfl) (fun _ _ _ h => h) (Or.inl ⟨by rfl, by intro wx _; go_simp⟩) (by assumption) ?_
                refine wpAnyH_done (by kernel_rfl) ?_ _
                go_wp2_with fail
                go_meet
                exact ⟨_, rfl, rfl, Lib.hid (by rw [← HL.out]; exact S_V11.add G_V11)⟩
      case rest =>
        obtain ⟨g, rfl, rfl, S⟩ := hcut
        clear B2 B3 B4 hdg hcs
        go_wp2_with (first | (refine wpList_load_row (by rfl) 49 (.tmp 8) (by rfl) _ (by rfl) _ _ _ _ S.out.a0 UN5 rfl (IN5 _) ?_) | (refine wpList_store_row (by rfl) 49 _ _ rfl _ (FC 5 f1).toArray rfl rfl _ _ S.out.a2 (IN5 f1) (SZ5 _ f1) (FC_one 5 f1) ?_))
        go_roundw
        case rel => exact ⟨i + 1, by omega, by go_num, by rw [← HF1.out]; exact Lib.hid (SQ.put S.out.tail.tail (by omega) (fun p hp => by simp at hp; rw [hp]; simp; omega))⟩
        case measure => simp [intOf] <;> omega
    · obtain rfl : i = s.size := by omega
      rw [HD.out] at S
      clear A2 A3 A4 HG HD HZ HT
      go_wp2_with fail
      refine (HM.out _ _ (LB.of _ S.out.a1)).mono ?_
      rintro e w3 ⟨v, rfl, hv, hb3⟩
      have S := Lib.hid (S.out.keep hb3)
      have R := Lib.hid hv
      clear hb3 hv
      go_wp2_with fail
      refine (A5.out _ _ R.out).mono ?_
      rintro e w4 ⟨rfl, hb4⟩
      have S := Lib.hid (S.out.keep hb4)
      clear hb4 R
      go_wp2_with (first | (refine wpList_loadg (by rfl) 49 (.tmp 4) (by rfl) _ (by rfl) _ (ldAt5 S.out.a0) ?_) | (refine wpList_loadg (by rfl) 49 (.tmp 1) (by rfl) _ (by rfl) _ (ldAt5 S.out.a1) ?_))
      refine (A8.out _).mono ?_
      rintro e w5 ⟨rfl, hb5⟩
      have S := Lib.hid (S.out.keep hb5)
      clear hb5
      go_wp2_with fail
      go_ret
      exact ⟨rfl, S.out.2⟩
end Go.Proofs.Ytalfgagcfjddcaa.Lg
