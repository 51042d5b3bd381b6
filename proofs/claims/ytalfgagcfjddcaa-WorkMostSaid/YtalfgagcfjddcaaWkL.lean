/- The walk of an id's level. -/
import Derived.Test.YtalfgagcfjddcaaWk
namespace Go.Proofs.Ytalfgagcfjddcaa.Wk
open Go.RowKit Go.Proofs.Ytalfgagcfjddcaa.Mk Go.Proofs.Ytalfgagcfjddcaa.Ul Go.Proofs.Ytalfgagcfjddcaa.Wd Go.Proofs.Ytalfgagcfjddcaa.Wi Go.Proofs.Ytalfgagcfjddcaa.R4 Go.Proofs.Ytalfgagcfjddcaa.Hf Go.Proofs.Ytalfgagcfjddcaa.L4
set_option maxHeartbeats 8000000 in
set_option maxRecDepth 100000 in
theorem level_calls (h k : List UInt8) (w : World) (hl : h.length = 32) (kl : k.length = 32) :
    Calls Try.prog 17 #[hv h, hv k] w fun e w' => e = .returned (.int .i64 (lvI (beN h) (beN k))) ∧ Below w.heap.size w w' := by
  have HL := Lib.hid hl
  have KL := Lib.hid kl
  have hle := IHl hl
  have kle := IHl kl
  obtain ⟨L, hLL⟩ : ∃ L, L = [(w.heap.size + 1, oH k), (w.heap.size, oH h)] := ⟨_, rfl⟩
  have HLL := Lib.hid hLL
  have S0 : SQ L w ((w.alloc (oH h)).alloc (oH k)) := by rw [hLL]; exact SQ.new2 _ _ _
  have HR := Lib.hid (show ∀ wx, SQ L w wx → wx.rangeAt w.heap.size 0 (hc h) from fun wx hx => range_row (hx.1 (w.heap.size, oH h) (by rw [hLL]; simp)))
  have KR := Lib.hid (show ∀ wx, SQ L w wx → wx.rangeAt (w.heap.size + 1) 0 (hc k) from fun wx hx => range_row (hx.1 (w.heap.size + 1, oH k) (by rw [hLL]; simp)))
  have hsz : w.heap.size + 1 < ((w.alloc (oH h)).alloc (oH k)).drew.heap.size := by show _ < ((w.alloc (oH h)).alloc (oH k)).heap.size; simp
  have HNE : Hid (∀ g, w.heap.size + 1 < g → ∀ p ∈ L, p.1 ≠ g) := Lib.hid (fun g hg p hp => by rw [hLL] at hp; simp at hp; rcases hp with rfl | rfl <;> simp <;> omega)
  clear hl kl hLL
  unfold hv
  go_enter Try.func17, Try.ntmps17
  go_wp2_with fail
  generalize World.alloc (World.alloc w _) _ = W at *
  have S_W0 := S0.drew
  clear S0
  go_upto_region 1 with fail
  go_cut [5, 6] (fun s5 s6 wx => ∃ g1 g2, s5 = .pointer (some ⟨g1, 0, none⟩) ∧ s6 = .pointer (some ⟨g2, 0, none⟩) ∧ Hid (SQ ((g1, oN (lb (beN h))) :: (g2, oN (lb (beN k))) :: L) w wx))
  case first =>
    have HO := Lib.hid (fun w => of_calls h w HL.out)
    have KO := Lib.hid (fun w => of_calls k w KL.out)
    unfold hv UV at *
    refine wp_region_held_drew (S := SQ L w) (by kernel_rfl) S_W0 (fun hHeld => ?_)
    generalize World.drew W = W0 at *
    clear hHeld
    refine wpAnyH_take (i := 0) (oi := ⟨some 9, _, _, _, _, _⟩) (v := hv h) rfl (by kernel_rfl) (by kernel_rfl) (by kernel_rfl) (fun _ _ _ h => h) (yieldsIf_load_mid (by rfl) 23 _ rfl w.heap.size 0 rfl (hc h) _ HR.out UH rfl hle) (by assumption) ?_
    try simp only [Act.put, List.setIfInBounds_toArray, List.set_cons_zero, List.set_cons_succ]
    refine wpAnyH_take (i := 2) (oi := ⟨some 11, _, _, _, _, _⟩) (v := hv k) rfl (by kernel_rfl) (by kernel_rfl) (by kernel_rfl) (fun _ _ _ h => h) (yieldsIf_load_mid (by rfl) 23 _ rfl (w.heap.size + 1) 0 rfl (hc k) _ KR.out UH rfl kle) (by assumption) ?_
    try simp only [Act.put, List.setIfInBounds_toArray, List.set_cons_zero, List.set_cons_succ]
    refine wpAnyH_ready (rs := [1, 4, 5]) (by kernel_rfl) (by simp) ?_
    refine AllReadyH.cons rfl (fun K hK => ?_) (AllReadyH.cons rfl (fun K hK => ?_) (AllReadyH.cons rfl (fun K hK => ?_) AllReadyH.nil))
    · go_simp
      go_at_call 24
      refine (HO.out _).mono ?_
      rintro r V1 ⟨rfl, hb1⟩
      have hz1 := hb1.size
      have S_V1 := S_W0.keep hb1
      try dsimp only
      refine hK.out _ _ S_V1 (fun _ => ?_)
      clear hK K
      refine wpAnyH_ready (rs := [3, 4, 5]) (by kernel_rfl) (by simp) ?_
      refine AllReadyH.cons rfl (fun K hK => ?_) (AllReadyH.cons rfl (fun K hK => ?_) (AllReadyH.cons rfl (fun K hK => ?_) AllReadyH.nil))
      · go_simp
        go_at_call 24
        refine (KO.out _).mono ?_
        rintro r V2 ⟨rfl, hb2⟩
        have hz2 := hb2.size
        have S_V2 := S_V1.keep hb2
        try dsimp only
        refine hK.out _ _ S_V2 (fun _ => ?_)
        clear hK K
        refine wpAnyH_ready (rs := [4, 5]) (by kernel_rfl) (by simp) ?_
        refine AllReadyH.cons rfl (fun K hK => ?_) (AllReadyH.cons rfl (fun K hK => ?_) AllReadyH.nil)
        · go_simp
          generalize hW3 : World.alloc V2 _ = V3
          have hb3 : Below V2.heap.size V2 V3 := by rw [← hW3]; exact bl1 _ _
          have G_V3 : FB V2.heap.size 4 (fun _ => 0) 37 V3 := by rw [← hW3]; exact nw1 _ _
          have hz3 : V2.heap.size < V3.heap.size := G_V3.lt
          have hg0 : w.heap.size + 1 < V2.heap.size := by omega
          clear hW3
          have S_V3 := S_V2.keep hb3
          try dsimp only
          refine hK.out _ _ S_V3 (fun _ => ?_)
          clear hK K
          refine wpAnyH_ready (rs := [5]) (by kernel_rfl) (by simp) ?_
          refine AllReadyH.cons rfl (fun K hK => ?_) AllReadyH.nil
          · go_simp
            generalize hW4 : World.alloc V3 _ = V4
            have hb4 : Below V3.heap.size V3 V4 := by rw [← hW4]; exact bl1 _ _
            have K_V4 : FB V3.heap.size 4 (fun _ => 0) 37 V4 := by rw [← hW4]; exact nw1 _ _
            have hz4 : V3.heap.size < V4.heap.size := K_V4.lt
            have hk0 : w.heap.size + 1 < V3.heap.size := by omega
            clear hW4
            have S_V4 := S_V3.keep hb4
            have G_V4 := G_V3.keep hb4
            try dsimp only
            refine hK.out _ _ S_V4 (fun _ => ?_)
            clear hK K
            refine wpAnyH_ready (rs := [6]) (by kernel_rfl) (by simp) ?_
            refine AllReadyH.cons rfl (fun K hK => ?_) AllReadyH.nil
            · refine step_store rfl 37 _ _ rfl _ rfl (.agg (FC 4 (lb (beN h))).toArray) rfl _ (run_storeAt_row (cells := (FC 4 (lb (beN h))).toArray) G_V4 (IN4 _) (SZ4 _ _) (FC_one _ _)) ?_
              generalize hW5 : World.setRow V4 _ _ = V5
              have S_V5 := hW5 ▸ S_V4.row (by omega) (HNE.out _ hg0)
              have G_V5 := hW5 ▸ setRow_heap _ _ _ _ _ _ G_V4
              have K_V5 := hW5 ▸ FB.row K_V4 (by omega)
              try dsimp only
              refine hK.out _ _ S_V5 (fun _ => ?_)
              clear hK K
              refine wpAnyH_ready (rs := [7]) (by kernel_rfl) (by simp) ?_
              refine AllReadyH.cons rfl (fun K hK => ?_) AllReadyH.nil
              · refine step_store rfl 37 _ _ rfl _ rfl (.agg (FC 4 (lb (beN k))).toArray) rfl _ (run_storeAt_row (cells := (FC 4 (lb (beN k))).toArray) K_V5 (IN4 _) (SZ4 _ _) (FC_one _ _)) ?_
                generalize hW6 : World.setRow V5 _ _ = V6
                have S_V6 := hW6 ▸ S_V5.row (by omega) (HNE.out _ hk0)
                have G_V6 := hW6 ▸ (setRow_other _ _ _ _ (by omega)).trans G_V5
                have K_V6 := hW6 ▸ setRow_heap _ _ _ _ _ _ K_V5
                try dsimp only
                refine hK.out _ _ S_V6 (fun _ => ?_)
                clear hK K
                refine wpAnyH_done (by kernel_rfl) ?_ _
                go_wp2_with fail
                go_meet
                exact ⟨_, _, rfl, rfl, Lib.hid ((S_V6.add K_V6).add G_V6)⟩
        · go_simp
          generalize hW7 : World.alloc V2 _ = V7
          have hb7 : Below V2.heap.size V2 V7 := by rw [← hW7]; exact bl1 _ _
          have K_V7 : FB V2.heap.size 4 (fun _ => 0) 37 V7 := by rw [← hW7]; exact nw1 _ _
          have hz7 : V2.heap.size < V7.heap.size := K_V7.lt
          have hk0 : w.heap.size + 1 < V2.heap.size := by omega
          clear hW7
          have S_V7 := S_V2.keep hb7
          try dsimp only
          refine hK.out _ _ S_V7 (fun _ => ?_)
          clear hK K
          refine wpAnyH_ready (rs := [4]) (by kernel_rfl) (by simp) ?_
          refine AllReadyH.cons rfl (fun K hK => ?_) AllReadyH.nil
          · go_simp
            generalize hW8 : World.alloc V7 _ = V8
            have hb8 : Below V7.heap.size V7 V8 := by rw [← hW8]; exact bl1 _ _
            have G_V8 : FB V7.heap.size 4 (fun _ => 0) 37 V8 := by rw [← hW8]; exact nw1 _ _
            have hz8 : V7.heap.size < V8.heap.size := G_V8.lt
            have hg0 : w.heap.size + 1 < V7.heap.size := by omega
            clear hW8
            have S_V8 := S_V7.keep hb8
            have K_V8 := K_V7.keep hb8
            try dsimp only
            refine hK.out _ _ S_V8 (fun _ => ?_)
            clear hK K
            refine wpAnyH_ready (rs := [6]) (by kernel_rfl) (by simp) ?_
            refine AllReadyH.cons rfl (fun K hK => ?_) AllReadyH.nil
            · refine step_store rfl 37 _ _ rfl _ rfl (.agg (FC 4 (lb (beN h))).toArray) rfl _ (run_storeAt_row (cells := (FC 4 (lb (beN h))).toArray) G_V8 (IN4 _) (SZ4 _ _) (FC_one _ _)) ?_
              generalize hW9 : World.setRow V8 _ _ = V9
              have S_V9 := hW9 ▸ S_V8.row (by omega) (HNE.out _ hg0)
              have K_V9 := hW9 ▸ FB.row K_V8 (by omega)
              have G_V9 := hW9 ▸ setRow_heap _ _ _ _ _ _ G_V8
              try dsimp only
              refine hK.out _ _ S_V9 (fun _ => ?_)
              clear hK K
              refine wpAnyH_ready (rs := [7]) (by kernel_rfl) (by simp) ?_
              refine AllReadyH.cons rfl (fun K hK => ?_) AllReadyH.nil
              · refine step_store rfl 37 _ _ rfl _ rfl (.agg (FC 4 (lb (beN k))).toArray) rfl _ (run_storeAt_row (cells := (FC 4 (lb (beN k))).toArray) K_V9 (IN4 _) (SZ4 _ _) (FC_one _ _)) ?_
                generalize hW10 : World.setRow V9 _ _ = V10
                have S_V10 := hW10 ▸ S_V9.row (by omega) (HNE.out _ hk0)
                have K_V10 := hW10 ▸ setRow_heap _ _ _ _ _ _ K_V9
                have G_V10 := hW10 ▸ (setRow_other _ _ _ _ (by omega)).trans G_V9
                try dsimp only
                refine hK.out _ _ S_V10 (fun _ => ?_)
                clear hK K
                refine wpAnyH_done (by kernel_rfl) ?_ _
                go_wp2_with fail
                go_meet
                exact ⟨_, _, rfl, rfl, Lib.hid ((S_V10.add K_V10).add G_V10)⟩
      · go_simp
        generalize hW11 : World.alloc V1 _ = V11
        have hb11 : Below V1.heap.size V1 V11 := by rw [← hW11]; exact bl1 _ _
        have G_V11 : FB V1.heap.size 4 (fun _ => 0) 37 V11 := by rw [← hW11]; exact nw1 _ _
        have hz11 : V1.heap.size < V11.heap.size := G_V11.lt
        have hg0 : w.heap.size + 1 < V1.heap.size := by omega
        clear hW11
        have S_V11 := S_V1.keep hb11
        try dsimp only
        refine hK.out _ _ S_V11 (fun _ => ?_)
        clear hK K
        refine wpAnyH_ready (rs := [3, 5]) (by kernel_rfl) (by simp) ?_
        refine AllReadyH.cons rfl (fun K hK => ?_) (AllReadyH.cons rfl (fun K hK => ?_) AllReadyH.nil)
        · go_simp
          go_at_call 24
          refine (KO.out _).mono ?_
          rintro r V12 ⟨rfl, hb12⟩
          have hz12 := hb12.size
          have S_V12 := S_V11.keep hb12
          have G_V12 := G_V11.keep hb12
          try dsimp only
          refine hK.out _ _ S_V12 (fun _ => ?_)
          clear hK K
          refine wpAnyH_ready (rs := [5]) (by kernel_rfl) (by simp) ?_
          refine AllReadyH.cons rfl (fun K hK => ?_) AllReadyH.nil
          · go_simp
            generalize hW13 : World.alloc V12 _ = V13
            have hb13 : Below V12.heap.size V12 V13 := by rw [← hW13]; exact bl1 _ _
            have K_V13 : FB V12.heap.size 4 (fun _ => 0) 37 V13 := by rw [← hW13]; exact nw1 _ _
            have hz13 : V12.heap.size < V13.heap.size := K_V13.lt
            have hk0 : w.heap.size + 1 < V12.heap.size := by omega
            clear hW13
            have S_V13 := S_V12.keep hb13
            have G_V13 := G_V12.keep hb13
            try dsimp only
            refine hK.out _ _ S_V13 (fun _ => ?_)
            clear hK K
            refine wpAnyH_ready (rs := [6]) (by kernel_rfl) (by simp) ?_
            refine AllReadyH.cons rfl (fun K hK => ?_) AllReadyH.nil
            · refine step_store rfl 37 _ _ rfl _ rfl (.agg (FC 4 (lb (beN h))).toArray) rfl _ (run_storeAt_row (cells := (FC 4 (lb (beN h))).toArray) G_V13 (IN4 _) (SZ4 _ _) (FC_one _ _)) ?_
              generalize hW14 : World.setRow V13 _ _ = V14
              have S_V14 := hW14 ▸ S_V13.row (by omega) (HNE.out _ hg0)
              have G_V14 := hW14 ▸ setRow_heap _ _ _ _ _ _ G_V13
              have K_V14 := hW14 ▸ FB.row K_V13 (by omega)
              try dsimp only
              refine hK.out _ _ S_V14 (fun _ => ?_)
              clear hK K
              refine wpAnyH_ready (rs := [7]) (by kernel_rfl) (by simp) ?_
              refine AllReadyH.cons rfl (fun K hK => ?_) AllReadyH.nil
              · refine step_store rfl 37 _ _ rfl _ rfl (.agg (FC 4 (lb (beN k))).toArray) rfl _ (run_storeAt_row (cells := (FC 4 (lb (beN k))).toArray) K_V14 (IN4 _) (SZ4 _ _) (FC_one _ _)) ?_
                generalize hW15 : World.setRow V14 _ _ = V15
                have S_V15 := hW15 ▸ S_V14.row (by omega) (HNE.out _ hk0)
                have G_V15 := hW15 ▸ (setRow_other _ _ _ _ (by omega)).trans G_V14
                have K_V15 := hW15 ▸ setRow_heap _ _ _ _ _ _ K_V14
                try dsimp only
                refine hK.out _ _ S_V15 (fun _ => ?_)
                clear hK K
                refine wpAnyH_done (by kernel_rfl) ?_ _
                go_wp2_with fail
                go_meet
                exact ⟨_, _, rfl, rfl, Lib.hid ((S_V15.add K_V15).add G_V15)⟩
        · go_simp
          generalize hW16 : World.alloc V11 _ = V16
          have hb16 : Below V11.heap.size V11 V16 := by rw [← hW16]; exact bl1 _ _
          have K_V16 : FB V11.heap.size 4 (fun _ => 0) 37 V16 := by rw [← hW16]; exact nw1 _ _
          have hz16 : V11.heap.size < V16.heap.size := K_V16.lt
          have hk0 : w.heap.size + 1 < V11.heap.size := by omega
          clear hW16
          have S_V16 := S_V11.keep hb16
          have G_V16 := G_V11.keep hb16
          try dsimp only
          refine hK.out _ _ S_V16 (fun _ => ?_)
          clear hK K
          refine wpAnyH_ready (rs := [3]) (by kernel_rfl) (by simp) ?_
          refine AllReadyH.cons rfl (fun K hK => ?_) AllReadyH.nil
          · go_simp
            go_at_call 24
            refine (KO.out _).mono ?_
            rintro r V17 ⟨rfl, hb17⟩
            have hz17 := hb17.size
            have S_V17 := S_V16.keep hb17
            have G_V17 := G_V16.keep hb17
            have K_V17 := K_V16.keep hb17
            try dsimp only
            refine hK.out _ _ S_V17 (fun _ => ?_)
            clear hK K
            refine wpAnyH_ready (rs := [6]) (by kernel_rfl) (by simp) ?_
            refine AllReadyH.cons rfl (fun K hK => ?_) AllReadyH.nil
            · refine step_store rfl 37 _ _ rfl _ rfl (.agg (FC 4 (lb (beN h))).toArray) rfl _ (run_storeAt_row (cells := (FC 4 (lb (beN h))).toArray) G_V17 (IN4 _) (SZ4 _ _) (FC_one _ _)) ?_
              generalize hW18 : World.setRow V17 _ _ = V18
              have S_V18 := hW18 ▸ S_V17.row (by omega) (HNE.out _ hg0)
              have G_V18 := hW18 ▸ setRow_heap _ _ _ _ _ _ G_V17
              have K_V18 := hW18 ▸ FB.row K_V17 (by omega)
              try dsimp only
              refine hK.out _ _ S_V18 (fun _ => ?_)
              clear hK K
              refine wpAnyH_ready (rs := [7]) (by kernel_rfl) (by simp) ?_
              refine AllReadyH.cons rfl (fun K hK => ?_) AllReadyH.nil
              · refine step_store rfl 37 _ _ rfl _ rfl (.agg (FC 4 (lb (beN k))).toArray) rfl _ (run_storeAt_row (cells := (FC 4 (lb (beN k))).toArray) K_V18 (IN4 _) (SZ4 _ _) (FC_one _ _)) ?_
                generalize hW19 : World.setRow V18 _ _ = V19
                have S_V19 := hW19 ▸ S_V18.row (by omega) (HNE.out _ hk0)
                have G_V19 := hW19 ▸ (setRow_other _ _ _ _ (by omega)).trans G_V18
                have K_V19 := hW19 ▸ setRow_heap _ _ _ _ _ _ K_V18
                try dsimp only
                refine hK.out _ _ S_V19 (fun _ => ?_)
                clear hK K
                refine wpAnyH_done (by kernel_rfl) ?_ _
                go_wp2_with fail
                go_meet
                exact ⟨_, _, rfl, rfl, Lib.hid ((S_V19.add K_V19).add G_V19)⟩
      · go_simp
        generalize hW20 : World.alloc V1 _ = V20
        have hb20 : Below V1.heap.size V1 V20 := by rw [← hW20]; exact bl1 _ _
        have K_V20 : FB V1.heap.size 4 (fun _ => 0) 37 V20 := by rw [← hW20]; exact nw1 _ _
        have hz20 : V1.heap.size < V20.heap.size := K_V20.lt
        have hk0 : w.heap.size + 1 < V1.heap.size := by omega
        clear hW20
        have S_V20 := S_V1.keep hb20
        try dsimp only
        refine hK.out _ _ S_V20 (fun _ => ?_)
        clear hK K
        refine wpAnyH_ready (rs := [3, 4]) (by kernel_rfl) (by simp) ?_
        refine AllReadyH.cons rfl (fun K hK => ?_) (AllReadyH.cons rfl (fun K hK => ?_) AllReadyH.nil)
        · go_simp
          go_at_call 24
          refine (KO.out _).mono ?_
          rintro r V21 ⟨rfl, hb21⟩
          have hz21 := hb21.size
          have S_V21 := S_V20.keep hb21
          have K_V21 := K_V20.keep hb21
          try dsimp only
          refine hK.out _ _ S_V21 (fun _ => ?_)
          clear hK K
          refine wpAnyH_ready (rs := [4]) (by kernel_rfl) (by simp) ?_
          refine AllReadyH.cons rfl (fun K hK => ?_) AllReadyH.nil
          · go_simp
            generalize hW22 : World.alloc V21 _ = V22
            have hb22 : Below V21.heap.size V21 V22 := by rw [← hW22]; exact bl1 _ _
            have G_V22 : FB V21.heap.size 4 (fun _ => 0) 37 V22 := by rw [← hW22]; exact nw1 _ _
            have hz22 : V21.heap.size < V22.heap.size := G_V22.lt
            have hg0 : w.heap.size + 1 < V21.heap.size := by omega
            clear hW22
            have S_V22 := S_V21.keep hb22
            have K_V22 := K_V21.keep hb22
            try dsimp only
            refine hK.out _ _ S_V22 (fun _ => ?_)
            clear hK K
            refine wpAnyH_ready (rs := [6]) (by kernel_rfl) (by simp) ?_
            refine AllReadyH.cons rfl (fun K hK => ?_) AllReadyH.nil
            · refine step_store rfl 37 _ _ rfl _ rfl (.agg (FC 4 (lb (beN h))).toArray) rfl _ (run_storeAt_row (cells := (FC 4 (lb (beN h))).toArray) G_V22 (IN4 _) (SZ4 _ _) (FC_one _ _)) ?_
              generalize hW23 : World.setRow V22 _ _ = V23
              have S_V23 := hW23 ▸ S_V22.row (by omega) (HNE.out _ hg0)
              have K_V23 := hW23 ▸ FB.row K_V22 (by omega)
              have G_V23 := hW23 ▸ setRow_heap _ _ _ _ _ _ G_V22
              try dsimp only
              refine hK.out _ _ S_V23 (fun _ => ?_)
              clear hK K
              refine wpAnyH_ready (rs := [7]) (by kernel_rfl) (by simp) ?_
              refine AllReadyH.cons rfl (fun K hK => ?_) AllReadyH.nil
              · refine step_store rfl 37 _ _ rfl _ rfl (.agg (FC 4 (lb (beN k))).toArray) rfl _ (run_storeAt_row (cells := (FC 4 (lb (beN k))).toArray) K_V23 (IN4 _) (SZ4 _ _) (FC_one _ _)) ?_
                generalize hW24 : World.setRow V23 _ _ = V24
                have S_V24 := hW24 ▸ S_V23.row (by omega) (HNE.out _ hk0)
                have K_V24 := hW24 ▸ setRow_heap _ _ _ _ _ _ K_V23
                have G_V24 := hW24 ▸ (setRow_other _ _ _ _ (by omega)).trans G_V23
                try dsimp only
                refine hK.out _ _ S_V24 (fun _ => ?_)
                clear hK K
                refine wpAnyH_done (by kernel_rfl) ?_ _
                go_wp2_with fail
                go_meet
                exact ⟨_, _, rfl, rfl, Lib.hid ((S_V24.add K_V24).add G_V24)⟩
        · go_simp
          generalize hW25 : World.alloc V20 _ = V25
          have hb25 : Below V20.heap.size V20 V25 := by rw [← hW25]; exact bl1 _ _
          have G_V25 : FB V20.heap.size 4 (fun _ => 0) 37 V25 := by rw [← hW25]; exact nw1 _ _
          have hz25 : V20.heap.size < V25.heap.size := G_V25.lt
          have hg0 : w.heap.size + 1 < V20.heap.size := by omega
          clear hW25
          have S_V25 := S_V20.keep hb25
          have K_V25 := K_V20.keep hb25
          try dsimp only
          refine hK.out _ _ S_V25 (fun _ => ?_)
          clear hK K
          refine wpAnyH_ready (rs := [3]) (by kernel_rfl) (by simp) ?_
          refine AllReadyH.cons rfl (fun K hK => ?_) AllReadyH.nil
          · go_simp
            go_at_call 24
            refine (KO.out _).mono ?_
            rintro r V26 ⟨rfl, hb26⟩
            have hz26 := hb26.size
            have S_V26 := S_V25.keep hb26
            have K_V26 := K_V25.keep hb26
            have G_V26 := G_V25.keep hb26
            try dsimp only
            refine hK.out _ _ S_V26 (fun _ => ?_)
            clear hK K
            refine wpAnyH_ready (rs := [6]) (by kernel_rfl) (by simp) ?_
            refine AllReadyH.cons rfl (fun K hK => ?_) AllReadyH.nil
            · refine step_store rfl 37 _ _ rfl _ rfl (.agg (FC 4 (lb (beN h))).toArray) rfl _ (run_storeAt_row (cells := (FC 4 (lb (beN h))).toArray) G_V26 (IN4 _) (SZ4 _ _) (FC_one _ _)) ?_
              generalize hW27 : World.setRow V26 _ _ = V27
              have S_V27 := hW27 ▸ S_V26.row (by omega) (HNE.out _ hg0)
              have K_V27 := hW27 ▸ FB.row K_V26 (by omega)
              have G_V27 := hW27 ▸ setRow_heap _ _ _ _ _ _ G_V26
              try dsimp only
              refine hK.out _ _ S_V27 (fun _ => ?_)
              clear hK K
              refine wpAnyH_ready (rs := [7]) (by kernel_rfl) (by simp) ?_
              refine AllReadyH.cons rfl (fun K hK => ?_) AllReadyH.nil
              · refine step_store rfl 37 _ _ rfl _ rfl (.agg (FC 4 (lb (beN k))).toArray) rfl _ (run_storeAt_row (cells := (FC 4 (lb (beN k))).toArray) K_V27 (IN4 _) (SZ4 _ _) (FC_one _ _)) ?_
                generalize hW28 : World.setRow V27 _ _ = V28
                have S_V28 := hW28 ▸ S_V27.row (by omega) (HNE.out _ hk0)
                have K_V28 := hW28 ▸ setRow_heap _ _ _ _ _ _ K_V27
                have G_V28 := hW28 ▸ (setRow_other _ _ _ _ (by omega)).trans G_V27
                try dsimp only
                refine hK.out _ _ S_V28 (fun _ => ?_)
                clear hK K
                refine wpAnyH_done (by kernel_rfl) ?_ _
                go_wp2_with fail
                go_meet
                exact ⟨_, _, rfl, rfl, Lib.hid ((S_V28.add K_V28).add G_V28)⟩
    · go_simp
      generalize hW29 : World.alloc W0 _ = V29
      have hb29 : Below W0.heap.size W0 V29 := by rw [← hW29]; exact bl1 _ _
      have G_V29 : FB W0.heap.size 4 (fun _ => 0) 37 V29 := by rw [← hW29]; exact nw1 _ _
      have hz29 : W0.heap.size < V29.heap.size := G_V29.lt
      have hg0 : w.heap.size + 1 < W0.heap.size := by omega
      clear hW29
      have S_V29 := S_W0.keep hb29
      try dsimp only
      refine hK.out _ _ S_V29 (fun _ => ?_)
      clear hK K
      refine wpAnyH_ready (rs := [1, 5]) (by kernel_rfl) (by simp) ?_
      refine AllReadyH.cons rfl (fun K hK => ?_) (AllReadyH.cons rfl (fun K hK => ?_) AllReadyH.nil)
      · go_simp
        go_at_call 24
        refine (HO.out _).mono ?_
        rintro r V30 ⟨rfl, hb30⟩
        have hz30 := hb30.size
        have S_V30 := S_V29.keep hb30
        have G_V30 := G_V29.keep hb30
        try dsimp only
        refine hK.out _ _ S_V30 (fun _ => ?_)
        clear hK K
        refine wpAnyH_ready (rs := [3, 5]) (by kernel_rfl) (by simp) ?_
        refine AllReadyH.cons rfl (fun K hK => ?_) (AllReadyH.cons rfl (fun K hK => ?_) AllReadyH.nil)
        · go_simp
          go_at_call 24
          refine (KO.out _).mono ?_
          rintro r V31 ⟨rfl, hb31⟩
          have hz31 := hb31.size
          have S_V31 := S_V30.keep hb31
          have G_V31 := G_V30.keep hb31
          try dsimp only
          refine hK.out _ _ S_V31 (fun _ => ?_)
          clear hK K
          refine wpAnyH_ready (rs := [5]) (by kernel_rfl) (by simp) ?_
          refine AllReadyH.cons rfl (fun K hK => ?_) AllReadyH.nil
          · go_simp
            generalize hW32 : World.alloc V31 _ = V32
            have hb32 : Below V31.heap.size V31 V32 := by rw [← hW32]; exact bl1 _ _
            have K_V32 : FB V31.heap.size 4 (fun _ => 0) 37 V32 := by rw [← hW32]; exact nw1 _ _
            have hz32 : V31.heap.size < V32.heap.size := K_V32.lt
            have hk0 : w.heap.size + 1 < V31.heap.size := by omega
            clear hW32
            have S_V32 := S_V31.keep hb32
            have G_V32 := G_V31.keep hb32
            try dsimp only
            refine hK.out _ _ S_V32 (fun _ => ?_)
            clear hK K
            refine wpAnyH_ready (rs := [6]) (by kernel_rfl) (by simp) ?_
            refine AllReadyH.cons rfl (fun K hK => ?_) AllReadyH.nil
            · refine step_store rfl 37 _ _ rfl _ rfl (.agg (FC 4 (lb (beN h))).toArray) rfl _ (run_storeAt_row (cells := (FC 4 (lb (beN h))).toArray) G_V32 (IN4 _) (SZ4 _ _) (FC_one _ _)) ?_
              generalize hW33 : World.setRow V32 _ _ = V33
              have S_V33 := hW33 ▸ S_V32.row (by omega) (HNE.out _ hg0)
              have G_V33 := hW33 ▸ setRow_heap _ _ _ _ _ _ G_V32
              have K_V33 := hW33 ▸ FB.row K_V32 (by omega)
              try dsimp only
              refine hK.out _ _ S_V33 (fun _ => ?_)
              clear hK K
              refine wpAnyH_ready (rs := [7]) (by kernel_rfl) (by simp) ?_
              refine AllReadyH.cons rfl (fun K hK => ?_) AllReadyH.nil
              · refine step_store rfl 37 _ _ rfl _ rfl (.agg (FC 4 (lb (beN k))).toArray) rfl _ (run_storeAt_row (cells := (FC 4 (lb (beN k))).toArray) K_V33 (IN4 _) (SZ4 _ _) (FC_one _ _)) ?_
                generalize hW34 : World.setRow V33 _ _ = V34
                have S_V34 := hW34 ▸ S_V33.row (by omega) (HNE.out _ hk0)
                have G_V34 := hW34 ▸ (setRow_other _ _ _ _ (by omega)).trans G_V33
                have K_V34 := hW34 ▸ setRow_heap _ _ _ _ _ _ K_V33
                try dsimp only
                refine hK.out _ _ S_V34 (fun _ => ?_)
                clear hK K
                refine wpAnyH_done (by kernel_rfl) ?_ _
                go_wp2_with fail
                go_meet
                exact ⟨_, _, rfl, rfl, Lib.hid ((S_V34.add K_V34).add G_V34)⟩
        · go_simp
          generalize hW35 : World.alloc V30 _ = V35
          have hb35 : Below V30.heap.size V30 V35 := by rw [← hW35]; exact bl1 _ _
          have K_V35 : FB V30.heap.size 4 (fun _ => 0) 37 V35 := by rw [← hW35]; exact nw1 _ _
          have hz35 : V30.heap.size < V35.heap.size := K_V35.lt
          have hk0 : w.heap.size + 1 < V30.heap.size := by omega
          clear hW35
          have S_V35 := S_V30.keep hb35
          have G_V35 := G_V30.keep hb35
          try dsimp only
          refine hK.out _ _ S_V35 (fun _ => ?_)
          clear hK K
          refine wpAnyH_ready (rs := [3]) (by kernel_rfl) (by simp) ?_
          refine AllReadyH.cons rfl (fun K hK => ?_) AllReadyH.nil
          · go_simp
            go_at_call 24
            refine (KO.out _).mono ?_
            rintro r V36 ⟨rfl, hb36⟩
            have hz36 := hb36.size
            have S_V36 := S_V35.keep hb36
            have G_V36 := G_V35.keep hb36
            have K_V36 := K_V35.keep hb36
            try dsimp only
            refine hK.out _ _ S_V36 (fun _ => ?_)
            clear hK K
            refine wpAnyH_ready (rs := [6]) (by kernel_rfl) (by simp) ?_
            refine AllReadyH.cons rfl (fun K hK => ?_) AllReadyH.nil
            · refine step_store rfl 37 _ _ rfl _ rfl (.agg (FC 4 (lb (beN h))).toArray) rfl _ (run_storeAt_row (cells := (FC 4 (lb (beN h))).toArray) G_V36 (IN4 _) (SZ4 _ _) (FC_one _ _)) ?_
              generalize hW37 : World.setRow V36 _ _ = V37
              have S_V37 := hW37 ▸ S_V36.row (by omega) (HNE.out _ hg0)
              have G_V37 := hW37 ▸ setRow_heap _ _ _ _ _ _ G_V36
              have K_V37 := hW37 ▸ FB.row K_V36 (by omega)
              try dsimp only
              refine hK.out _ _ S_V37 (fun _ => ?_)
              clear hK K
              refine wpAnyH_ready (rs := [7]) (by kernel_rfl) (by simp) ?_
              refine AllReadyH.cons rfl (fun K hK => ?_) AllReadyH.nil
              · refine step_store rfl 37 _ _ rfl _ rfl (.agg (FC 4 (lb (beN k))).toArray) rfl _ (run_storeAt_row (cells := (FC 4 (lb (beN k))).toArray) K_V37 (IN4 _) (SZ4 _ _) (FC_one _ _)) ?_
                generalize hW38 : World.setRow V37 _ _ = V38
                have S_V38 := hW38 ▸ S_V37.row (by omega) (HNE.out _ hk0)
                have G_V38 := hW38 ▸ (setRow_other _ _ _ _ (by omega)).trans G_V37
                have K_V38 := hW38 ▸ setRow_heap _ _ _ _ _ _ K_V37
                try dsimp only
                refine hK.out _ _ S_V38 (fun _ => ?_)
                clear hK K
                refine wpAnyH_done (by kernel_rfl) ?_ _
                go_wp2_with fail
                go_meet
                exact ⟨_, _, rfl, rfl, Lib.hid ((S_V38.add K_V38).add G_V38)⟩
      · go_simp
        generalize hW39 : World.alloc V29 _ = V39
        have hb39 : Below V29.heap.size V29 V39 := by rw [← hW39]; exact bl1 _ _
        have K_V39 : FB V29.heap.size 4 (fun _ => 0) 37 V39 := by rw [← hW39]; exact nw1 _ _
        have hz39 : V29.heap.size < V39.heap.size := K_V39.lt
        have hk0 : w.heap.size + 1 < V29.heap.size := by omega
        clear hW39
        have S_V39 := S_V29.keep hb39
        have G_V39 := G_V29.keep hb39
        try dsimp only
        refine hK.out _ _ S_V39 (fun _ => ?_)
        clear hK K
        refine wpAnyH_ready (rs := [1]) (by kernel_rfl) (by simp) ?_
        refine AllReadyH.cons rfl (fun K hK => ?_) AllReadyH.nil
        · go_simp
          go_at_call 24
          refine (HO.out _).mono ?_
          rintro r V40 ⟨rfl, hb40⟩
          have hz40 := hb40.size
          have S_V40 := S_V39.keep hb40
          have G_V40 := G_V39.keep hb40
          have K_V40 := K_V39.keep hb40
          try dsimp only
          refine hK.out _ _ S_V40 (fun _ => ?_)
          clear hK K
          refine wpAnyH_ready (rs := [3]) (by kernel_rfl) (by simp) ?_
          refine AllReadyH.cons rfl (fun K hK => ?_) AllReadyH.nil
          · go_simp
            go_at_call 24
            refine (KO.out _).mono ?_
            rintro r V41 ⟨rfl, hb41⟩
            have hz41 := hb41.size
            have S_V41 := S_V40.keep hb41
            have G_V41 := G_V40.keep hb41
            have K_V41 := K_V40.keep hb41
            try dsimp only
            refine hK.out _ _ S_V41 (fun _ => ?_)
            clear hK K
            refine wpAnyH_ready (rs := [6]) (by kernel_rfl) (by simp) ?_
            refine AllReadyH.cons rfl (fun K hK => ?_) AllReadyH.nil
            · refine step_store rfl 37 _ _ rfl _ rfl (.agg (FC 4 (lb (beN h))).toArray) rfl _ (run_storeAt_row (cells := (FC 4 (lb (beN h))).toArray) G_V41 (IN4 _) (SZ4 _ _) (FC_one _ _)) ?_
              generalize hW42 : World.setRow V41 _ _ = V42
              have S_V42 := hW42 ▸ S_V41.row (by omega) (HNE.out _ hg0)
              have G_V42 := hW42 ▸ setRow_heap _ _ _ _ _ _ G_V41
              have K_V42 := hW42 ▸ FB.row K_V41 (by omega)
              try dsimp only
              refine hK.out _ _ S_V42 (fun _ => ?_)
              clear hK K
              refine wpAnyH_ready (rs := [7]) (by kernel_rfl) (by simp) ?_
              refine AllReadyH.cons rfl (fun K hK => ?_) AllReadyH.nil
              · refine step_store rfl 37 _ _ rfl _ rfl (.agg (FC 4 (lb (beN k))).toArray) rfl _ (run_storeAt_row (cells := (FC 4 (lb (beN k))).toArray) K_V42 (IN4 _) (SZ4 _ _) (FC_one _ _)) ?_
                generalize hW43 : World.setRow V42 _ _ = V43
                have S_V43 := hW43 ▸ S_V42.row (by omega) (HNE.out _ hk0)
                have G_V43 := hW43 ▸ (setRow_other _ _ _ _ (by omega)).trans G_V42
                have K_V43 := hW43 ▸ setRow_heap _ _ _ _ _ _ K_V42
                try dsimp only
                refine hK.out _ _ S_V43 (fun _ => ?_)
                clear hK K
                refine wpAnyH_done (by kernel_rfl) ?_ _
                go_wp2_with fail
                go_meet
                exact ⟨_, _, rfl, rfl, Lib.hid ((S_V43.add K_V43).add G_V43)⟩
    · go_simp
      generalize hW44 : World.alloc W0 _ = V44
      have hb44 : Below W0.heap.size W0 V44 := by rw [← hW44]; exact bl1 _ _
      have K_V44 : FB W0.heap.size 4 (fun _ => 0) 37 V44 := by rw [← hW44]; exact nw1 _ _
      have hz44 : W0.heap.size < V44.heap.size := K_V44.lt
      have hk0 : w.heap.size + 1 < W0.heap.size := by omega
      clear hW44
      have S_V44 := S_W0.keep hb44
      try dsimp only
      refine hK.out _ _ S_V44 (fun _ => ?_)
      clear hK K
      refine wpAnyH_ready (rs := [1, 4]) (by kernel_rfl) (by simp) ?_
      refine AllReadyH.cons rfl (fun K hK => ?_) (AllReadyH.cons rfl (fun K hK => ?_) AllReadyH.nil)
      · go_simp
        go_at_call 24
        refine (HO.out _).mono ?_
        rintro r V45 ⟨rfl, hb45⟩
        have hz45 := hb45.size
        have S_V45 := S_V44.keep hb45
        have K_V45 := K_V44.keep hb45
        try dsimp only
        refine hK.out _ _ S_V45 (fun _ => ?_)
        clear hK K
        refine wpAnyH_ready (rs := [3, 4]) (by kernel_rfl) (by simp) ?_
        refine AllReadyH.cons rfl (fun K hK => ?_) (AllReadyH.cons rfl (fun K hK => ?_) AllReadyH.nil)
        · go_simp
          go_at_call 24
          refine (KO.out _).mono ?_
          rintro r V46 ⟨rfl, hb46⟩
          have hz46 := hb46.size
          have S_V46 := S_V45.keep hb46
          have K_V46 := K_V45.keep hb46
          try dsimp only
          refine hK.out _ _ S_V46 (fun _ => ?_)
          clear hK K
          refine wpAnyH_ready (rs := [4]) (by kernel_rfl) (by simp) ?_
          refine AllReadyH.cons rfl (fun K hK => ?_) AllReadyH.nil
          · go_simp
            generalize hW47 : World.alloc V46 _ = V47
            have hb47 : Below V46.heap.size V46 V47 := by rw [← hW47]; exact bl1 _ _
            have G_V47 : FB V46.heap.size 4 (fun _ => 0) 37 V47 := by rw [← hW47]; exact nw1 _ _
            have hz47 : V46.heap.size < V47.heap.size := G_V47.lt
            have hg0 : w.heap.size + 1 < V46.heap.size := by omega
            clear hW47
            have S_V47 := S_V46.keep hb47
            have K_V47 := K_V46.keep hb47
            try dsimp only
            refine hK.out _ _ S_V47 (fun _ => ?_)
            clear hK K
            refine wpAnyH_ready (rs := [6]) (by kernel_rfl) (by simp) ?_
            refine AllReadyH.cons rfl (fun K hK => ?_) AllReadyH.nil
            · refine step_store rfl 37 _ _ rfl _ rfl (.agg (FC 4 (lb (beN h))).toArray) rfl _ (run_storeAt_row (cells := (FC 4 (lb (beN h))).toArray) G_V47 (IN4 _) (SZ4 _ _) (FC_one _ _)) ?_
              generalize hW48 : World.setRow V47 _ _ = V48
              have S_V48 := hW48 ▸ S_V47.row (by omega) (HNE.out _ hg0)
              have K_V48 := hW48 ▸ FB.row K_V47 (by omega)
              have G_V48 := hW48 ▸ setRow_heap _ _ _ _ _ _ G_V47
              try dsimp only
              refine hK.out _ _ S_V48 (fun _ => ?_)
              clear hK K
              refine wpAnyH_ready (rs := [7]) (by kernel_rfl) (by simp) ?_
              refine AllReadyH.cons rfl (fun K hK => ?_) AllReadyH.nil
              · refine step_store rfl 37 _ _ rfl _ rfl (.agg (FC 4 (lb (beN k))).toArray) rfl _ (run_storeAt_row (cells := (FC 4 (lb (beN k))).toArray) K_V48 (IN4 _) (SZ4 _ _) (FC_one _ _)) ?_
                generalize hW49 : World.setRow V48 _ _ = V49
                have S_V49 := hW49 ▸ S_V48.row (by omega) (HNE.out _ hk0)
                have K_V49 := hW49 ▸ setRow_heap _ _ _ _ _ _ K_V48
                have G_V49 := hW49 ▸ (setRow_other _ _ _ _ (by omega)).trans G_V48
                try dsimp only
                refine hK.out _ _ S_V49 (fun _ => ?_)
                clear hK K
                refine wpAnyH_done (by kernel_rfl) ?_ _
                go_wp2_with fail
                go_meet
                exact ⟨_, _, rfl, rfl, Lib.hid ((S_V49.add K_V49).add G_V49)⟩
        · go_simp
          generalize hW50 : World.alloc V45 _ = V50
          have hb50 : Below V45.heap.size V45 V50 := by rw [← hW50]; exact bl1 _ _
          have G_V50 : FB V45.heap.size 4 (fun _ => 0) 37 V50 := by rw [← hW50]; exact nw1 _ _
          have hz50 : V45.heap.size < V50.heap.size := G_V50.lt
          have hg0 : w.heap.size + 1 < V45.heap.size := by omega
          clear hW50
          have S_V50 := S_V45.keep hb50
          have K_V50 := K_V45.keep hb50
          try dsimp only
          refine hK.out _ _ S_V50 (fun _ => ?_)
          clear hK K
          refine wpAnyH_ready (rs := [3]) (by kernel_rfl) (by simp) ?_
          refine AllReadyH.cons rfl (fun K hK => ?_) AllReadyH.nil
          · go_simp
            go_at_call 24
            refine (KO.out _).mono ?_
            rintro r V51 ⟨rfl, hb51⟩
            have hz51 := hb51.size
            have S_V51 := S_V50.keep hb51
            have K_V51 := K_V50.keep hb51
            have G_V51 := G_V50.keep hb51
            try dsimp only
            refine hK.out _ _ S_V51 (fun _ => ?_)
            clear hK K
            refine wpAnyH_ready (rs := [6]) (by kernel_rfl) (by simp) ?_
            refine AllReadyH.cons rfl (fun K hK => ?_) AllReadyH.nil
            · refine step_store rfl 37 _ _ rfl _ rfl (.agg (FC 4 (lb (beN h))).toArray) rfl _ (run_storeAt_row (cells := (FC 4 (lb (beN h))).toArray) G_V51 (IN4 _) (SZ4 _ _) (FC_one _ _)) ?_
              generalize hW52 : World.setRow V51 _ _ = V52
              have S_V52 := hW52 ▸ S_V51.row (by omega) (HNE.out _ hg0)
              have K_V52 := hW52 ▸ FB.row K_V51 (by omega)
              have G_V52 := hW52 ▸ setRow_heap _ _ _ _ _ _ G_V51
              try dsimp only
              refine hK.out _ _ S_V52 (fun _ => ?_)
              clear hK K
              refine wpAnyH_ready (rs := [7]) (by kernel_rfl) (by simp) ?_
              refine AllReadyH.cons rfl (fun K hK => ?_) AllReadyH.nil
              · refine step_store rfl 37 _ _ rfl _ rfl (.agg (FC 4 (lb (beN k))).toArray) rfl _ (run_storeAt_row (cells := (FC 4 (lb (beN k))).toArray) K_V52 (IN4 _) (SZ4 _ _) (FC_one _ _)) ?_
                generalize hW53 : World.setRow V52 _ _ = V53
                have S_V53 := hW53 ▸ S_V52.row (by omega) (HNE.out _ hk0)
                have K_V53 := hW53 ▸ setRow_heap _ _ _ _ _ _ K_V52
                have G_V53 := hW53 ▸ (setRow_other _ _ _ _ (by omega)).trans G_V52
                try dsimp only
                refine hK.out _ _ S_V53 (fun _ => ?_)
                clear hK K
                refine wpAnyH_done (by kernel_rfl) ?_ _
                go_wp2_with fail
                go_meet
                exact ⟨_, _, rfl, rfl, Lib.hid ((S_V53.add K_V53).add G_V53)⟩
      · go_simp
        generalize hW54 : World.alloc V44 _ = V54
        have hb54 : Below V44.heap.size V44 V54 := by rw [← hW54]; exact bl1 _ _
        have G_V54 : FB V44.heap.size 4 (fun _ => 0) 37 V54 := by rw [← hW54]; exact nw1 _ _
        have hz54 : V44.heap.size < V54.heap.size := G_V54.lt
        have hg0 : w.heap.size + 1 < V44.heap.size := by omega
        clear hW54
        have S_V54 := S_V44.keep hb54
        have K_V54 := K_V44.keep hb54
        try dsimp only
        refine hK.out _ _ S_V54 (fun _ => ?_)
        clear hK K
        refine wpAnyH_ready (rs := [1]) (by kernel_rfl) (by simp) ?_
        refine AllReadyH.cons rfl (fun K hK => ?_) AllReadyH.nil
        · go_simp
          go_at_call 24
          refine (HO.out _).mono ?_
          rintro r V55 ⟨rfl, hb55⟩
          have hz55 := hb55.size
          have S_V55 := S_V54.keep hb55
          have K_V55 := K_V54.keep hb55
          have G_V55 := G_V54.keep hb55
          try dsimp only
          refine hK.out _ _ S_V55 (fun _ => ?_)
          clear hK K
          refine wpAnyH_ready (rs := [3]) (by kernel_rfl) (by simp) ?_
          refine AllReadyH.cons rfl (fun K hK => ?_) AllReadyH.nil
          · go_simp
            go_at_call 24
            refine (KO.out _).mono ?_
            rintro r V56 ⟨rfl, hb56⟩
            have hz56 := hb56.size
            have S_V56 := S_V55.keep hb56
            have K_V56 := K_V55.keep hb56
            have G_V56 := G_V55.keep hb56
            try dsimp only
            refine hK.out _ _ S_V56 (fun _ => ?_)
            clear hK K
            refine wpAnyH_ready (rs := [6]) (by kernel_rfl) (by simp) ?_
            refine AllReadyH.cons rfl (fun K hK => ?_) AllReadyH.nil
            · refine step_store rfl 37 _ _ rfl _ rfl (.agg (FC 4 (lb (beN h))).toArray) rfl _ (run_storeAt_row (cells := (FC 4 (lb (beN h))).toArray) G_V56 (IN4 _) (SZ4 _ _) (FC_one _ _)) ?_
              generalize hW57 : World.setRow V56 _ _ = V57
              have S_V57 := hW57 ▸ S_V56.row (by omega) (HNE.out _ hg0)
              have K_V57 := hW57 ▸ FB.row K_V56 (by omega)
              have G_V57 := hW57 ▸ setRow_heap _ _ _ _ _ _ G_V56
              try dsimp only
              refine hK.out _ _ S_V57 (fun _ => ?_)
              clear hK K
              refine wpAnyH_ready (rs := [7]) (by kernel_rfl) (by simp) ?_
              refine AllReadyH.cons rfl (fun K hK => ?_) AllReadyH.nil
              · refine step_store rfl 37 _ _ rfl _ rfl (.agg (FC 4 (lb (beN k))).toArray) rfl _ (run_storeAt_row (cells := (FC 4 (lb (beN k))).toArray) K_V57 (IN4 _) (SZ4 _ _) (FC_one _ _)) ?_
                generalize hW58 : World.setRow V57 _ _ = V58
                have S_V58 := hW58 ▸ S_V57.row (by omega) (HNE.out _ hk0)
                have K_V58 := hW58 ▸ setRow_heap _ _ _ _ _ _ K_V57
                have G_V58 := hW58 ▸ (setRow_other _ _ _ _ (by omega)).trans G_V57
                try dsimp only
                refine hK.out _ _ S_V58 (fun _ => ?_)
                clear hK K
                refine wpAnyH_done (by kernel_rfl) ?_ _
                go_wp2_with fail
                go_meet
                exact ⟨_, _, rfl, rfl, Lib.hid ((S_V58.add K_V58).add G_V58)⟩
  case rest =>
    obtain ⟨g1, g2, rfl, rfl, hq⟩ := hcut
    have A1 := Lib.hid (fun (n : Nat) w => shr_calls (beN k) n w (beN32 KL.out))
    have A0 := Lib.hid (fun (n : Nat) w => cmp_calls (beN h) (beN k / 2 ^ n) w (beN32 HL.out) (Nat.lt_of_le_of_lt (Nat.div_le_self _ _) (beN32 KL.out)))
    simp only [shrI_nat] at A1
    clear S_W0 hsz HR KR HNE HLL hle kle
    have S := Lib.hid hq.out
    clear hq
    generalize hX : beN h = X at *
    generalize hY : beN k = Y at *
    have HXY := Lib.hid (And.intro hX hY)
    clear hX hY
    go_wp2_with fail
    go_loopw [7, 13] (fun s7 s13 wr => ∃ i : Nat, i ≤ 256 ∧ s13 = .int .i64 i ∧ s7 = .int .i64 ((i : Int) - 1) ∧ Hid (lvN X Y (256 - i) i = lvN X Y 256 0) ∧ Hid (SQ ((g1, oN (lb X)) :: (g2, oN (lb Y)) :: L) w wr)) (fun _ s13 _ => 256 - (intOf s13).toNat)
    case atStart => exact ⟨0, by omega, rfl, rfl, Lib.hid rfl, S⟩
    case round =>
      obtain ⟨i, hi, rfl, rfl, hlv, hq⟩ := hrel
      by_cases hil : i < 256
      · have i1 : (i : Int) < 256 := by omega
        have hst := lvN_step (x := X) (t := Y) hil
        rw [hlv.out] at hst
        have hcp := cmpI_pos X (Y / 2 ^ i)
        have L0 : ∀ wx, Below wr.heap.size wr wx → (Instr.loadAt 37 (.pointer (some ⟨g1, 0, none⟩))).run Try.prog wx = .ok (UV 4 X) wx := fun wx hb => ldAt4 (hq.out.keep hb).a0
        have L1 : ∀ wx, Below wr.heap.size wr wx → (Instr.loadAt 37 (.pointer (some ⟨g2, 0, none⟩))).run Try.prog wx = .ok (UV 4 Y) wx := fun wx hb => ldAt4 (hq.out.keep hb).a1
        have P1 : ∀ wx, Below wr.heap.size wr wx → Calls Try.prog 27 #[UV 4 Y, .int .i64 i] wx fun e w' => e = .returned (UV 4 (Y / 2 ^ i)) ∧ Below wx.heap.size wx w' := fun wx _ => A1.out i wx
        have P2 : ∀ wx, Below wr.heap.size wr wx → Calls Try.prog 32 #[UV 4 X, UV 4 (Y / 2 ^ i)] wx fun e w' => e = .returned (.int .i64 (cmpI X (Y / 2 ^ i))) ∧ Below wx.heap.size wx w' := fun wx _ => A0.out i wx
        have HS1 := Lib.hid hst.1
        have HS2 := Lib.hid hst.2
        generalize UV 4 X = x at *
        generalize UV 4 Y = y at *
        generalize UV 4 (Y / 2 ^ i) = z at *
        by_cases hle : X ≤ Y / 2 ^ i
        · have c0 := hcp.2.2 hle
          have HS := Lib.hid (HS1.out hle)
          clear hcp hst hle
          generalize cmpI X (Y / 2 ^ i) = c at *
          go_wp2_with fail
          refine wp_region_quiet_below (by kernel_rfl) (by kernel_rfl) ?_
          repeat (first | (refine wpQuiet_load rfl 37 _ rfl _ rfl _ (rg_fact L0) ?_) | (refine wpQuiet_load rfl 37 _ rfl _ rfl _ (rg_fact L1) ?_) | ((refine wpQuiet_call rfl 27 _ ?_ _ (rg_of P1) ?_); focus (intro wx; go_simp; done)) | ((refine wpQuiet_call rfl 32 _ ?_ _ (rg_of P2) ?_); focus (intro wx; go_simp; done)) | go_big_quiet_step (fail) | quiet_step (fail))
          refine wpQuiet_nil ?_
          rintro _ ⟨rp, rfl⟩
          have hb5 := below_regrown wr rp.d rp.os
          generalize Sort.grow (redrawn wr rp.d) rp.os = w5 at *
          have S2 := Lib.hid (hq.out.keep hb5)
          clear L0 L1 P1 P2 hb5
          go_wp2_with fail
          go_roundw
          case rel => exact ⟨i + 1, by omega, by go_num, by go_num, HS, S2⟩
          case measure => simp [intOf] <;> omega
        · have c0 := hcp.1.2 hle
          have HS := Lib.hid (HS2.out hle)
          clear hcp hst hle
          generalize cmpI X (Y / 2 ^ i) = c at *
          go_wp2_with fail
          refine wp_region_quiet_below (by kernel_rfl) (by kernel_rfl) ?_
          repeat (first | (refine wpQuiet_load rfl 37 _ rfl _ rfl _ (rg_fact L0) ?_) | (refine wpQuiet_load rfl 37 _ rfl _ rfl _ (rg_fact L1) ?_) | ((refine wpQuiet_call rfl 27 _ ?_ _ (rg_of P1) ?_); focus (intro wx; go_simp; done)) | ((refine wpQuiet_call rfl 32 _ ?_ _ (rg_of P2) ?_); focus (intro wx; go_simp; done)) | go_big_quiet_step (fail) | quiet_step (fail))
          refine wpQuiet_nil ?_
          rintro _ ⟨rp, rfl⟩
          have hb5 := below_regrown wr rp.d rp.os
          generalize Sort.grow (redrawn wr rp.d) rp.os = w5 at *
          have S2 := Lib.hid (hq.out.keep hb5)
          clear L0 L1 P1 P2 hb5
          go_wp2_with fail
          go_ret
          exact ⟨by unfold lvI; rw [HXY.out.1, HXY.out.2, HS.out]; rfl, S2.out.2⟩
      · obtain rfl : i = 256 := by omega
        have HS : Hid (lvN X Y 256 0 = 256) := Lib.hid (by rw [← hlv.out]; rfl)
        go_wp2_with fail
        go_ret
        exact ⟨by unfold lvI; rw [HXY.out.1, HXY.out.2, HS.out]; rfl, hq.out.2⟩
end Go.Proofs.Ytalfgagcfjddcaa.Wk
