/- The walk of chapter 4's law WideAdds. -/
import Derived.Test.YtalfgagcfjddcaaLaw04O
namespace Go.Proofs.Ytalfgagcfjddcaa.L4
open Go.RowKit Go.Proofs.Ytalfgagcfjddcaa.Mk Go.Proofs.Ytalfgagcfjddcaa.Ul Go.Proofs.Ytalfgagcfjddcaa.Wd Go.Proofs.Ytalfgagcfjddcaa.Wi Go.Proofs.Ytalfgagcfjddcaa.R4 Go.Proofs.Ytalfgagcfjddcaa.Hf
abbrev oN (f : Nat → Nat) : Obj := .cells (FC 4 f).toArray 37 (0, 0)
abbrev oH (h : List UInt8) : Obj := .cells (hc h).toArray 23 (0, 0)
set_option maxHeartbeats 8000000 in
set_option maxRecDepth 100000 in
theorem lawAdds_calls (h k : List UInt8) (w : World) (hl : h.length = 32) (kl : k.length = 32) : Calls Try.prog 14 #[hv h, hv k] w fun e w' => e = .returned (.bool true) ∧ Below w.heap.size w w' := by
  have HL := Lib.hid hl
  have KL := Lib.hid kl
  have hle := IHl hl
  have kle := IHl kl
  obtain ⟨L, hLL⟩ : ∃ L, L = [(w.heap.size + 1, oH k), (w.heap.size, oH h)] := ⟨_, rfl⟩
  have HLL := Lib.hid hLL
  have S0 : SQ L w ((w.alloc (oH h)).alloc (oH k)) := by rw [hLL]; exact SQ.new2 _ _ _
  have HR := Lib.hid (show ∀ wx, SQ L w wx → wx.rangeAt w.heap.size 0 (hc h) from fun wx hx => range_row (hx.1 (w.heap.size, oH h) (by rw [hLL]; simp)))
  have KR := Lib.hid (show ∀ wx, SQ L w wx → wx.rangeAt (w.heap.size + 1) 0 (hc k) from fun wx hx => range_row (hx.1 (w.heap.size + 1, oH k) (by rw [hLL]; simp)))
  have hsz : w.heap.size + 1 < ((w.alloc (oH h)).alloc (oH k)).drew.heap.size := by show _ < ((w.alloc (oH h)).alloc (oH k)).heap.size; simp
  have HNE : Hid (∀ g, w.heap.size + 1 < g → ∀ p ∈ L, p.1 ≠ g) := Lib.hid (fun g hg p hp => by rw [hLL] at hp; simp at hp; rcases hp with rfl | rfl <;> simp <;> omega)
  clear hl kl hLL
  unfold hv
  go_enter Try.func14, Try.ntmps14
  go_wp2_with fail
  generalize World.alloc (World.alloc w _) _ = W at *
  have S_W0 := S0.drew
  clear S0
  go_upto_region 1 with fail
  go_cut [5, 6] (fun s5 s6 wx => ∃ g1 g2, s5 = .pointer (some ⟨g1, 0, none⟩) ∧ s6 = .pointer (some ⟨g2, 0, none⟩) ∧ Hid (SQ ((g1, oN (lb (beN h))) :: (g2, oN (lb (beN k))) :: L) w wx))
  case first =>
    have HO := Lib.hid (fun w => of_calls h w HL.out)
    have KO := Lib.hid (fun w => of_calls k w KL.out)
    unfold hv UV at *
    refine wp_region_held_drew (S := SQ L w) (by kernel_rfl) S_W0 (fun hHeld => ?_)
    generalize World.drew W = W0 at *
    clear hHeld
    refine wpAnyH_take (i := 0) (oi := ⟨some 17, _, _, _, _, _⟩) (v := hv h) rfl (by kernel_rfl) (by kernel_rfl) (by kernel_rfl) (fun _ _ _ h => h) (yieldsIf_load_mid (by rfl) 23 _ rfl w.heap.size 0 rfl (hc h) _ HR.out UH rfl hle) (by assumption) ?_
    try simp only [Act.put, List.setIfInBounds_toArray, List.set_cons_zero, List.set_cons_succ]
    refine wpAnyH_take (i := 2) (oi := ⟨some 19, _, _, _, _, _⟩) (v := hv k) rfl (by kernel_rfl) (by kernel_rfl) (by kernel_rfl) (fun _ _ _ h => h) (yieldsIf_load_mid (by rfl) 23 _ rfl (w.heap.size + 1) 0 rfl (hc k) _ KR.out UH rfl kle) (by assumption) ?_
    try simp only [Act.put, List.setIfInBounds_toArray, List.set_cons_zero, List.set_cons_succ]
    refine wpAnyH_ready (rs := [1, 4, 5]) (by kernel_rfl) (by simp) ?_
    refine AllReadyH.cons rfl (fun K hK => ?_) (AllReadyH.cons rfl (fun K hK => ?_) (AllReadyH.cons rfl (fun K hK => ?_) AllReadyH.nil))
    · go_simp
      go_at_call 24
      refine (HO.out _).mono ?_
      rintro r V1 ⟨rfl, hb1⟩
      have hz1 := hb1.size
      have S_V1 := S_W0.keep hb1
      try dsimp only
      refine hK.out _ _ S_V1 (fun _ => ?_)
      clear hK K
      refine wpAnyH_ready (rs := [3, 4, 5]) (by kernel_rfl) (by simp) ?_
      refine AllReadyH.cons rfl (fun K hK => ?_) (AllReadyH.cons rfl (fun K hK => ?_) (AllReadyH.cons rfl (fun K hK => ?_) AllReadyH.nil))
      · go_simp
        go_at_call 24
        refine (KO.out _).mono ?_
        rintro r V2 ⟨rfl, hb2⟩
        have hz2 := hb2.size
        have S_V2 := S_V1.keep hb2
        try dsimp only
        refine hK.out _ _ S_V2 (fun _ => ?_)
        clear hK K
        refine wpAnyH_ready (rs := [4, 5]) (by kernel_rfl) (by simp) ?_
        refine AllReadyH.cons rfl (fun K hK => ?_) (AllReadyH.cons rfl (fun K hK => ?_) AllReadyH.nil)
        · go_simp
          generalize hW3 : World.alloc V2 _ = V3
          have hb3 : Below V2.heap.size V2 V3 := by rw [← hW3]; exact bl1 _ _
          have G_V3 : FB V2.heap.size 4 (fun _ => 0) 37 V3 := by rw [← hW3]; exact nw1 _ _
          have hz3 : V2.heap.size < V3.heap.size := G_V3.lt
          have hg0 : w.heap.size + 1 < V2.heap.size := by omega
          clear hW3
          have S_V3 := S_V2.keep hb3
          try dsimp only
          refine hK.out _ _ S_V3 (fun _ => ?_)
          clear hK K
          refine wpAnyH_ready (rs := [5]) (by kernel_rfl) (by simp) ?_
          refine AllReadyH.cons rfl (fun K hK => ?_) AllReadyH.nil
          · go_simp
            generalize hW4 : World.alloc V3 _ = V4
            have hb4 : Below V3.heap.size V3 V4 := by rw [← hW4]; exact bl1 _ _
            have K_V4 : FB V3.heap.size 4 (fun _ => 0) 37 V4 := by rw [← hW4]; exact nw1 _ _
            have hz4 : V3.heap.size < V4.heap.size := K_V4.lt
            have hk0 : w.heap.size + 1 < V3.heap.size := by omega
            clear hW4
            have S_V4 := S_V3.keep hb4
            have G_V4 := G_V3.keep hb4
            try dsimp only
            refine hK.out _ _ S_V4 (fun _ => ?_)
            clear hK K
            refine wpAnyH_ready (rs := [6]) (by kernel_rfl) (by simp) ?_
            refine AllReadyH.cons rfl (fun K hK => ?_) AllReadyH.nil
            · refine step_store rfl 37 _ _ rfl _ rfl (.agg (FC 4 (lb (beN h))).toArray) rfl _ (run_storeAt_row (cells := (FC 4 (lb (beN h))).toArray) G_V4 (IN4 _) (SZ4 _ _) (FC_one _ _)) ?_
              generalize hW5 : World.setRow V4 _ _ = V5
              have S_V5 := hW5 ▸ S_V4.row (by omega) (HNE.out _ hg0)
              have G_V5 := hW5 ▸ setRow_heap _ _ _ _ _ _ G_V4
              have K_V5 := hW5 ▸ FB.row K_V4 (by omega)
              try dsimp only
              refine hK.out _ _ S_V5 (fun _ => ?_)
              clear hK K
              refine wpAnyH_ready (rs := [7]) (by kernel_rfl) (by simp) ?_
              refine AllReadyH.cons rfl (fun K hK => ?_) AllReadyH.nil
              · refine step_store rfl 37 _ _ rfl _ rfl (.agg (FC 4 (lb (beN k))).toArray) rfl _ (run_storeAt_row (cells := (FC 4 (lb (beN k))).toArray) K_V5 (IN4 _) (SZ4 _ _) (FC_one _ _)) ?_
                generalize hW6 : World.setRow V5 _ _ = V6
                have S_V6 := hW6 ▸ S_V5.row (by omega) (HNE.out _ hk0)
                have G_V6 := hW6 ▸ (setRow_other _ _ _ _ (by omega)).trans G_V5
                have K_V6 := hW6 ▸ setRow_heap _ _ _ _ _ _ K_V5
                try dsimp only
                refine hK.out _ _ S_V6 (fun _ => ?_)
                clear hK K
                refine wpAnyH_done (by kernel_rfl) ?_ _
                go_wp2_with fail
                go_meet
                exact ⟨_, _, rfl, rfl, Lib.hid ((S_V6.add K_V6).add G_V6)⟩
        · go_simp
          generalize hW7 : World.alloc V2 _ = V7
          have hb7 : Below V2.heap.size V2 V7 := by rw [← hW7]; exact bl1 _ _
          have K_V7 : FB V2.heap.size 4 (fun _ => 0) 37 V7 := by rw [← hW7]; exact nw1 _ _
          have hz7 : V2.heap.size < V7.heap.size := K_V7.lt
          have hk0 : w.heap.size + 1 < V2.heap.size := by omega
          clear hW7
          have S_V7 := S_V2.keep hb7
          try dsimp only
          refine hK.out _ _ S_V7 (fun _ => ?_)
          clear hK K
          refine wpAnyH_ready (rs := [4]) (by kernel_rfl) (by simp) ?_
          refine AllReadyH.cons rfl (fun K hK => ?_) AllReadyH.nil
          · go_simp
            generalize hW8 : World.alloc V7 _ = V8
            have hb8 : Below V7.heap.size V7 V8 := by rw [← hW8]; exact bl1 _ _
            have G_V8 : FB V7.heap.size 4 (fun _ => 0) 37 V8 := by rw [← hW8]; exact nw1 _ _
            have hz8 : V7.heap.size < V8.heap.size := G_V8.lt
            have hg0 : w.heap.size + 1 < V7.heap.size := by omega
            clear hW8
            have S_V8 := S_V7.keep hb8
            have K_V8 := K_V7.keep hb8
            try dsimp only
            refine hK.out _ _ S_V8 (fun _ => ?_)
            clear hK K
            refine wpAnyH_ready (rs := [6]) (by kernel_rfl) (by simp) ?_
            refine AllReadyH.cons rfl (fun K hK => ?_) AllReadyH.nil
            · refine step_store rfl 37 _ _ rfl _ rfl (.agg (FC 4 (lb (beN h))).toArray) rfl _ (run_storeAt_row (cells := (FC 4 (lb (beN h))).toArray) G_V8 (IN4 _) (SZ4 _ _) (FC_one _ _)) ?_
              generalize hW9 : World.setRow V8 _ _ = V9
              have S_V9 := hW9 ▸ S_V8.row (by omega) (HNE.out _ hg0)
              have K_V9 := hW9 ▸ FB.row K_V8 (by omega)
              have G_V9 := hW9 ▸ setRow_heap _ _ _ _ _ _ G_V8
              try dsimp only
              refine hK.out _ _ S_V9 (fun _ => ?_)
              clear hK K
              refine wpAnyH_ready (rs := [7]) (by kernel_rfl) (by simp) ?_
              refine AllReadyH.cons rfl (fun K hK => ?_) AllReadyH.nil
              · refine step_store rfl 37 _ _ rfl _ rfl (.agg (FC 4 (lb (beN k))).toArray) rfl _ (run_storeAt_row (cells := (FC 4 (lb (beN k))).toArray) K_V9 (IN4 _) (SZ4 _ _) (FC_one _ _)) ?_
                generalize hW10 : World.setRow V9 _ _ = V10
                have S_V10 := hW10 ▸ S_V9.row (by omega) (HNE.out _ hk0)
                have K_V10 := hW10 ▸ setRow_heap _ _ _ _ _ _ K_V9
                have G_V10 := hW10 ▸ (setRow_other _ _ _ _ (by omega)).trans G_V9
                try dsimp only
                refine hK.out _ _ S_V10 (fun _ => ?_)
                clear hK K
                refine wpAnyH_done (by kernel_rfl) ?_ _
                go_wp2_with fail
                go_meet
                exact ⟨_, _, rfl, rfl, Lib.hid ((S_V10.add K_V10).add G_V10)⟩
      · go_simp
        generalize hW11 : World.alloc V1 _ = V11
        have hb11 : Below V1.heap.size V1 V11 := by rw [← hW11]; exact bl1 _ _
        have G_V11 : FB V1.heap.size 4 (fun _ => 0) 37 V11 := by rw [← hW11]; exact nw1 _ _
        have hz11 : V1.heap.size < V11.heap.size := G_V11.lt
        have hg0 : w.heap.size + 1 < V1.heap.size := by omega
        clear hW11
        have S_V11 := S_V1.keep hb11
        try dsimp only
        refine hK.out _ _ S_V11 (fun _ => ?_)
        clear hK K
        refine wpAnyH_ready (rs := [3, 5]) (by kernel_rfl) (by simp) ?_
        refine AllReadyH.cons rfl (fun K hK => ?_) (AllReadyH.cons rfl (fun K hK => ?_) AllReadyH.nil)
        · go_simp
          go_at_call 24
          refine (KO.out _).mono ?_
          rintro r V12 ⟨rfl, hb12⟩
          have hz12 := hb12.size
          have S_V12 := S_V11.keep hb12
          have G_V12 := G_V11.keep hb12
          try dsimp only
          refine hK.out _ _ S_V12 (fun _ => ?_)
          clear hK K
          refine wpAnyH_ready (rs := [5]) (by kernel_rfl) (by simp) ?_
          refine AllReadyH.cons rfl (fun K hK => ?_) AllReadyH.nil
          · go_simp
            generalize hW13 : World.alloc V12 _ = V13
            have hb13 : Below V12.heap.size V12 V13 := by rw [← hW13]; exact bl1 _ _
            have K_V13 : FB V12.heap.size 4 (fun _ => 0) 37 V13 := by rw [← hW13]; exact nw1 _ _
            have hz13 : V12.heap.size < V13.heap.size := K_V13.lt
            have hk0 : w.heap.size + 1 < V12.heap.size := by omega
            clear hW13
            have S_V13 := S_V12.keep hb13
            have G_V13 := G_V12.keep hb13
            try dsimp only
            refine hK.out _ _ S_V13 (fun _ => ?_)
            clear hK K
            refine wpAnyH_ready (rs := [6]) (by kernel_rfl) (by simp) ?_
            refine AllReadyH.cons rfl (fun K hK => ?_) AllReadyH.nil
            · refine step_store rfl 37 _ _ rfl _ rfl (.agg (FC 4 (lb (beN h))).toArray) rfl _ (run_storeAt_row (cells := (FC 4 (lb (beN h))).toArray) G_V13 (IN4 _) (SZ4 _ _) (FC_one _ _)) ?_
              generalize hW14 : World.setRow V13 _ _ = V14
              have S_V14 := hW14 ▸ S_V13.row (by omega) (HNE.out _ hg0)
              have G_V14 := hW14 ▸ setRow_heap _ _ _ _ _ _ G_V13
              have K_V14 := hW14 ▸ FB.row K_V13 (by omega)
              try dsimp only
              refine hK.out _ _ S_V14 (fun _ => ?_)
              clear hK K
              refine wpAnyH_ready (rs := [7]) (by kernel_rfl) (by simp) ?_
              refine AllReadyH.cons rfl (fun K hK => ?_) AllReadyH.nil
              · refine step_store rfl 37 _ _ rfl _ rfl (.agg (FC 4 (lb (beN k))).toArray) rfl _ (run_storeAt_row (cells := (FC 4 (lb (beN k))).toArray) K_V14 (IN4 _) (SZ4 _ _) (FC_one _ _)) ?_
                generalize hW15 : World.setRow V14 _ _ = V15
                have S_V15 := hW15 ▸ S_V14.row (by omega) (HNE.out _ hk0)
                have G_V15 := hW15 ▸ (setRow_other _ _ _ _ (by omega)).trans G_V14
                have K_V15 := hW15 ▸ setRow_heap _ _ _ _ _ _ K_V14
                try dsimp only
                refine hK.out _ _ S_V15 (fun _ => ?_)
                clear hK K
                refine wpAnyH_done (by kernel_rfl) ?_ _
                go_wp2_with fail
                go_meet
                exact ⟨_, _, rfl, rfl, Lib.hid ((S_V15.add K_V15).add G_V15)⟩
        · go_simp
          generalize hW16 : World.alloc V11 _ = V16
          have hb16 : Below V11.heap.size V11 V16 := by rw [← hW16]; exact bl1 _ _
          have K_V16 : FB V11.heap.size 4 (fun _ => 0) 37 V16 := by rw [← hW16]; exact nw1 _ _
          have hz16 : V11.heap.size < V16.heap.size := K_V16.lt
          have hk0 : w.heap.size + 1 < V11.heap.size := by omega
          clear hW16
          have S_V16 := S_V11.keep hb16
          have G_V16 := G_V11.keep hb16
          try dsimp only
          refine hK.out _ _ S_V16 (fun _ => ?_)
          clear hK K
          refine wpAnyH_ready (rs := [3]) (by kernel_rfl) (by simp) ?_
          refine AllReadyH.cons rfl (fun K hK => ?_) AllReadyH.nil
          · go_simp
            go_at_call 24
            refine (KO.out _).mono ?_
            rintro r V17 ⟨rfl, hb17⟩
            have hz17 := hb17.size
            have S_V17 := S_V16.keep hb17
            have G_V17 := G_V16.keep hb17
            have K_V17 := K_V16.keep hb17
            try dsimp only
            refine hK.out _ _ S_V17 (fun _ => ?_)
            clear hK K
            refine wpAnyH_ready (rs := [6]) (by kernel_rfl) (by simp) ?_
            refine AllReadyH.cons rfl (fun K hK => ?_) AllReadyH.nil
            · refine step_store rfl 37 _ _ rfl _ rfl (.agg (FC 4 (lb (beN h))).toArray) rfl _ (run_storeAt_row (cells := (FC 4 (lb (beN h))).toArray) G_V17 (IN4 _) (SZ4 _ _) (FC_one _ _)) ?_
              generalize hW18 : World.setRow V17 _ _ = V18
              have S_V18 := hW18 ▸ S_V17.row (by omega) (HNE.out _ hg0)
              have G_V18 := hW18 ▸ setRow_heap _ _ _ _ _ _ G_V17
              have K_V18 := hW18 ▸ FB.row K_V17 (by omega)
              try dsimp only
              refine hK.out _ _ S_V18 (fun _ => ?_)
              clear hK K
              refine wpAnyH_ready (rs := [7]) (by kernel_rfl) (by simp) ?_
              refine AllReadyH.cons rfl (fun K hK => ?_) AllReadyH.nil
              · refine step_store rfl 37 _ _ rfl _ rfl (.agg (FC 4 (lb (beN k))).toArray) rfl _ (run_storeAt_row (cells := (FC 4 (lb (beN k))).toArray) K_V18 (IN4 _) (SZ4 _ _) (FC_one _ _)) ?_
                generalize hW19 : World.setRow V18 _ _ = V19
                have S_V19 := hW19 ▸ S_V18.row (by omega) (HNE.out _ hk0)
                have G_V19 := hW19 ▸ (setRow_other _ _ _ _ (by omega)).trans G_V18
                have K_V19 := hW19 ▸ setRow_heap _ _ _ _ _ _ K_V18
                try dsimp only
                refine hK.out _ _ S_V19 (fun _ => ?_)
                clear hK K
                refine wpAnyH_done (by kernel_rfl) ?_ _
                go_wp2_with fail
                go_meet
                exact ⟨_, _, rfl, rfl, Lib.hid ((S_V19.add K_V19).add G_V19)⟩
      · go_simp
        generalize hW20 : World.alloc V1 _ = V20
        have hb20 : Below V1.heap.size V1 V20 := by rw [← hW20]; exact bl1 _ _
        have K_V20 : FB V1.heap.size 4 (fun _ => 0) 37 V20 := by rw [← hW20]; exact nw1 _ _
        have hz20 : V1.heap.size < V20.heap.size := K_V20.lt
        have hk0 : w.heap.size + 1 < V1.heap.size := by omega
        clear hW20
        have S_V20 := S_V1.keep hb20
        try dsimp only
        refine hK.out _ _ S_V20 (fun _ => ?_)
        clear hK K
        refine wpAnyH_ready (rs := [3, 4]) (by kernel_rfl) (by simp) ?_
        refine AllReadyH.cons rfl (fun K hK => ?_) (AllReadyH.cons rfl (fun K hK => ?_) AllReadyH.nil)
        · go_simp
          go_at_call 24
          refine (KO.out _).mono ?_
          rintro r V21 ⟨rfl, hb21⟩
          have hz21 := hb21.size
          have S_V21 := S_V20.keep hb21
          have K_V21 := K_V20.keep hb21
          try dsimp only
          refine hK.out _ _ S_V21 (fun _ => ?_)
          clear hK K
          refine wpAnyH_ready (rs := [4]) (by kernel_rfl) (by simp) ?_
          refine AllReadyH.cons rfl (fun K hK => ?_) AllReadyH.nil
          · go_simp
            generalize hW22 : World.alloc V21 _ = V22
            have hb22 : Below V21.heap.size V21 V22 := by rw [← hW22]; exact bl1 _ _
            have G_V22 : FB V21.heap.size 4 (fun _ => 0) 37 V22 := by rw [← hW22]; exact nw1 _ _
            have hz22 : V21.heap.size < V22.heap.size := G_V22.lt
            have hg0 : w.heap.size + 1 < V21.heap.size := by omega
            clear hW22
            have S_V22 := S_V21.keep hb22
            have K_V22 := K_V21.keep hb22
            try dsimp only
            refine hK.out _ _ S_V22 (fun _ => ?_)
            clear hK K
            refine wpAnyH_ready (rs := [6]) (by kernel_rfl) (by simp) ?_
            refine AllReadyH.cons rfl (fun K hK => ?_) AllReadyH.nil
            · refine step_store rfl 37 _ _ rfl _ rfl (.agg (FC 4 (lb (beN h))).toArray) rfl _ (run_storeAt_row (cells := (FC 4 (lb (beN h))).toArray) G_V22 (IN4 _) (SZ4 _ _) (FC_one _ _)) ?_
              generalize hW23 : World.setRow V22 _ _ = V23
              have S_V23 := hW23 ▸ S_V22.row (by omega) (HNE.out _ hg0)
              have K_V23 := hW23 ▸ FB.row K_V22 (by omega)
              have G_V23 := hW23 ▸ setRow_heap _ _ _ _ _ _ G_V22
              try dsimp only
              refine hK.out _ _ S_V23 (fun _ => ?_)
              clear hK K
              refine wpAnyH_ready (rs := [7]) (by kernel_rfl) (by simp) ?_
              refine AllReadyH.cons rfl (fun K hK => ?_) AllReadyH.nil
              · refine step_store rfl 37 _ _ rfl _ rfl (.agg (FC 4 (lb (beN k))).toArray) rfl _ (run_storeAt_row (cells := (FC 4 (lb (beN k))).toArray) K_V23 (IN4 _) (SZ4 _ _) (FC_one _ _)) ?_
                generalize hW24 : World.setRow V23 _ _ = V24
                have S_V24 := hW24 ▸ S_V23.row (by omega) (HNE.out _ hk0)
                have K_V24 := hW24 ▸ setRow_heap _ _ _ _ _ _ K_V23
                have G_V24 := hW24 ▸ (setRow_other _ _ _ _ (by omega)).trans G_V23
                try dsimp only
                refine hK.out _ _ S_V24 (fun _ => ?_)
                clear hK K
                refine wpAnyH_done (by kernel_rfl) ?_ _
                go_wp2_with fail
                go_meet
                exact ⟨_, _, rfl, rfl, Lib.hid ((S_V24.add K_V24).add G_V24)⟩
        · go_simp
          generalize hW25 : World.alloc V20 _ = V25
          have hb25 : Below V20.heap.size V20 V25 := by rw [← hW25]; exact bl1 _ _
          have G_V25 : FB V20.heap.size 4 (fun _ => 0) 37 V25 := by rw [← hW25]; exact nw1 _ _
          have hz25 : V20.heap.size < V25.heap.size := G_V25.lt
          have hg0 : w.heap.size + 1 < V20.heap.size := by omega
          clear hW25
          have S_V25 := S_V20.keep hb25
          have K_V25 := K_V20.keep hb25
          try dsimp only
          refine hK.out _ _ S_V25 (fun _ => ?_)
          clear hK K
          refine wpAnyH_ready (rs := [3]) (by kernel_rfl) (by simp) ?_
          refine AllReadyH.cons rfl (fun K hK => ?_) AllReadyH.nil
          · go_simp
            go_at_call 24
            refine (KO.out _).mono ?_
            rintro r V26 ⟨rfl, hb26⟩
            have hz26 := hb26.size
            have S_V26 := S_V25.keep hb26
            have K_V26 := K_V25.keep hb26
            have G_V26 := G_V25.keep hb26
            try dsimp only
            refine hK.out _ _ S_V26 (fun _ => ?_)
            clear hK K
            refine wpAnyH_ready (rs := [6]) (by kernel_rfl) (by simp) ?_
            refine AllReadyH.cons rfl (fun K hK => ?_) AllReadyH.nil
            · refine step_store rfl 37 _ _ rfl _ rfl (.agg (FC 4 (lb (beN h))).toArray) rfl _ (run_storeAt_row (cells := (FC 4 (lb (beN h))).toArray) G_V26 (IN4 _) (SZ4 _ _) (FC_one _ _)) ?_
              generalize hW27 : World.setRow V26 _ _ = V27
              have S_V27 := hW27 ▸ S_V26.row (by omega) (HNE.out _ hg0)
              have K_V27 := hW27 ▸ FB.row K_V26 (by omega)
              have G_V27 := hW27 ▸ setRow_heap _ _ _ _ _ _ G_V26
              try dsimp only
              refine hK.out _ _ S_V27 (fun _ => ?_)
              clear hK K
              refine wpAnyH_ready (rs := [7]) (by kernel_rfl) (by simp) ?_
              refine AllReadyH.cons rfl (fun K hK => ?_) AllReadyH.nil
              · refine step_store rfl 37 _ _ rfl _ rfl (.agg (FC 4 (lb (beN k))).toArray) rfl _ (run_storeAt_row (cells := (FC 4 (lb (beN k))).toArray) K_V27 (IN4 _) (SZ4 _ _) (FC_one _ _)) ?_
                generalize hW28 : World.setRow V27 _ _ = V28
                have S_V28 := hW28 ▸ S_V27.row (by omega) (HNE.out _ hk0)
                have K_V28 := hW28 ▸ setRow_heap _ _ _ _ _ _ K_V27
                have G_V28 := hW28 ▸ (setRow_other _ _ _ _ (by omega)).trans G_V27
                try dsimp only
                refine hK.out _ _ S_V28 (fun _ => ?_)
                clear hK K
                refine wpAnyH_done (by kernel_rfl) ?_ _
                go_wp2_with fail
                go_meet
                exact ⟨_, _, rfl, rfl, Lib.hid ((S_V28.add K_V28).add G_V28)⟩
    · go_simp
      generalize hW29 : World.alloc W0 _ = V29
      have hb29 : Below W0.heap.size W0 V29 := by rw [← hW29]; exact bl1 _ _
      have G_V29 : FB W0.heap.size 4 (fun _ => 0) 37 V29 := by rw [← hW29]; exact nw1 _ _
      have hz29 : W0.heap.size < V29.heap.size := G_V29.lt
      have hg0 : w.heap.size + 1 < W0.heap.size := by omega
      clear hW29
      have S_V29 := S_W0.keep hb29
      try dsimp only
      refine hK.out _ _ S_V29 (fun _ => ?_)
      clear hK K
      refine wpAnyH_ready (rs := [1, 5]) (by kernel_rfl) (by simp) ?_
      refine AllReadyH.cons rfl (fun K hK => ?_) (AllReadyH.cons rfl (fun K hK => ?_) AllReadyH.nil)
      · go_simp
        go_at_call 24
        refine (HO.out _).mono ?_
        rintro r V30 ⟨rfl, hb30⟩
        have hz30 := hb30.size
        have S_V30 := S_V29.keep hb30
        have G_V30 := G_V29.keep hb30
        try dsimp only
        refine hK.out _ _ S_V30 (fun _ => ?_)
        clear hK K
        refine wpAnyH_ready (rs := [3, 5]) (by kernel_rfl) (by simp) ?_
        refine AllReadyH.cons rfl (fun K hK => ?_) (AllReadyH.cons rfl (fun K hK => ?_) AllReadyH.nil)
        · go_simp
          go_at_call 24
          refine (KO.out _).mono ?_
          rintro r V31 ⟨rfl, hb31⟩
          have hz31 := hb31.size
          have S_V31 := S_V30.keep hb31
          have G_V31 := G_V30.keep hb31
          try dsimp only
          refine hK.out _ _ S_V31 (fun _ => ?_)
          clear hK K
          refine wpAnyH_ready (rs := [5]) (by kernel_rfl) (by simp) ?_
          refine AllReadyH.cons rfl (fun K hK => ?_) AllReadyH.nil
          · go_simp
            generalize hW32 : World.alloc V31 _ = V32
            have hb32 : Below V31.heap.size V31 V32 := by rw [← hW32]; exact bl1 _ _
            have K_V32 : FB V31.heap.size 4 (fun _ => 0) 37 V32 := by rw [← hW32]; exact nw1 _ _
            have hz32 : V31.heap.size < V32.heap.size := K_V32.lt
            have hk0 : w.heap.size + 1 < V31.heap.size := by omega
            clear hW32
            have S_V32 := S_V31.keep hb32
            have G_V32 := G_V31.keep hb32
            try dsimp only
            refine hK.out _ _ S_V32 (fun _ => ?_)
            clear hK K
            refine wpAnyH_ready (rs := [6]) (by kernel_rfl) (by simp) ?_
            refine AllReadyH.cons rfl (fun K hK => ?_) AllReadyH.nil
            · refine step_store rfl 37 _ _ rfl _ rfl (.agg (FC 4 (lb (beN h))).toArray) rfl _ (run_storeAt_row (cells := (FC 4 (lb (beN h))).toArray) G_V32 (IN4 _) (SZ4 _ _) (FC_one _ _)) ?_
              generalize hW33 : World.setRow V32 _ _ = V33
              have S_V33 := hW33 ▸ S_V32.row (by omega) (HNE.out _ hg0)
              have G_V33 := hW33 ▸ setRow_heap _ _ _ _ _ _ G_V32
              have K_V33 := hW33 ▸ FB.row K_V32 (by omega)
              try dsimp only
              refine hK.out _ _ S_V33 (fun _ => ?_)
              clear hK K
              refine wpAnyH_ready (rs := [7]) (by kernel_rfl) (by simp) ?_
              refine AllReadyH.cons rfl (fun K hK => ?_) AllReadyH.nil
              · refine step_store rfl 37 _ _ rfl _ rfl (.agg (FC 4 (lb (beN k))).toArray) rfl _ (run_storeAt_row (cells := (FC 4 (lb (beN k))).toArray) K_V33 (IN4 _) (SZ4 _ _) (FC_one _ _)) ?_
                generalize hW34 : World.setRow V33 _ _ = V34
                have S_V34 := hW34 ▸ S_V33.row (by omega) (HNE.out _ hk0)
                have G_V34 := hW34 ▸ (setRow_other _ _ _ _ (by omega)).trans G_V33
                have K_V34 := hW34 ▸ setRow_heap _ _ _ _ _ _ K_V33
                try dsimp only
                refine hK.out _ _ S_V34 (fun _ => ?_)
                clear hK K
                refine wpAnyH_done (by kernel_rfl) ?_ _
                go_wp2_with fail
                go_meet
                exact ⟨_, _, rfl, rfl, Lib.hid ((S_V34.add K_V34).add G_V34)⟩
        · go_simp
          generalize hW35 : World.alloc V30 _ = V35
          have hb35 : Below V30.heap.size V30 V35 := by rw [← hW35]; exact bl1 _ _
          have K_V35 : FB V30.heap.size 4 (fun _ => 0) 37 V35 := by rw [← hW35]; exact nw1 _ _
          have hz35 : V30.heap.size < V35.heap.size := K_V35.lt
          have hk0 : w.heap.size + 1 < V30.heap.size := by omega
          clear hW35
          have S_V35 := S_V30.keep hb35
          have G_V35 := G_V30.keep hb35
          try dsimp only
          refine hK.out _ _ S_V35 (fun _ => ?_)
          clear hK K
          refine wpAnyH_ready (rs := [3]) (by kernel_rfl) (by simp) ?_
          refine AllReadyH.cons rfl (fun K hK => ?_) AllReadyH.nil
          · go_simp
            go_at_call 24
            refine (KO.out _).mono ?_
            rintro r V36 ⟨rfl, hb36⟩
            have hz36 := hb36.size
            have S_V36 := S_V35.keep hb36
            have G_V36 := G_V35.keep hb36
            have K_V36 := K_V35.keep hb36
            try dsimp only
            refine hK.out _ _ S_V36 (fun _ => ?_)
            clear hK K
            refine wpAnyH_ready (rs := [6]) (by kernel_rfl) (by simp) ?_
            refine AllReadyH.cons rfl (fun K hK => ?_) AllReadyH.nil
            · refine step_store rfl 37 _ _ rfl _ rfl (.agg (FC 4 (lb (beN h))).toArray) rfl _ (run_storeAt_row (cells := (FC 4 (lb (beN h))).toArray) G_V36 (IN4 _) (SZ4 _ _) (FC_one _ _)) ?_
              generalize hW37 : World.setRow V36 _ _ = V37
              have S_V37 := hW37 ▸ S_V36.row (by omega) (HNE.out _ hg0)
              have G_V37 := hW37 ▸ setRow_heap _ _ _ _ _ _ G_V36
              have K_V37 := hW37 ▸ FB.row K_V36 (by omega)
              try dsimp only
              refine hK.out _ _ S_V37 (fun _ => ?_)
              clear hK K
              refine wpAnyH_ready (rs := [7]) (by kernel_rfl) (by simp) ?_
              refine AllReadyH.cons rfl (fun K hK => ?_) AllReadyH.nil
              · refine step_store rfl 37 _ _ rfl _ rfl (.agg (FC 4 (lb (beN k))).toArray) rfl _ (run_storeAt_row (cells := (FC 4 (lb (beN k))).toArray) K_V37 (IN4 _) (SZ4 _ _) (FC_one _ _)) ?_
                generalize hW38 : World.setRow V37 _ _ = V38
                have S_V38 := hW38 ▸ S_V37.row (by omega) (HNE.out _ hk0)
                have G_V38 := hW38 ▸ (setRow_other _ _ _ _ (by omega)).trans G_V37
                have K_V38 := hW38 ▸ setRow_heap _ _ _ _ _ _ K_V37
                try dsimp only
                refine hK.out _ _ S_V38 (fun _ => ?_)
                clear hK K
                refine wpAnyH_done (by kernel_rfl) ?_ _
                go_wp2_with fail
                go_meet
                exact ⟨_, _, rfl, rfl, Lib.hid ((S_V38.add K_V38).add G_V38)⟩
      · go_simp
        generalize hW39 : World.alloc V29 _ = V39
        have hb39 : Below V29.heap.size V29 V39 := by rw [← hW39]; exact bl1 _ _
        have K_V39 : FB V29.heap.size 4 (fun _ => 0) 37 V39 := by rw [← hW39]; exact nw1 _ _
        have hz39 : V29.heap.size < V39.heap.size := K_V39.lt
        have hk0 : w.heap.size + 1 < V29.heap.size := by omega
        clear hW39
        have S_V39 := S_V29.keep hb39
        have G_V39 := G_V29.keep hb39
        try dsimp only
        refine hK.out _ _ S_V39 (fun _ => ?_)
        clear hK K
        refine wpAnyH_ready (rs := [1]) (by kernel_rfl) (by simp) ?_
        refine AllReadyH.cons rfl (fun K hK => ?_) AllReadyH.nil
        · go_simp
          go_at_call 24
          refine (HO.out _).mono ?_
          rintro r V40 ⟨rfl, hb40⟩
          have hz40 := hb40.size
          have S_V40 := S_V39.keep hb40
          have G_V40 := G_V39.keep hb40
          have K_V40 := K_V39.keep hb40
          try dsimp only
          refine hK.out _ _ S_V40 (fun _ => ?_)
          clear hK K
          refine wpAnyH_ready (rs := [3]) (by kernel_rfl) (by simp) ?_
          refine AllReadyH.cons rfl (fun K hK => ?_) AllReadyH.nil
          · go_simp
            go_at_call 24
            refine (KO.out _).mono ?_
            rintro r V41 ⟨rfl, hb41⟩
            have hz41 := hb41.size
            have S_V41 := S_V40.keep hb41
            have G_V41 := G_V40.keep hb41
            have K_V41 := K_V40.keep hb41
            try dsimp only
            refine hK.out _ _ S_V41 (fun _ => ?_)
            clear hK K
            refine wpAnyH_ready (rs := [6]) (by kernel_rfl) (by simp) ?_
            refine AllReadyH.cons rfl (fun K hK => ?_) AllReadyH.nil
            · refine step_store rfl 37 _ _ rfl _ rfl (.agg (FC 4 (lb (beN h))).toArray) rfl _ (run_storeAt_row (cells := (FC 4 (lb (beN h))).toArray) G_V41 (IN4 _) (SZ4 _ _) (FC_one _ _)) ?_
              generalize hW42 : World.setRow V41 _ _ = V42
              have S_V42 := hW42 ▸ S_V41.row (by omega) (HNE.out _ hg0)
              have G_V42 := hW42 ▸ setRow_heap _ _ _ _ _ _ G_V41
              have K_V42 := hW42 ▸ FB.row K_V41 (by omega)
              try dsimp only
              refine hK.out _ _ S_V42 (fun _ => ?_)
              clear hK K
              refine wpAnyH_ready (rs := [7]) (by kernel_rfl) (by simp) ?_
              refine AllReadyH.cons rfl (fun K hK => ?_) AllReadyH.nil
              · refine step_store rfl 37 _ _ rfl _ rfl (.agg (FC 4 (lb (beN k))).toArray) rfl _ (run_storeAt_row (cells := (FC 4 (lb (beN k))).toArray) K_V42 (IN4 _) (SZ4 _ _) (FC_one _ _)) ?_
                generalize hW43 : World.setRow V42 _ _ = V43
                have S_V43 := hW43 ▸ S_V42.row (by omega) (HNE.out _ hk0)
                have G_V43 := hW43 ▸ (setRow_other _ _ _ _ (by omega)).trans G_V42
                have K_V43 := hW43 ▸ setRow_heap _ _ _ _ _ _ K_V42
                try dsimp only
                refine hK.out _ _ S_V43 (fun _ => ?_)
                clear hK K
                refine wpAnyH_done (by kernel_rfl) ?_ _
                go_wp2_with fail
                go_meet
                exact ⟨_, _, rfl, rfl, Lib.hid ((S_V43.add K_V43).add G_V43)⟩
    · go_simp
      generalize hW44 : World.alloc W0 _ = V44
      have hb44 : Below W0.heap.size W0 V44 := by rw [← hW44]; exact bl1 _ _
      have K_V44 : FB W0.heap.size 4 (fun _ => 0) 37 V44 := by rw [← hW44]; exact nw1 _ _
      have hz44 : W0.heap.size < V44.heap.size := K_V44.lt
      have hk0 : w.heap.size + 1 < W0.heap.size := by omega
      clear hW44
      have S_V44 := S_W0.keep hb44
      try dsimp only
      refine hK.out _ _ S_V44 (fun _ => ?_)
      clear hK K
      refine wpAnyH_ready (rs := [1, 4]) (by kernel_rfl) (by simp) ?_
      refine AllReadyH.cons rfl (fun K hK => ?_) (AllReadyH.cons rfl (fun K hK => ?_) AllReadyH.nil)
      · go_simp
        go_at_call 24
        refine (HO.out _).mono ?_
        rintro r V45 ⟨rfl, hb45⟩
        have hz45 := hb45.size
        have S_V45 := S_V44.keep hb45
        have K_V45 := K_V44.keep hb45
        try dsimp only
        refine hK.out _ _ S_V45 (fun _ => ?_)
        clear hK K
        refine wpAnyH_ready (rs := [3, 4]) (by kernel_rfl) (by simp) ?_
        refine AllReadyH.cons rfl (fun K hK => ?_) (AllReadyH.cons rfl (fun K hK => ?_) AllReadyH.nil)
        · go_simp
          go_at_call 24
          refine (KO.out _).mono ?_
          rintro r V46 ⟨rfl, hb46⟩
          have hz46 := hb46.size
          have S_V46 := S_V45.keep hb46
          have K_V46 := K_V45.keep hb46
          try dsimp only
          refine hK.out _ _ S_V46 (fun _ => ?_)
          clear hK K
          refine wpAnyH_ready (rs := [4]) (by kernel_rfl) (by simp) ?_
          refine AllReadyH.cons rfl (fun K hK => ?_) AllReadyH.nil
          · go_simp
            generalize hW47 : World.alloc V46 _ = V47
            have hb47 : Below V46.heap.size V46 V47 := by rw [← hW47]; exact bl1 _ _
            have G_V47 : FB V46.heap.size 4 (fun _ => 0) 37 V47 := by rw [← hW47]; exact nw1 _ _
            have hz47 : V46.heap.size < V47.heap.size := G_V47.lt
            have hg0 : w.heap.size + 1 < V46.heap.size := by omega
            clear hW47
            have S_V47 := S_V46.keep hb47
            have K_V47 := K_V46.keep hb47
            try dsimp only
            refine hK.out _ _ S_V47 (fun _ => ?_)
            clear hK K
            refine wpAnyH_ready (rs := [6]) (by kernel_rfl) (by simp) ?_
            refine AllReadyH.cons rfl (fun K hK => ?_) AllReadyH.nil
            · refine step_store rfl 37 _ _ rfl _ rfl (.agg (FC 4 (lb (beN h))).toArray) rfl _ (run_storeAt_row (cells := (FC 4 (lb (beN h))).toArray) G_V47 (IN4 _) (SZ4 _ _) (FC_one _ _)) ?_
              generalize hW48 : World.setRow V47 _ _ = V48
              have S_V48 := hW48 ▸ S_V47.row (by omega) (HNE.out _ hg0)
              have K_V48 := hW48 ▸ FB.row K_V47 (by omega)
              have G_V48 := hW48 ▸ setRow_heap _ _ _ _ _ _ G_V47
              try dsimp only
              refine hK.out _ _ S_V48 (fun _ => ?_)
              clear hK K
              refine wpAnyH_ready (rs := [7]) (by kernel_rfl) (by simp) ?_
              refine AllReadyH.cons rfl (fun K hK => ?_) AllReadyH.nil
              · refine step_store rfl 37 _ _ rfl _ rfl (.agg (FC 4 (lb (beN k))).toArray) rfl _ (run_storeAt_row (cells := (FC 4 (lb (beN k))).toArray) K_V48 (IN4 _) (SZ4 _ _) (FC_one _ _)) ?_
                generalize hW49 : World.setRow V48 _ _ = V49
                have S_V49 := hW49 ▸ S_V48.row (by omega) (HNE.out _ hk0)
                have K_V49 := hW49 ▸ setRow_heap _ _ _ _ _ _ K_V48
                have G_V49 := hW49 ▸ (setRow_other _ _ _ _ (by omega)).trans G_V48
                try dsimp only
                refine hK.out _ _ S_V49 (fun _ => ?_)
                clear hK K
                refine wpAnyH_done (by kernel_rfl) ?_ _
                go_wp2_with fail
                go_meet
                exact ⟨_, _, rfl, rfl, Lib.hid ((S_V49.add K_V49).add G_V49)⟩
        · go_simp
          generalize hW50 : World.alloc V45 _ = V50
          have hb50 : Below V45.heap.size V45 V50 := by rw [← hW50]; exact bl1 _ _
          have G_V50 : FB V45.heap.size 4 (fun _ => 0) 37 V50 := by rw [← hW50]; exact nw1 _ _
          have hz50 : V45.heap.size < V50.heap.size := G_V50.lt
          have hg0 : w.heap.size + 1 < V45.heap.size := by omega
          clear hW50
          have S_V50 := S_V45.keep hb50
          have K_V50 := K_V45.keep hb50
          try dsimp only
          refine hK.out _ _ S_V50 (fun _ => ?_)
          clear hK K
          refine wpAnyH_ready (rs := [3]) (by kernel_rfl) (by simp) ?_
          refine AllReadyH.cons rfl (fun K hK => ?_) AllReadyH.nil
          · go_simp
            go_at_call 24
            refine (KO.out _).mono ?_
            rintro r V51 ⟨rfl, hb51⟩
            have hz51 := hb51.size
            have S_V51 := S_V50.keep hb51
            have K_V51 := K_V50.keep hb51
            have G_V51 := G_V50.keep hb51
            try dsimp only
            refine hK.out _ _ S_V51 (fun _ => ?_)
            clear hK K
            refine wpAnyH_ready (rs := [6]) (by kernel_rfl) (by simp) ?_
            refine AllReadyH.cons rfl (fun K hK => ?_) AllReadyH.nil
            · refine step_store rfl 37 _ _ rfl _ rfl (.agg (FC 4 (lb (beN h))).toArray) rfl _ (run_storeAt_row (cells := (FC 4 (lb (beN h))).toArray) G_V51 (IN4 _) (SZ4 _ _) (FC_one _ _)) ?_
              generalize hW52 : World.setRow V51 _ _ = V52
              have S_V52 := hW52 ▸ S_V51.row (by omega) (HNE.out _ hg0)
              have K_V52 := hW52 ▸ FB.row K_V51 (by omega)
              have G_V52 := hW52 ▸ setRow_heap _ _ _ _ _ _ G_V51
              try dsimp only
              refine hK.out _ _ S_V52 (fun _ => ?_)
              clear hK K
              refine wpAnyH_ready (rs := [7]) (by kernel_rfl) (by simp) ?_
              refine AllReadyH.cons rfl (fun K hK => ?_) AllReadyH.nil
              · refine step_store rfl 37 _ _ rfl _ rfl (.agg (FC 4 (lb (beN k))).toArray) rfl _ (run_storeAt_row (cells := (FC 4 (lb (beN k))).toArray) K_V52 (IN4 _) (SZ4 _ _) (FC_one _ _)) ?_
                generalize hW53 : World.setRow V52 _ _ = V53
                have S_V53 := hW53 ▸ S_V52.row (by omega) (HNE.out _ hk0)
                have K_V53 := hW53 ▸ setRow_heap _ _ _ _ _ _ K_V52
                have G_V53 := hW53 ▸ (setRow_other _ _ _ _ (by omega)).trans G_V52
                try dsimp only
                refine hK.out _ _ S_V53 (fun _ => ?_)
                clear hK K
                refine wpAnyH_done (by kernel_rfl) ?_ _
                go_wp2_with fail
                go_meet
                exact ⟨_, _, rfl, rfl, Lib.hid ((S_V53.add K_V53).add G_V53)⟩
      · go_simp
        generalize hW54 : World.alloc V44 _ = V54
        have hb54 : Below V44.heap.size V44 V54 := by rw [← hW54]; exact bl1 _ _
        have G_V54 : FB V44.heap.size 4 (fun _ => 0) 37 V54 := by rw [← hW54]; exact nw1 _ _
        have hz54 : V44.heap.size < V54.heap.size := G_V54.lt
        have hg0 : w.heap.size + 1 < V44.heap.size := by omega
        clear hW54
        have S_V54 := S_V44.keep hb54
        have K_V54 := K_V44.keep hb54
        try dsimp only
        refine hK.out _ _ S_V54 (fun _ => ?_)
        clear hK K
        refine wpAnyH_ready (rs := [1]) (by kernel_rfl) (by simp) ?_
        refine AllReadyH.cons rfl (fun K hK => ?_) AllReadyH.nil
        · go_simp
          go_at_call 24
          refine (HO.out _).mono ?_
          rintro r V55 ⟨rfl, hb55⟩
          have hz55 := hb55.size
          have S_V55 := S_V54.keep hb55
          have K_V55 := K_V54.keep hb55
          have G_V55 := G_V54.keep hb55
          try dsimp only
          refine hK.out _ _ S_V55 (fun _ => ?_)
          clear hK K
          refine wpAnyH_ready (rs := [3]) (by kernel_rfl) (by simp) ?_
          refine AllReadyH.cons rfl (fun K hK => ?_) AllReadyH.nil
          · go_simp
            go_at_call 24
            refine (KO.out _).mono ?_
            rintro r V56 ⟨rfl, hb56⟩
            have hz56 := hb56.size
            have S_V56 := S_V55.keep hb56
            have K_V56 := K_V55.keep hb56
            have G_V56 := G_V55.keep hb56
            try dsimp only
            refine hK.out _ _ S_V56 (fun _ => ?_)
            clear hK K
            refine wpAnyH_ready (rs := [6]) (by kernel_rfl) (by simp) ?_
            refine AllReadyH.cons rfl (fun K hK => ?_) AllReadyH.nil
            · refine step_store rfl 37 _ _ rfl _ rfl (.agg (FC 4 (lb (beN h))).toArray) rfl _ (run_storeAt_row (cells := (FC 4 (lb (beN h))).toArray) G_V56 (IN4 _) (SZ4 _ _) (FC_one _ _)) ?_
              generalize hW57 : World.setRow V56 _ _ = V57
              have S_V57 := hW57 ▸ S_V56.row (by omega) (HNE.out _ hg0)
              have K_V57 := hW57 ▸ FB.row K_V56 (by omega)
              have G_V57 := hW57 ▸ setRow_heap _ _ _ _ _ _ G_V56
              try dsimp only
              refine hK.out _ _ S_V57 (fun _ => ?_)
              clear hK K
              refine wpAnyH_ready (rs := [7]) (by kernel_rfl) (by simp) ?_
              refine AllReadyH.cons rfl (fun K hK => ?_) AllReadyH.nil
              · refine step_store rfl 37 _ _ rfl _ rfl (.agg (FC 4 (lb (beN k))).toArray) rfl _ (run_storeAt_row (cells := (FC 4 (lb (beN k))).toArray) K_V57 (IN4 _) (SZ4 _ _) (FC_one _ _)) ?_
                generalize hW58 : World.setRow V57 _ _ = V58
                have S_V58 := hW58 ▸ S_V57.row (by omega) (HNE.out _ hk0)
                have K_V58 := hW58 ▸ setRow_heap _ _ _ _ _ _ K_V57
                have G_V58 := hW58 ▸ (setRow_other _ _ _ _ (by omega)).trans G_V57
                try dsimp only
                refine hK.out _ _ S_V58 (fun _ => ?_)
                clear hK K
                refine wpAnyH_done (by kernel_rfl) ?_ _
                go_wp2_with fail
                go_meet
                exact ⟨_, _, rfl, rfl, Lib.hid ((S_V58.add K_V58).add G_V58)⟩
  case rest =>
    obtain ⟨g1, g2, rfl, rfl, hq⟩ := hcut
    have HP := Lib.hid (fun w => rof_calls h w HL.out)
    have KP := Lib.hid (fun w => rof_calls k w KL.out)
    have HA := Lib.hid (fun w => awake_calls w)
    have HX := Lib.hid (beN32 HL.out)
    have HY := Lib.hid (beN32 KL.out)
    have HX2 := Lib.hid ((lim _).1 HX.out)
    have HY2 := Lib.hid ((lim _).1 HY.out)
    clear S_W0 hsz
    generalize beN h = X at *
    generalize beN k = Y at *
    have A1 := Lib.hid (fun w => add_calls X Y w)
    have A2 := Lib.hid (fun b c b' c' w r1 r2 => radd_calls X Y b 0 c b' 0 c' w r1 r2)
    rw [cr_cr2] at A2
    have A3 := Lib.hid (fun w => sub_calls X Y w HY2.out)
    have A4 := Lib.hid (fun b c b' c' w r1 r2 => rsub_calls X Y b 0 c b' 0 c' w (Nat.le_of_lt HY2.out) r1 r2)
    rw [bo_bo2] at A4
    have A5 := Lib.hid (fun w => hash_calls (X + Y) w)
    have A6 := Lib.hid (fun b c w (r : BR w b 0 (X + Y)) => by have := rhash_calls ((X + Y) % 2 ^ 256) b 0 c w (Nat.mod_lt _ (Nat.pow_pos (by decide))) r.mod; rw [beL_mod256] at this; exact this)
    have A7 := Lib.hid (fun w => hash_calls (df X Y) w)
    have A8 := Lib.hid (fun b c w (r : BR w b 0 (df X Y)) => by have := rhash_calls ((df X Y) % 2 ^ 256) b 0 c w (Nat.mod_lt _ (Nat.pow_pos (by decide))) r.mod; rw [beL_mod256] at this; exact this)
    have A9 := Lib.hid (fun w => cmp_calls X Y w HX.out HY.out)
    have A0 := Lib.hid (fun b c b' c' w r1 r2 => rcmp_calls X Y b 0 c b' 0 c' w HX2.out HY2.out r1 r2)
    have L1 := Lib.hid (beL_len 32 (X + Y))
    have L2 := Lib.hid (beL_len 32 (df X Y))
    unfold UV at *
    generalize (cr X Y 4 == 1) = cb at *
    generalize (bo X Y 4 == 1) = bb at *
    generalize cmpI X Y = cm at *
    generalize beL 32 (X + Y) = x at *
    generalize beL 32 (df X Y) = y at *
    obtain ⟨f, hf⟩ : ∃ f, f = lb X := ⟨_, rfl⟩
    obtain ⟨f2, hf2⟩ : ∃ f, f = lb Y := ⟨_, rfl⟩
    rw [← hf] at hq A1 A3 A9
    rw [← hf2] at hq A1 A3 A9
    clear hf hf2
    generalize lb (X + Y) = fs at *
    generalize lb (df X Y) = fd at *
    have S1 := Lib.hid hq.out
    clear hq
    go_wp2_with fail
    have S2 := Lib.hid S1.out.drew
    have HR2 := Lib.hid (show ∀ wx, SQ ((g1, oN f) :: (g2, oN f2) :: L) w wx → wx.rangeAt w.heap.size 0 (hc h) from fun wx hx => HR.out wx hx.tail.tail)
    have KR2 := Lib.hid (show ∀ wx, SQ ((g1, oN f) :: (g2, oN f2) :: L) w wx → wx.rangeAt (w.heap.size + 1) 0 (hc k) from fun wx hx => KR.out wx hx.tail.tail)
    clear S1
    have S_W0 := S2.out
    unfold hv at HP KP
    refine wp_region_held_drew (S := SQ ((g1, oN f) :: (g2, oN f2) :: L) w) (by kernel_rfl) S_W0 (fun hHeld => ?_)
    generalize World.drew wc = W0 at *
    clear hHeld
    refine wpAnyH_take (i := 0) (oi := ⟨some 21, _, _, _, _, _⟩) (v := hv h) rfl (by kernel_rfl) (by kernel_rfl) (by kernel_rfl) (fun _ _ _ h => h) (yieldsIf_load_mid (by rfl) 23 _ rfl w.heap.size 0 rfl (hc h) _ HR2.out UH rfl hle) (by assumption) ?_
    try simp only [Act.put, List.setIfInBounds_toArray, List.set_cons_zero, List.set_cons_succ]
    refine wpAnyH_take (i := 2) (oi := ⟨some 23, _, _, _, _, _⟩) (v := hv k) rfl (by kernel_rfl) (by kernel_rfl) (by kernel_rfl) (fun _ _ _ h => h) (yieldsIf_load_mid (by rfl) 23 _ rfl (w.heap.size + 1) 0 rfl (hc k) _ KR2.out UH rfl kle) (by assumption) ?_
    try simp only [Act.put, List.setIfInBounds_toArray, List.set_cons_zero, List.set_cons_succ]
    refine wpAnyH_ready (rs := [1]) (by kernel_rfl) (by simp) ?_
    refine AllReadyH.cons rfl (fun K hK => ?_) AllReadyH.nil
    · go_simp
      go_at_call 23
      refine (HP.out _).mono ?_
      rintro r V1 ⟨b1, k1, rfl, R_V1, _, hb1⟩
      have S_V1 := S_W0.keep hb1
      try dsimp only
      refine hK.out _ _ S_V1 (fun _ => ?_)
      clear hK K
      refine wpAnyH_ready (rs := [3]) (by kernel_rfl) (by simp) ?_
      refine AllReadyH.cons rfl (fun K hK => ?_) AllReadyH.nil
      · go_simp
        go_at_call 23
        refine (KP.out _).mono ?_
        rintro r V2 ⟨b2, k2, rfl, T_V2, _, hb2⟩
        have S_V2 := S_V1.keep hb2
        have R_V2 := R_V1.below hb2
        try dsimp only
        refine hK.out _ _ S_V2 (fun _ => ?_)
        clear hK K
        refine wpAnyH_take (i := 4) (oi := ⟨some 7, _, _, _, _, _⟩) (v := .slice (some ⟨b1, 0, none⟩) 256 k1) rfl (by kernel_rfl) (by kernel_rfl) (by kernel_rfl) (fun _ _ _ h => h) (Or.inl ⟨by rfl, by intro wx _; go_simp⟩) (by assumption) ?_
        refine wpAnyH_take (i := 5) (oi := ⟨some 8, _, _, _, _, _⟩) (v := .slice (some ⟨b2, 0, none⟩) 256 k2) rfl (by kernel_rfl) (by kernel_rfl) (by kernel_rfl) (fun _ _ _ h => h) (Or.inl ⟨by rfl, by intro wx _; go_simp⟩) (by assumption) ?_
        refine wpAnyH_done (by kernel_rfl) ?_ _
        have S := Lib.hid S_V2
        have R := Lib.hid R_V2
        have T := Lib.hid T_V2
        generalize V2 = W9 at *
        clear HR HR2 KR KR2 HNE HP KP S2 HLL S_W0 hb1 hb2 S_V1 S_V2 R_V1 R_V2 T_V2
        dsimp only [Act.put, List.setIfInBounds_toArray, List.set_cons_zero, List.set_cons_succ]
        go_wp2_with (first | (refine wpList_load_row (by rfl) 37 (.tmp 5) (by rfl) _ (by rfl) _ _ _ _ S.out.a0 UN4 rfl (IN4 _) ?_) | (refine wpList_load_row (by rfl) 37 (.tmp 6) (by rfl) _ (by rfl) _ _ _ _ S.out.a1 UN4 rfl (IN4 _) ?_))
        refine (A1.out _).mono ?_
        rintro e w3 ⟨rfl, hb3⟩
        have S := Lib.hid (S.out.keep hb3)
        have R := Lib.hid (R.out.below hb3)
        have T := Lib.hid (T.out.below hb3)
        clear hb3
        have R := Lib.hid (R.out.below (bl1 w3 (oN fs)))
        have T := Lib.hid (T.out.below (bl1 w3 (oN fs)))
        have S := Lib.hid (S.out.alloc (oN fs))
        go_wp2_with (first | (refine wpList_store_last rfl 37 _ _ rfl _ (FC 4 fs).toArray rfl rfl (IN4 _) (by rw [FC_size]; rfl) (FC_one _ _) ?_))
        refine (A2.out b1 k1 b2 k2 _ R.out T.out).mono ?_
        rintro e w4 ⟨b3, k3, rfl, r3, _, hb4⟩
        have R3 := Lib.hid r3
        clear r3
        have S := Lib.hid (S.out.keep hb4)
        have R := Lib.hid (R.out.below hb4)
        have T := Lib.hid (T.out.below hb4)
        clear hb4
        go_wp2_with (first | (refine wpList_load_row (by rfl) 37 (.tmp 5) (by rfl) _ (by rfl) _ _ _ _ S.out.a1 UN4 rfl (IN4 _) ?_) | (refine wpList_load_row (by rfl) 37 (.tmp 6) (by rfl) _ (by rfl) _ _ _ _ S.out.a2 UN4 rfl (IN4 _) ?_))
        refine (A3.out _).mono ?_
        rintro e w5 ⟨rfl, hb5⟩
        have S := Lib.hid (S.out.keep hb5)
        have R := Lib.hid (R.out.below hb5)
        have T := Lib.hid (T.out.below hb5)
        have R3 := Lib.hid (R3.out.below hb5)
        clear hb5
        have R := Lib.hid (R.out.below (bl1 w5 (oN fd)))
        have T := Lib.hid (T.out.below (bl1 w5 (oN fd)))
        have R3 := Lib.hid (R3.out.below (bl1 w5 (oN fd)))
        have S := Lib.hid (S.out.alloc (oN fd))
        go_wp2_with (first | (refine wpList_store_last rfl 37 _ _ rfl _ (FC 4 fd).toArray rfl rfl (IN4 _) (by rw [FC_size]; rfl) (FC_one _ _) ?_))
        refine (A4.out b1 k1 b2 k2 _ R.out T.out).mono ?_
        rintro e w6 ⟨b4, k4, rfl, r4, _, hb6⟩
        have R4 := Lib.hid r4
        clear r4
        have S := Lib.hid (S.out.keep hb6)
        have R := Lib.hid (R.out.below hb6)
        have T := Lib.hid (T.out.below hb6)
        have R3 := Lib.hid (R3.out.below hb6)
        clear hb6
        go_wp2_with (first | (refine wpList_load_row (by rfl) 37 (.tmp 9) (by rfl) _ (by rfl) _ _ _ _ S.out.a1 UN4 rfl (IN4 _) ?_))
        refine (A5.out _).mono ?_
        rintro e w7 ⟨rfl, hb7⟩
        have S := Lib.hid (S.out.keep hb7)
        have R := Lib.hid (R.out.below hb7)
        have T := Lib.hid (T.out.below hb7)
        have R3 := Lib.hid (R3.out.below hb7)
        have R4 := Lib.hid (R4.out.below hb7)
        clear hb7
        go_wp2_with fail
        refine (A6.out b3 k3 _ R3.out).mono ?_
        rintro e w8 ⟨rfl, hb8⟩
        have S := Lib.hid (S.out.keep hb8)
        have R := Lib.hid (R.out.below hb8)
        have T := Lib.hid (T.out.below hb8)
        have R4 := Lib.hid (R4.out.below hb8)
        clear hb8
        clear R3
        go_wp2_with (first | (refine wpList_value (by rfl) (.bool true) (run_bin (x := .tmp 50) (y := .tmp 52) (by rfl) (by rfl) (by rfl) (eqHg _ _ _) (eqHr L1.out _)) ?_) | (refine wpList_loadg (by rfl) 37 (.tmp 13) (by rfl) _ (by rfl) _ (ldAt4 S.out.a0) ?_))
        refine (A7.out _).mono ?_
        rintro e w9 ⟨rfl, hb9⟩
        have S := Lib.hid (S.out.keep hb9)
        have R := Lib.hid (R.out.below hb9)
        have T := Lib.hid (T.out.below hb9)
        have R4 := Lib.hid (R4.out.below hb9)
        clear hb9
        go_wp2_with fail
        refine (A8.out b4 k4 _ R4.out).mono ?_
        rintro e w10 ⟨rfl, hb10⟩
        have S := Lib.hid (S.out.keep hb10)
        have R := Lib.hid (R.out.below hb10)
        have T := Lib.hid (T.out.below hb10)
        clear hb10
        clear R4
        go_wp2_with (first | (refine wpList_value (by rfl) (.bool true) (run_bin (x := .tmp 61) (y := .tmp 63) (by rfl) (by rfl) (by rfl) (eqHg _ _ _) (eqHr L2.out _)) ?_) | (refine wpList_loadg (by rfl) 37 (.tmp 5) (by rfl) _ (by rfl) _ (ldAt4 S.out.a2) ?_) | (refine wpList_loadg (by rfl) 37 (.tmp 6) (by rfl) _ (by rfl) _ (ldAt4 S.out.a3) ?_))
        refine (A9.out _).mono ?_
        rintro e w11 ⟨rfl, hb11⟩
        have S := Lib.hid (S.out.keep hb11)
        have R := Lib.hid (R.out.below hb11)
        have T := Lib.hid (T.out.below hb11)
        clear hb11
        go_wp2_with fail
        refine (A0.out b1 k1 b2 k2 _ R.out T.out).mono ?_
        rintro e w12 ⟨rfl, hb12⟩
        have S := Lib.hid (S.out.keep hb12)
        clear hb12
        go_wp2_with fail
        refine (HA.out _).mono ?_
        rintro e w13 ⟨rfl, hb13⟩
        have S := Lib.hid (S.out.keep hb13)
        clear hb13
        go_wp2_with fail
        go_ret
        exact ⟨rfl, S.out.2⟩
end Go.Proofs.Ytalfgagcfjddcaa.L4
