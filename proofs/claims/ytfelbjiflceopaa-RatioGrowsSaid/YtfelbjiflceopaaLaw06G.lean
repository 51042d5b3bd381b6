/- The walk of chapter 6's law RatioGrows. -/
import Derived.Test.YtfelbjiflceopaaRtS
import Derived.Deep.DeepCutAuto
namespace Go.Proofs.Ytfelbjiflceopaa.Rt
open Go.RowKit Go.Proofs.Ytfelbjiflceopaa.Mk Go.Proofs.Ytfelbjiflceopaa.Ul Go.Proofs.Ytfelbjiflceopaa.Wi Go.Proofs.Ytfelbjiflceopaa.Lg
def c2u (x y : Nat) : List Value := [.int .u32 (x : Int), .int .u32 (y : Int)]
def oU2 (x y : Nat) : Obj := .cells (c2u x y).toArray 55 (0, 0)
def oU4 (x y z t : Nat) : Obj := .cells (c2u x y ++ c2u z t).toArray 56 (0, 0)
def oI2 (x y : Int) : Obj := .cells #[.int .i64 x, .int .i64 y] 41 (0, 0)
theorem U2u : Try.prog.underlying 55 = some (.array 2 44) := by kernel_rfl
theorem I2u (x y : Nat) : (Try.prog.info? 55).map (·.size) = some (c2u x y).length := by show _ = some 2; kernel_rfl
theorem I2a (x y : Nat) : (Try.prog.info? 55).map (·.size) = some (c2u x y).toArray.size := by show _ = some 2; kernel_rfl
theorem one2 (x y : Nat) : (c2u x y).toArray.all (·.oneCell') = true := by simp [c2u, Value.oneCell']
theorem rg4 {g : Nat} {x y z t : Nat} {w : World} (h : w.heap[g]? = some (oU4 x y z t)) : w.rangeAt g 0 (c2u x y) ∧ w.rangeAt g 2 (c2u z t) := by
  have h' : w.heap[g]? = some (.cells (c2u x y ++ c2u z t).toArray 56 (0, 0)) := h
  constructor
  · intro j v hv
    have hj : j < 2 := (List.getElem?_eq_some_iff.1 hv).1
    rw [cell_of_row _ _ _ _ _ _ h', List.getElem?_toArray, Nat.zero_add, List.getElem?_append_left hj]
    exact hv
  · intro j v hv
    rw [cell_of_row _ _ _ _ _ _ h', List.getElem?_toArray, List.getElem?_append_right (by show 2 ≤ _; omega)]
    show (c2u z t)[2 + j - 2]? = _
    rw [Nat.add_sub_cancel_left]
    exact hv
theorem grows_vals {n0 n1 d0 d1 : Nat} {u0 u1 a b : Int} (hn : n0 ≤ n1) (hd : d1 ≤ d0) (hu : u0 ≤ u1) (h2 : u1 ≤ 255) :
    (aboveR n0 d0 u0 a b = true ∧ leastR n0 d0 u0 a b = true ∧ aboveR n1 d1 u1 a b = true ∧ leastR n1 d1 u1 a b = true) ∨ (aboveR n0 d0 u0 a b = false ∧ leastR n0 d0 u0 a b = true ∧ leastR n1 d1 u1 a b = true) ∨ (aboveR n0 d0 u0 a b = false ∧ leastR n0 d0 u0 a b = false) := by
  have h1 := above_least (n := n0) (d := d0) (up := u0) (a := a) (b := b)
  have h3 := above_grows (a := a) (b := b) hn hd hu h2
  have h4 := least_grows (a := a) (b := b) hn hd hu h2
  cases ha : aboveR n0 d0 u0 a b
  · cases hl : leastR n0 d0 u0 a b
    · exact .inr (.inr ⟨rfl, rfl⟩)
    · exact .inr (.inl ⟨rfl, rfl, h4 hl⟩)
  · exact .inl ⟨rfl, h1 ha, h3 ha, h4 (h1 ha)⟩
/-- the four blocks -/
abbrev GB (w : World) (g1 g2 n0 n1 d0 d1 : Nat) (u0 u1 a b : Int) : List (Nat × Obj) := [(g2, oU2 d0 d1), (g1, oU2 n0 n1), (w.heap.size + 1 + 1, oI2 a b), (w.heap.size + 1, oI2 u0 u1), (w.heap.size, oU4 n0 n1 d0 d1)]
set_option maxHeartbeats 8000000 in
set_option maxRecDepth 100000 in
theorem ratioGrows_calls (n0 n1 d0 d1 : Nat) (u0 u1 a b : Int) (w : World) (hn0 : n0 < 4294967296) (hn1 : n1 < 4294967296) (hd0 : d0 < 4294967296) (hd1 : d1 < 4294967296) :
    Calls Try.prog 8 #[.agg (c2u n0 n1 ++ c2u d0 d1).toArray, .agg #[.int .i64 u0, .int .i64 u1], .agg #[.int .i64 a, .int .i64 b]] w fun e w' => e = .returned (.bool true) ∧ Below w.heap.size w w' := by
  have S0 := Lib.hid (((SQ.new w (oU4 n0 n1 d0 d1)).alloc2 (oI2 u0 u1) (oI2 a b)))
  simp only [World.size_alloc] at S0
  have A1 := Lib.hid (fun w => above_calls n0 d0 u0 a b w hn0 hd0)
  have A2 := Lib.hid (fun w => least_calls n0 d0 u0 a b w hn0 hd0)
  have A3 := Lib.hid (fun w => above_calls n1 d1 u1 a b w hn1 hd1)
  have A4 := Lib.hid (fun w => least_calls n1 d1 u1 a b w hn1 hd1)
  have A6 := Lib.hid (fun w => awake6_calls w)
  have hgv := Lib.hid (@grows_vals n0 n1 d0 d1 u0 u1 a b)
  clear hn0 hn1 hd0 hd1
  go_enter Try.func8, Try.ntmps8
  go_wp2_with fail
  go_cut [7, 8, 9, 10] (fun s7 s8 s9 s10 wx => ∃ g1 g2, s7 = .pointer (some ⟨g1, 0, none⟩) ∧ s8 = .pointer (some ⟨g2, 0, none⟩) ∧ s9 = .int .i64 a ∧ s10 = .int .i64 b ∧ Hid (SQ (GB w g1 g2 n0 n1 d0 d1 u0 u1 a b) w wx))
  case first =>
    clear A1 A2 A3 A4 A6 hgv
    have S_W0 := S0.out.drew
    clear S0
    have hsz : w.heap.size + 1 + 1 < (((w.alloc (.cells (c2u n0 n1 ++ c2u d0 d1).toArray 56)).alloc (.cells #[.int .i64 u0, .int .i64 u1] 41)).alloc (.cells #[.int .i64 a, .int .i64 b] 41)).drew.heap.size := by
      show _ < (World.alloc _ _).heap.size
      simp
    obtain ⟨L, hL⟩ : ∃ L, L = [(w.heap.size + 1 + 1, oI2 a b), (w.heap.size + 1, oI2 u0 u1), (w.heap.size, oU4 n0 n1 d0 d1)] := ⟨_, rfl⟩
    rw [← hL] at S_W0
    unfold oU4 oI2 at S_W0
    have HL := Lib.hid hL
    have Q0 := Lib.hid (show ∀ wx, SQ L w wx → wx.rangeAt w.heap.size 0 (c2u n0 n1) from fun wx hx => by rw [hL] at hx; exact (rg4 hx.a2).1)
    have Q1 := Lib.hid (show ∀ wx, SQ L w wx → wx.rangeAt w.heap.size 2 (c2u d0 d1) from fun wx hx => by rw [hL] at hx; exact (rg4 hx.a2).2)
    have Q2 := Lib.hid (show ∀ wx, SQ L w wx → wx.cell? ⟨w.heap.size + 1 + 1, 0, none⟩ = some (.int .i64 a) from fun wx hx => by rw [hL] at hx; exact cell_of_row wx _ 0 _ _ _ hx.a0)
    have Q3 := Lib.hid (show ∀ wx, SQ L w wx → wx.cell? ⟨w.heap.size + 1 + 1, 1, none⟩ = some (.int .i64 b) from fun wx hx => by rw [hL] at hx; exact cell_of_row wx _ 1 _ _ _ hx.a0)
    have HNE : Hid (∀ g, w.heap.size + 1 + 1 < g → ∀ p ∈ L, p.1 ≠ g) := Lib.hid (fun g hg p hp => by rw [hL] at hp; simp at hp; rcases hp with rfl | rfl | rfl <;> simp <;> omega)
    clear hL
    refine wp_region_held_drew (S := SQ L w) (by kernel_rfl) S_W0 (fun hHeld => ?_)
    generalize World.drew _ = W0 at *
    clear hHeld
    refine wpAnyH_take (i := 0) (oi := ⟨some 11, _, _, _, _, _⟩) (v := .pointer (some ⟨w.heap.size, 0, none⟩)) rfl (by kernel_rfl) (by kernel_rfl) (by kernel_rfl) (fun _ _ _ h => h) (Or.inl ⟨by rfl, by intro wx _; go_simp⟩) (by assumption) ?_
    try simp only [Act.put, List.setIfInBounds_toArray, List.set_cons_zero, List.set_cons_succ]
    refine wpAnyH_take (i := 1) (oi := ⟨some 12, _, _, _, _, _⟩) (v := .agg (c2u n0 n1).toArray) rfl (by kernel_rfl) (by kernel_rfl) (by kernel_rfl) (fun _ _ _ h => h) (yieldsIf_load_mid (by rfl) 55 _ rfl w.heap.size 0 rfl (c2u n0 n1) _ (fun wx hx => Q0.out _ hx) U2u rfl (I2u _ _)) (by assumption) ?_
    try simp only [Act.put, List.setIfInBounds_toArray, List.set_cons_zero, List.set_cons_succ]
    refine wpAnyH_take (i := 2) (oi := ⟨some 13, _, _, _, _, _⟩) (v := .pointer (some ⟨w.heap.size, 2, none⟩)) rfl (by kernel_rfl) (by kernel_rfl) (by kernel_rfl) (fun _ _ _ h => h) (Or.inl ⟨by rfl, by intro wx _; go_simp⟩) (by assumption) ?_
    try simp only [Act.put, List.setIfInBounds_toArray, List.set_cons_zero, List.set_cons_succ]
    refine wpAnyH_take (i := 3) (oi := ⟨some 14, _, _, _, _, _⟩) (v := .agg (c2u d0 d1).toArray) rfl (by kernel_rfl) (by kernel_rfl) (by kernel_rfl) (fun _ _ _ h => h) (yieldsIf_load_mid (by rfl) 55 _ rfl w.heap.size 2 rfl (c2u d0 d1) _ (fun wx hx => Q1.out _ hx) U2u rfl (I2u _ _)) (by assumption) ?_
    try simp only [Act.put, List.setIfInBounds_toArray, List.set_cons_zero, List.set_cons_succ]
    refine wpAnyH_take (i := 4) (oi := ⟨some 15, _, _, _, _, _⟩) (v := .pointer (some ⟨w.heap.size + 1 + 1, 0, none⟩)) rfl (by kernel_rfl) (by kernel_rfl) (by kernel_rfl) (fun _ _ _ h => h) (Or.inl ⟨by rfl, by intro wx _; go_simp⟩) (by assumption) ?_
    try simp only [Act.put, List.setIfInBounds_toArray, List.set_cons_zero, List.set_cons_succ]
    refine wpAnyH_take (i := 5) (oi := ⟨some 16, _, _, _, _, _⟩) (v := .int .i64 a) rfl (by kernel_rfl) (by kernel_rfl) (by kernel_rfl) (fun _ _ _ h => h) (Or.inl ⟨by rfl, by intro wx hx; have c := Q2.out wx hx; go_simp⟩) (by assumption) ?_
    try simp only [Act.put, List.setIfInBounds_toArray, List.set_cons_zero, List.set_cons_succ]
    refine wpAnyH_take (i := 6) (oi := ⟨some 17, _, _, _, _, _⟩) (v := .pointer (some ⟨w.heap.size + 1 + 1, 1, none⟩)) rfl (by kernel_rfl) (by kernel_rfl) (by kernel_rfl) (fun _ _ _ h => h) (Or.inl ⟨by rfl, by intro wx _; go_simp⟩) (by assumption) ?_
    try simp only [Act.put, List.setIfInBounds_toArray, List.set_cons_zero, List.set_cons_succ]
    refine wpAnyH_take (i := 7) (oi := ⟨some 18, _, _, _, _, _⟩) (v := .int .i64 b) rfl (by kernel_rfl) (by kernel_rfl) (by kernel_rfl) (fun _ _ _ h => h) (Or.inl ⟨by rfl, by intro wx hx; have c := Q3.out wx hx; go_simp⟩) (by assumption) ?_
    try simp only [Act.put, List.setIfInBounds_toArray, List.set_cons_zero, List.set_cons_succ]
    refine wpAnyH_ready (rs := [8, 9]) (by kernel_rfl) (by simp) ?_
    refine AllReadyH.cons rfl (fun K hK => ?_) (AllReadyH.cons rfl (fun K hK => ?_) AllReadyH.nil)
    · go_simp
      generalize hW1 : World.alloc W0 _ = V1
      have hb1 : Below W0.heap.size W0 V1 := by rw [← hW1]; exact bl1 _ _
      have G_V1 : V1.heap[W0.heap.size]? = some (oU2 0 0) := by rw [← hW1]; exact nw1 _ _
      have hz1 : W0.heap.size < V1.heap.size := (Array.getElem?_eq_some_iff.1 G_V1).1
      have hg0 : w.heap.size + 1 + 1 < W0.heap.size := by omega
      clear hW1
      have S_V1 := S_W0.keep hb1
      try dsimp only
      refine hK.out _ _ S_V1 (fun _ => ?_)
      clear hK K
      refine wpAnyH_ready (rs := [9]) (by kernel_rfl) (by simp) ?_
      refine AllReadyH.cons rfl (fun K hK => ?_) AllReadyH.nil
      · go_simp
        generalize hW2 : World.alloc V1 _ = V2
        have hb2 : Below V1.heap.size V1 V2 := by rw [← hW2]; exact bl1 _ _
        have K_V2 : V2.heap[V1.heap.size]? = some (oU2 0 0) := by rw [← hW2]; exact nw1 _ _
        have hz2 : V1.heap.size < V2.heap.size := (Array.getElem?_eq_some_iff.1 K_V2).1
        have hk0 : w.heap.size + 1 + 1 < V1.heap.size := by omega
        clear hW2
        have S_V2 := S_V1.keep hb2
        have G_V2 := (hb2.block _ (by omega)).trans G_V1
        try dsimp only
        refine hK.out _ _ S_V2 (fun _ => ?_)
        clear hK K
        refine wpAnyH_ready (rs := [10]) (by kernel_rfl) (by simp) ?_
        refine AllReadyH.cons rfl (fun K hK => ?_) AllReadyH.nil
        · refine step_store rfl 55 _ _ rfl _ rfl (.agg (c2u n0 n1).toArray) rfl _ (run_storeAt_row (cells := (c2u n0 n1).toArray) G_V2 (I2a _ _) rfl (one2 _ _)) ?_
          generalize hW3 : World.setRow V2 _ _ = V3
          have S_V3 := hW3 ▸ S_V2.row (by omega) (HNE.out _ hg0)
          have G_V3 := hW3 ▸ setRow_heap _ _ _ _ _ _ G_V2
          have K_V3 := hW3 ▸ (setRow_other _ _ _ _ (by omega)).trans K_V2
          try dsimp only
          refine hK.out _ _ S_V3 (fun _ => ?_)
          clear hK K
          refine wpAnyH_ready (rs := [11]) (by kernel_rfl) (by simp) ?_
          refine AllReadyH.cons rfl (fun K hK => ?_) AllReadyH.nil
          · refine step_store rfl 55 _ _ rfl _ rfl (.agg (c2u d0 d1).toArray) rfl _ (run_storeAt_row (cells := (c2u d0 d1).toArray) K_V3 (I2a _ _) rfl (one2 _ _)) ?_
            generalize hW4 : World.setRow V3 _ _ = V4
            have S_V4 := hW4 ▸ S_V3.row (by omega) (HNE.out _ hk0)
            have G_V4 := hW4 ▸ (setRow_other _ _ _ _ (by omega)).trans G_V3
            have K_V4 := hW4 ▸ setRow_heap _ _ _ _ _ _ K_V3
            try dsimp only
            refine hK.out _ _ S_V4 (fun _ => ?_)
            clear hK K
            refine wpAnyH_take (i := 12) (oi := ⟨some 9, _, _, _, _, _⟩) (v := .int .i64 a) rfl (by kernel_rfl) (by kernel_rfl) (by kernel_rfl) (fun _ _ _ h => h) (Or.inl ⟨by rfl, by intro wx _; go_simp⟩) (by assumption) ?_
            refine wpAnyH_take (i := 13) (oi := ⟨some 10, _, _, _, _, _⟩) (v := .int .i64 b) rfl (by kernel_rfl) (by kernel_rfl) (by kernel_rfl) (fun _ _ _ h => h) (Or.inl ⟨by rfl, by intro wx _; go_simp⟩) (by assumption) ?_
            refine wpAnyH_done (by kernel_rfl) ?_ _
            go_wp2_with fail
            go_meet
            exact ⟨_, _, rfl, rfl, rfl, rfl, Lib.hid (by have s := S_V4; rw [HL.out] at s; exact (s.add G_V4).add K_V4)⟩
    · go_simp
      generalize hW5 : World.alloc W0 _ = V5
      have hb5 : Below W0.heap.size W0 V5 := by rw [← hW5]; exact bl1 _ _
      have K_V5 : V5.heap[W0.heap.size]? = some (oU2 0 0) := by rw [← hW5]; exact nw1 _ _
      have hz5 : W0.heap.size < V5.heap.size := (Array.getElem?_eq_some_iff.1 K_V5).1
      have hk0 : w.heap.size + 1 + 1 < W0.heap.size := by omega
      clear hW5
      have S_V5 := S_W0.keep hb5
      try dsimp only
      refine hK.out _ _ S_V5 (fun _ => ?_)
      clear hK K
      refine wpAnyH_ready (rs := [8]) (by kernel_rfl) (by simp) ?_
      refine AllReadyH.cons rfl (fun K hK => ?_) AllReadyH.nil
      · go_simp
        generalize hW6 : World.alloc V5 _ = V6
        have hb6 : Below V5.heap.size V5 V6 := by rw [← hW6]; exact bl1 _ _
        have G_V6 : V6.heap[V5.heap.size]? = some (oU2 0 0) := by rw [← hW6]; exact nw1 _ _
        have hz6 : V5.heap.size < V6.heap.size := (Array.getElem?_eq_some_iff.1 G_V6).1
        have hg0 : w.heap.size + 1 + 1 < V5.heap.size := by omega
        clear hW6
        have S_V6 := S_V5.keep hb6
        have K_V6 := (hb6.block _ (by omega)).trans K_V5
        try dsimp only
        refine hK.out _ _ S_V6 (fun _ => ?_)
        clear hK K
        refine wpAnyH_ready (rs := [10]) (by kernel_rfl) (by simp) ?_
        refine AllReadyH.cons rfl (fun K hK => ?_) AllReadyH.nil
        · refine step_store rfl 55 _ _ rfl _ rfl (.agg (c2u n0 n1).toArray) rfl _ (run_storeAt_row (cells := (c2u n0 n1).toArray) G_V6 (I2a _ _) rfl (one2 _ _)) ?_
          generalize hW7 : World.setRow V6 _ _ = V7
          have S_V7 := hW7 ▸ S_V6.row (by omega) (HNE.out _ hg0)
          have K_V7 := hW7 ▸ (setRow_other _ _ _ _ (by omega)).trans K_V6
          have G_V7 := hW7 ▸ setRow_heap _ _ _ _ _ _ G_V6
          try dsimp only
          refine hK.out _ _ S_V7 (fun _ => ?_)
          clear hK K
          refine wpAnyH_ready (rs := [11]) (by kernel_rfl) (by simp) ?_
          refine AllReadyH.cons rfl (fun K hK => ?_) AllReadyH.nil
          · refine step_store rfl 55 _ _ rfl _ rfl (.agg (c2u d0 d1).toArray) rfl _ (run_storeAt_row (cells := (c2u d0 d1).toArray) K_V7 (I2a _ _) rfl (one2 _ _)) ?_
            generalize hW8 : World.setRow V7 _ _ = V8
            have S_V8 := hW8 ▸ S_V7.row (by omega) (HNE.out _ hk0)
            have K_V8 := hW8 ▸ setRow_heap _ _ _ _ _ _ K_V7
            have G_V8 := hW8 ▸ (setRow_other _ _ _ _ (by omega)).trans G_V7
            try dsimp only
            refine hK.out _ _ S_V8 (fun _ => ?_)
            clear hK K
            refine wpAnyH_take (i := 12) (oi := ⟨some 9, _, _, _, _, _⟩) (v := .int .i64 a) rfl (by kernel_rfl) (by kernel_rfl) (by kernel_rfl) (fun _ _ _ h => h) (Or.inl ⟨by rfl, by intro wx _; go_simp⟩) (by assumption) ?_
            refine wpAnyH_take (i := 13) (oi := ⟨some 10, _, _, _, _, _⟩) (v := .int .i64 b) rfl (by kernel_rfl) (by kernel_rfl) (by kernel_rfl) (fun _ _ _ h => h) (Or.inl ⟨by rfl, by intro wx _; go_simp⟩) (by assumption) ?_
            refine wpAnyH_done (by kernel_rfl) ?_ _
            go_wp2_with fail
            go_meet
            exact ⟨_, _, rfl, rfl, rfl, rfl, Lib.hid (by have s := S_V8; rw [HL.out] at s; exact (s.add G_V8).add K_V8)⟩
  case rest =>
    obtain ⟨g1, g2, rfl, rfl, rfl, rfl, S⟩ := hcut
    have X0 := Lib.hid (fun wx (L : SQ (GB w g1 g2 n0 n1 d0 d1 u0 u1 a b) w wx) => cell_of_row wx g1 0 _ _ _ L.a1)
    have X1 := Lib.hid (fun wx (L : SQ (GB w g1 g2 n0 n1 d0 d1 u0 u1 a b) w wx) => cell_of_row wx g1 1 _ _ _ L.a1)
    have X2 := Lib.hid (fun wx (L : SQ (GB w g1 g2 n0 n1 d0 d1 u0 u1 a b) w wx) => cell_of_row wx g2 0 _ _ _ L.a0)
    have X3 := Lib.hid (fun wx (L : SQ (GB w g1 g2 n0 n1 d0 d1 u0 u1 a b) w wx) => cell_of_row wx g2 1 _ _ _ L.a0)
    have X4 := Lib.hid (fun wx (L : SQ (GB w g1 g2 n0 n1 d0 d1 u0 u1 a b) w wx) => cell_of_row wx (w.heap.size + 1) 0 _ _ _ L.a3)
    have X5 := Lib.hid (fun wx (L : SQ (GB w g1 g2 n0 n1 d0 d1 u0 u1 a b) w wx) => cell_of_row wx (w.heap.size + 1) 1 _ _ _ L.a3)
    have hcase : (decide (n1 < n0) = true) ∨ (decide (n1 < n0) = false ∧ decide (d0 < d1) = true) ∨ (decide (n1 < n0) = false ∧ decide (d0 < d1) = false ∧ decide (u0 < 0) = true) ∨
        (decide (n1 < n0) = false ∧ decide (d0 < d1) = false ∧ decide (u0 < 0) = false ∧ decide (u1 < u0) = true) ∨ (decide (n1 < n0) = false ∧ decide (d0 < d1) = false ∧ decide (u0 < 0) = false ∧ decide (u1 < u0) = false ∧ decide (255 < u1) = true) ∨
        (decide (n1 < n0) = false ∧ decide (d0 < d1) = false ∧ decide (u0 < 0) = false ∧ decide (u1 < u0) = false ∧ decide (255 < u1) = false) := by
      simp only [decide_eq_true_eq, decide_eq_false_iff_not]
      omega
    have y0 := X0.out _ S.out
    have y1 := X1.out _ S.out
    have y2 := X2.out _ S.out
    have y3 := X3.out _ S.out
    have y4 := X4.out _ S.out
    have y5 := X5.out _ S.out
    simp only [c2u, List.getElem?_toArray, List.getElem?_cons_zero, List.getElem?_cons_succ] at y0 y1 y2 y3 y4 y5
    rcases hcase with t1 | ⟨t1, t2⟩ | ⟨t1, t2, t3⟩ | ⟨t1, t2, t3, t4⟩ | ⟨t1, t2, t3, t4, t5⟩ | ⟨t1, t2, t3, t4, t5⟩
    case' inr.inr.inr.inr.inr =>
      have hg := hgv.out (by simpa using t1) (by simpa using t2) (by simpa using t4) (by simpa using t5)
      have HG := Lib.hid hg
      clear hg
    any_goals
      (go_wp2_with fail
       refine (A6.out _).mono ?_
       rintro e w9 ⟨rfl, b9⟩
       have S := Lib.hid (S.out.keep b9)
       clear b9 y0 y1 y2 y3 y4 y5
       go_wp2_with fail
       go_ret
       exact ⟨rfl, S.out.2⟩)
    clear hgv
    rcases HG.out with ⟨e1, e2, e3, e4⟩ | ⟨e1, e2, e3⟩ | ⟨e1, e2⟩
    · rw [e1] at A1
      rw [e2] at A2
      rw [e3] at A3
      rw [e4] at A4
      clear HG e1 e2 e3 e4
      go_wp2_with fail
      refine (A1.out _).mono ?_
      rintro e w2 ⟨rfl, b2⟩
      have S := Lib.hid (S.out.keep b2)
      clear b2 y0 y1 y2 y3 y4 y5
      have y0 := X0.out w2 S.out
      have y1 := X1.out w2 S.out
      have y2 := X2.out w2 S.out
      have y3 := X3.out w2 S.out
      have y4 := X4.out w2 S.out
      have y5 := X5.out w2 S.out
      simp only [c2u, List.getElem?_toArray, List.getElem?_cons_zero, List.getElem?_cons_succ] at y0 y1 y2 y3 y4 y5
      go_wp2_with fail
      refine (A2.out _).mono ?_
      rintro e w3 ⟨rfl, b3⟩
      have S := Lib.hid (S.out.keep b3)
      clear b3 y0 y1 y2 y3 y4 y5
      have y0 := X0.out w3 S.out
      have y1 := X1.out w3 S.out
      have y2 := X2.out w3 S.out
      have y3 := X3.out w3 S.out
      have y4 := X4.out w3 S.out
      have y5 := X5.out w3 S.out
      simp only [c2u, List.getElem?_toArray, List.getElem?_cons_zero, List.getElem?_cons_succ] at y0 y1 y2 y3 y4 y5
      go_wp2_with fail
      refine (A3.out _).mono ?_
      rintro e w4 ⟨rfl, b4⟩
      have S := Lib.hid (S.out.keep b4)
      clear b4 y0 y1 y2 y3 y4 y5
      have y0 := X0.out w4 S.out
      have y1 := X1.out w4 S.out
      have y2 := X2.out w4 S.out
      have y3 := X3.out w4 S.out
      have y4 := X4.out w4 S.out
      have y5 := X5.out w4 S.out
      simp only [c2u, List.getElem?_toArray, List.getElem?_cons_zero, List.getElem?_cons_succ] at y0 y1 y2 y3 y4 y5
      go_wp2_with fail
      refine (A2.out _).mono ?_
      rintro e w5 ⟨rfl, b5⟩
      have S := Lib.hid (S.out.keep b5)
      clear b5 y0 y1 y2 y3 y4 y5
      have y0 := X0.out w5 S.out
      have y1 := X1.out w5 S.out
      have y2 := X2.out w5 S.out
      have y3 := X3.out w5 S.out
      have y4 := X4.out w5 S.out
      have y5 := X5.out w5 S.out
      simp only [c2u, List.getElem?_toArray, List.getElem?_cons_zero, List.getElem?_cons_succ] at y0 y1 y2 y3 y4 y5
      go_wp2_with fail
      refine (A4.out _).mono ?_
      rintro e w6 ⟨rfl, b6⟩
      have S := Lib.hid (S.out.keep b6)
      clear b6 y0 y1 y2 y3 y4 y5
      go_wp2_with fail
      refine (A6.out _).mono ?_
      rintro e w9 ⟨rfl, b9⟩
      have S := Lib.hid (S.out.keep b9)
      clear b9
      go_wp2_with fail
      go_ret
      exact ⟨rfl, S.out.2⟩
    · rw [e1] at A1
      rw [e2] at A2
      rw [e3] at A4
      clear HG e1 e2 e3 A3
      go_wp2_with fail
      refine (A1.out _).mono ?_
      rintro e w2 ⟨rfl, b2⟩
      have S := Lib.hid (S.out.keep b2)
      clear b2 y0 y1 y2 y3 y4 y5
      have y0 := X0.out w2 S.out
      have y1 := X1.out w2 S.out
      have y2 := X2.out w2 S.out
      have y3 := X3.out w2 S.out
      have y4 := X4.out w2 S.out
      have y5 := X5.out w2 S.out
      simp only [c2u, List.getElem?_toArray, List.getElem?_cons_zero, List.getElem?_cons_succ] at y0 y1 y2 y3 y4 y5
      go_wp2_with fail
      refine (A2.out _).mono ?_
      rintro e w5 ⟨rfl, b5⟩
      have S := Lib.hid (S.out.keep b5)
      clear b5 y0 y1 y2 y3 y4 y5
      have y0 := X0.out w5 S.out
      have y1 := X1.out w5 S.out
      have y2 := X2.out w5 S.out
      have y3 := X3.out w5 S.out
      have y4 := X4.out w5 S.out
      have y5 := X5.out w5 S.out
      simp only [c2u, List.getElem?_toArray, List.getElem?_cons_zero, List.getElem?_cons_succ] at y0 y1 y2 y3 y4 y5
      go_wp2_with fail
      refine (A4.out _).mono ?_
      rintro e w6 ⟨rfl, b6⟩
      have S := Lib.hid (S.out.keep b6)
      clear b6 y0 y1 y2 y3 y4 y5
      go_wp2_with fail
      refine (A6.out _).mono ?_
      rintro e w9 ⟨rfl, b9⟩
      have S := Lib.hid (S.out.keep b9)
      clear b9
      go_wp2_with fail
      go_ret
      exact ⟨rfl, S.out.2⟩
    · rw [e1] at A1
      rw [e2] at A2
      clear HG e1 e2 A3 A4
      go_wp2_with fail
      refine (A1.out _).mono ?_
      rintro e w2 ⟨rfl, b2⟩
      have S := Lib.hid (S.out.keep b2)
      clear b2 y0 y1 y2 y3 y4 y5
      have y0 := X0.out w2 S.out
      have y1 := X1.out w2 S.out
      have y2 := X2.out w2 S.out
      have y3 := X3.out w2 S.out
      have y4 := X4.out w2 S.out
      have y5 := X5.out w2 S.out
      simp only [c2u, List.getElem?_toArray, List.getElem?_cons_zero, List.getElem?_cons_succ] at y0 y1 y2 y3 y4 y5
      go_wp2_with fail
      refine (A2.out _).mono ?_
      rintro e w5 ⟨rfl, b5⟩
      have S := Lib.hid (S.out.keep b5)
      clear b5 y0 y1 y2 y3 y4 y5
      go_wp2_with fail
      refine (A6.out _).mono ?_
      rintro e w9 ⟨rfl, b9⟩
      have S := Lib.hid (S.out.keep b9)
      clear b9
      go_wp2_with fail
      go_ret
      exact ⟨rfl, S.out.2⟩
end Go.Proofs.Ytfelbjiflceopaa.Rt
