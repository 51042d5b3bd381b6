/- The walk of chapter 39's law GoodGrows. -/
import Derived.Test.YtfelbjiflceopaaLaw39S
import Derived.Test.YtfelbjiflceopaaStepB
import Derived.Deep.RegionHeld3
import Derived.Deep.DeepCutAuto
namespace Go.Proofs.Ytfelbjiflceopaa.Gd
open Go.RowKit Go.Proofs.Ytfelbjiflceopaa.Mk Go.Proofs.Ytfelbjiflceopaa.Ul Go.Proofs.Ytfelbjiflceopaa.Lg Go.Proofs.Ytfelbjiflceopaa.Up Go.Proofs.Ytfelbjiflceopaa.Rt
abbrev GL (w : World) (g : Nat) (level m0 m1 a b : Int) : List (Nat × Obj) := [(g, oI2 m0 m1), (w.heap.size + 1, oI2 a b), (w.heap.size, oI3 level m0 m1)]
set_option maxHeartbeats 20000000 in
set_option maxRecDepth 100000 in
theorem goodGrows_calls (v : Value) (zs : List Int) (level m0 m1 a b : Int) (w : World) (hz : ZS w v zs) :
    Calls Try.prog 11 #[v, .agg #[.int .i64 level, .int .i64 m0, .int .i64 m1], .agg #[.int .i64 a, .int .i64 b]] w fun e w' => e = .returned (.bool true) ∧ Below w.heap.size w w' := by
  have hbd := hz.len1
  have S0 := Lib.hid (SQ.new2 w (oI3 level m0 m1) (oI2 a b))
  have A6 := Lib.hid (fun w => awake39_calls w)
  have HZ := Lib.hid (fun wx (hx : Below w.heap.size w wx) => hz.below hx)
  have hbuild : ∀ wx, (Instr.build 41 #[(0, .int .i64 m0), (1, .int .i64 m1)]).run Try.prog wx = .ok (.agg #[.int .i64 m0, .int .i64 m1]) wx := fun wx => by kernel_rfl
  have HBU := Lib.hid hbuild
  obtain ⟨A, cap, rfl, _⟩ := hz.cell1
  clear hz hbuild
  go_enter Try.func11, Try.ntmps11
  go_wp2_with fail
  go_cut [7, 8] (fun s7 s8 wx => ∃ g, s7 = .int .i64 level ∧ s8 = .pointer (some ⟨g, 0, none⟩) ∧ Hid (SQ (GL w g level m0 m1 a b) w wx))
  case first =>
    clear A6 HZ
    have S_W0 := S0.out.drew
    clear S0
    have hsz : w.heap.size + 1 < ((w.alloc (oI3 level m0 m1)).alloc (oI2 a b)).drew.heap.size := by
      show _ < (World.alloc _ _).heap.size
      simp
    obtain ⟨L, hL⟩ : ∃ L, L = [(w.heap.size + 1, oI2 a b), (w.heap.size, oI3 level m0 m1)] := ⟨_, rfl⟩
    rw [← hL] at S_W0
    unfold oI3 oI2 at S_W0 hsz
    have HL := Lib.hid hL
    have Q0 := Lib.hid (show ∀ wx, SQ L w wx → wx.cell? ⟨w.heap.size, 0, none⟩ = some (.int .i64 level) from fun wx hx => by rw [hL] at hx; exact cell_of_row wx _ 0 _ _ _ hx.a1)
    have Q1 := Lib.hid (show ∀ wx, SQ L w wx → wx.cell? ⟨w.heap.size, 1, none⟩ = some (.int .i64 m0) from fun wx hx => by rw [hL] at hx; exact cell_of_row wx _ 1 _ _ _ hx.a1)
    have Q2 := Lib.hid (show ∀ wx, SQ L w wx → wx.cell? ⟨w.heap.size, 2, none⟩ = some (.int .i64 m1) from fun wx hx => by rw [hL] at hx; exact cell_of_row wx _ 2 _ _ _ hx.a1)
    have HNE : Hid (∀ g, w.heap.size + 1 < g → ∀ p ∈ L, p.1 ≠ g) := Lib.hid (fun g hg p hp => by rw [hL] at hp; simp at hp; rcases hp with rfl | rfl <;> simp <;> omega)
    clear hL
    refine wp_region_held_drew (S := SQ L w) (by kernel_rfl) S_W0 (fun hHeld => ?_)
    generalize World.drew _ = W0 at *
    clear hHeld
    refine wpAnyH_take (i := 0) (oi := ⟨some 11, _, _, _, _, _⟩) (v := .pointer (some ⟨w.heap.size, 0, none⟩)) rfl (by kernel_rfl) (by kernel_rfl) (by kernel_rfl) (fun _ _ _ h => h) (Or.inl ⟨by rfl, by intro wx _; go_simp⟩) (by assumption) ?_
    try simp only [Act.put, List.setIfInBounds_toArray, List.set_cons_zero, List.set_cons_succ]
    refine wpAnyH_take (i := 1) (oi := ⟨some 12, _, _, _, _, _⟩) (v := .int .i64 level) rfl (by kernel_rfl) (by kernel_rfl) (by kernel_rfl) (fun _ _ _ h => h) (Or.inl ⟨by rfl, by intro wx hx; have c := Q0.out wx hx; go_simp⟩) (by assumption) ?_
    try simp only [Act.put, List.setIfInBounds_toArray, List.set_cons_zero, List.set_cons_succ]
    refine wpAnyH_take (i := 2) (oi := ⟨some 13, _, _, _, _, _⟩) (v := .pointer (some ⟨w.heap.size, 1, none⟩)) rfl (by kernel_rfl) (by kernel_rfl) (by kernel_rfl) (fun _ _ _ h => h) (Or.inl ⟨by rfl, by intro wx _; go_simp⟩) (by assumption) ?_
    try simp only [Act.put, List.setIfInBounds_toArray, List.set_cons_zero, List.set_cons_succ]
    refine wpAnyH_take (i := 3) (oi := ⟨some 14, _, _, _, _, _⟩) (v := .int .i64 m0) rfl (by kernel_rfl) (by kernel_rfl) (by kernel_rfl) (fun _ _ _ h => h) (Or.inl ⟨by rfl, by intro wx hx; have c := Q1.out wx hx; go_simp⟩) (by assumption) ?_
    try simp only [Act.put, List.setIfInBounds_toArray, List.set_cons_zero, List.set_cons_succ]
    refine wpAnyH_take (i := 4) (oi := ⟨some 15, _, _, _, _, _⟩) (v := .pointer (some ⟨w.heap.size, 2, none⟩)) rfl (by kernel_rfl) (by kernel_rfl) (by kernel_rfl) (fun _ _ _ h => h) (Or.inl ⟨by rfl, by intro wx _; go_simp⟩) (by assumption) ?_
    try simp only [Act.put, List.setIfInBounds_toArray, List.set_cons_zero, List.set_cons_succ]
    refine wpAnyH_take (i := 5) (oi := ⟨some 16, _, _, _, _, _⟩) (v := .int .i64 m1) rfl (by kernel_rfl) (by kernel_rfl) (by kernel_rfl) (fun _ _ _ h => h) (Or.inl ⟨by rfl, by intro wx hx; have c := Q2.out wx hx; go_simp⟩) (by assumption) ?_
    try simp only [Act.put, List.setIfInBounds_toArray, List.set_cons_zero, List.set_cons_succ]
    refine wpAnyH_take (i := 6) (oi := ⟨some 17, _, _, _, _, _⟩) (v := .agg #[.int .i64 m0, .int .i64 m1]) rfl (by kernel_rfl) (by kernel_rfl) (by kernel_rfl) (fun _ _ _ h => h) (Or.inl ⟨by rfl, by intro wx hx; have c := HBU.out wx; go_simp⟩) (by assumption) ?_
    try simp only [Act.put, List.setIfInBounds_toArray, List.set_cons_zero, List.set_cons_succ]
    refine wpAnyH_ready (rs := [7]) (by kernel_rfl) (by simp) ?_
    refine AllReadyH.cons rfl (fun K hK => ?_) AllReadyH.nil
    · go_simp
      generalize hW1 : World.alloc W0 _ = V1
      have hb1 : Below W0.heap.size W0 V1 := by rw [← hW1]; exact bl1 _ _
      have G_V1 : V1.heap[W0.heap.size]? = some (oI2 0 0) := by rw [← hW1]; exact nw1 _ _
      have hz1 : W0.heap.size < V1.heap.size := (Array.getElem?_eq_some_iff.1 G_V1).1
      have hg0 : w.heap.size + 1 < W0.heap.size := by omega
      clear hW1
      have S_V1 := S_W0.keep hb1
      try dsimp only
      refine hK.out _ _ S_V1 (fun _ => ?_)
      clear hK K
      refine wpAnyH_take (i := 8) (oi := ⟨some 7, _, _, _, _, _⟩) (v := .int .i64 level) rfl (by kernel_rfl) (by kernel_rfl) (by kernel_rfl) (fun _ _ _ h => h) (Or.inl ⟨by rfl, by intro wx _; go_simp⟩) (by assumption) ?_
      try simp only [Act.put, List.setIfInBounds_toArray, List.set_cons_zero, List.set_cons_succ]
      refine wpAnyH_ready (rs := [9]) (by kernel_rfl) (by simp) ?_
      refine AllReadyH.cons rfl (fun K hK => ?_) AllReadyH.nil
      · refine step_store rfl 41 _ _ rfl _ rfl (.agg #[.int .i64 m0, .int .i64 m1]) rfl _ (run_storeAt_row (cells := #[.int .i64 m0, .int .i64 m1]) G_V1 (by kernel_rfl) rfl (by simp [Value.oneCell'])) ?_
        generalize hW2 : World.setRow V1 _ _ = V2
        have S_V2 := hW2 ▸ S_V1.row (by omega) (HNE.out _ hg0)
        have G_V2 := hW2 ▸ setRow_heap _ _ _ _ _ _ G_V1
        try dsimp only
        refine hK.out _ _ S_V2 (fun _ => ?_)
        clear hK K
        refine wpAnyH_done (by kernel_rfl) ?_ _
        go_wp2_with fail
        go_meet
        exact ⟨_, rfl, rfl, Lib.hid (by have s := S_V2; rw [HL.out] at s; exact s.add G_V2)⟩
  case rest =>
    obtain ⟨g1, rfl, rfl, S⟩ := hcut
    have X0 := Lib.hid (fun wx (L : SQ (GL w g1 level m0 m1 a b) w wx) => cell_of_row wx g1 0 _ _ _ L.a0)
    have X1 := Lib.hid (fun wx (L : SQ (GL w g1 level m0 m1 a b) w wx) => cell_of_row wx g1 1 _ _ _ L.a0)
    have X2 := Lib.hid (fun wx (L : SQ (GL w g1 level m0 m1 a b) w wx) => cell_of_row wx (w.heap.size + 1) 0 _ _ _ L.a1)
    have X3 := Lib.hid (fun wx (L : SQ (GL w g1 level m0 m1 a b) w wx) => cell_of_row wx (w.heap.size + 1) 1 _ _ _ L.a1)
    clear S0 HBU
    have hcase : (decide ((40 : Int) < (zs.length : Int)) = true) ∨ (decide ((40 : Int) < (zs.length : Int)) = false ∧ decide (20 < level) = true) ∨ (decide ((40 : Int) < (zs.length : Int)) = false ∧ decide (20 < level) = false ∧ decide (m1 < m0) = true) ∨
        (decide ((40 : Int) < (zs.length : Int)) = false ∧ decide (20 < level) = false ∧ decide (m1 < m0) = false) := by
      simp only [decide_eq_true_eq, decide_eq_false_iff_not]
      omega
    have y0 := X0.out _ S.out
    have y1 := X1.out _ S.out
    have y2 := X2.out _ S.out
    have y3 := X3.out _ S.out
    simp only [List.getElem?_toArray, List.getElem?_cons_zero, List.getElem?_cons_succ] at y0 y1 y2 y3
    rcases hcase with t1 | ⟨t1, t2⟩ | ⟨t1, t2, t3⟩ | ⟨t1, t2, t3⟩
    case' inr.inr.inr =>
      have hl : zs.length ≤ 40 := by have := of_decide_eq_false t1; omega
      have hmm : m0 ≤ m1 := by have := of_decide_eq_false t3; omega
    any_goals
      (go_wp2_with fail
       refine (A6.out _).mono ?_
       rintro e w9 ⟨rfl, b9⟩
       have S := Lib.hid (S.out.keep b9)
       clear b9 y0 y1 y2 y3
       go_wp2_with fail
       go_ret
       exact ⟨rfl, S.out.2⟩)
    have B0 := Lib.hid (fun wx (hx : SQ (GL w g1 level m0 m1 a b) w wx) => super_calls _ zs level m0 a b wx (HZ.out wx hx.2) (by omega))
    have B1 := Lib.hid (fun wx (hx : SQ (GL w g1 level m0 m1 a b) w wx) => super_calls _ zs level m1 a b wx (HZ.out wx hx.2) (by omega))
    have M0 := Lib.hid (fun wx (hx : SQ (GL w g1 level m0 m1 a b) w wx) => multi_calls _ zs level m0 a b wx (HZ.out wx hx.2))
    have M1 := Lib.hid (fun wx (hx : SQ (GL w g1 level m0 m1 a b) w wx) => multi_calls _ zs level m1 a b wx (HZ.out wx hx.2))
    have HF := Lib.hid (fun h => @sup_few zs level m0 a b (by omega) h)
    have B00 := Lib.hid (fun wx (hx : SQ (GL w g1 level m0 m1 a b) w wx) (q : Bool) (hq : supS zs level m0 a b = q) => hq ▸ B0.out wx hx)
    have B11 := Lib.hid (fun wx (hx : SQ (GL w g1 level m0 m1 a b) w wx) (hq : supS zs level m0 a b = true) => sup_grows hmm hq ▸ B1.out wx hx)
    have M00 := Lib.hid (fun wx (hx : SQ (GL w g1 level m0 m1 a b) w wx) (q : Bool) (hq : mulS zs level m0 a b = q) => hq ▸ M0.out wx hx)
    have M11 := Lib.hid (fun wx (hx : SQ (GL w g1 level m0 m1 a b) w wx) (hq : mulS zs level m0 a b = true) => mul_grows hmm hq ▸ M1.out wx hx)
    clear B1 M0 M1 hmm
    rcases hq : supS zs level m0 a b with _ | _
    · have q0 := Lib.hid hq
      clear hq
      go_wp2_with fail
      refine (B00.out _ S.out _ q0.out).mono ?_
      rintro e w2 ⟨rfl, b2⟩
      have S := Lib.hid (S.out.keep b2)
      clear b2 y0 y1 y2 y3
      have y0 := X0.out _ S.out
      have y1 := X1.out _ S.out
      have y2 := X2.out _ S.out
      have y3 := X3.out _ S.out
      rcases hp : mulS zs level m0 a b with _ | _
      · have p0 := Lib.hid hp
        clear hp
        go_wp2_with fail
        refine (M00.out _ S.out _ p0.out).mono ?_
        rintro e w2 ⟨rfl, b2⟩
        have S := Lib.hid (S.out.keep b2)
        clear b2 y0 y1 y2 y3
        have y0 := X0.out _ S.out
        have y1 := X1.out _ S.out
        have y2 := X2.out _ S.out
        have y3 := X3.out _ S.out
        go_wp2_with fail
        have hx := (HZ.out _ S.out.2).cell1
        have HX := Lib.hid hx
        clear hx
        go_loop [9, 10] (fun s9 s10 => ∃ k : Nat, k ≤ zs.length ∧ s10 = .int .i64 k ∧ s9 = .int .i64 (ahd zs level k : Nat)) (fun _ s10 => zs.length - (intOf s10).toNat)
        case atStart => exact ⟨0, by omega, rfl, rfl⟩
        case round =>
          obtain ⟨k, hk, rfl, rfl⟩ := hrel
          have hal := ahd_le zs level k
          by_cases hlt : k < zs.length
          · obtain ⟨_, _, he, _, _, hx⟩ := HX.out
            cases he
            obtain ⟨b1, o1, rfl, hx2⟩ := hx (by omega)
            have c := hx2 k zs[k] (List.getElem?_eq_getElem hlt)
            unfold zI at c
            have hgd : zs[k]?.getD 0 = zs[k] := by rw [List.getElem?_eq_getElem hlt]; rfl
            have HY := Lib.hid (show level ≤ zs[k] → ahd zs level (k + 1) = ahd zs level k + 1 from fun h => ahd_yes (by rw [hgd]; exact h))
            have HN := Lib.hid (show ¬ level ≤ zs[k] → ahd zs level (k + 1) = ahd zs level k from fun h => ahd_no (by rw [hgd]; exact h))
            clear hx hx2 hgd HX HZ
            generalize ahd zs level k = h at *
            generalize zs[k] = z at *
            by_cases hlv : level ≤ z
            · have HQ := Lib.hid (HY.out hlv)
              have t9 : decide (level ≤ z) = true := decide_eq_true hlv
              clear HY HN hlv
              go_wp2_with fail
              go_round
              case rel => exact ⟨k + 1, by omega, by go_num, by rw [HQ.out]; go_num⟩
              case measure => simp [intOf] <;> omega
            · have HQ := Lib.hid (HN.out hlv)
              have t9 : decide (level ≤ z) = false := decide_eq_false hlv
              clear HY HN hlv
              go_wp2_with fail
              go_round
              case rel => exact ⟨k + 1, by omega, by go_num, by rw [HQ.out]⟩
              case measure => simp [intOf] <;> omega
          · obtain rfl : k = zs.length := by omega
            clear HX
            rw [← cnt_ahd] at *
            have F := HF.out
            have B := Lib.hid (fun (h : supS zs level m0 a b = true) => (h ▸ B0.out _ S.out))
            clear HF B0
            generalize cnt zs level = n at *
            rcases (show decide (m0 ≤ (n : Int)) = true ∨ (decide (m0 ≤ (n : Int)) = false ∧ decide (m0 < 1) = true) ∨ (decide (m0 ≤ (n : Int)) = false ∧ decide (m0 < 1) = false ∧ (n : Int) < m0) from by
              simp only [decide_eq_true_eq, decide_eq_false_iff_not]; omega) with u1 | ⟨u1, u2⟩ | ⟨u1, u2, u3⟩
            case' inr.inr => have B := Lib.hid (B.out (F u3))
            case' inr.inr => clear F u3
            case' inl => clear B F
            case' inr.inl => clear B F
            any_goals
              (go_wp2_with fail
               refine (A6.out _).mono ?_
               rintro e w9 ⟨rfl, b9⟩
               have S := Lib.hid (S.out.keep b9)
               clear b9
               go_wp2_with fail
               go_ret
               exact ⟨rfl, S.out.2⟩)
            go_wp2_with fail
            refine B.out.mono ?_
            rintro e w8 ⟨rfl, b8⟩
            have S := Lib.hid (S.out.keep b8)
            clear b8 B
            go_wp2_with fail
            refine (A6.out _).mono ?_
            rintro e w9 ⟨rfl, b9⟩
            have S := Lib.hid (S.out.keep b9)
            clear b9
            go_wp2_with fail
            go_ret
            exact ⟨rfl, S.out.2⟩
      · have p0 := Lib.hid hp
        clear hp
        go_wp2_with fail
        refine (M00.out _ S.out _ p0.out).mono ?_
        rintro e w2 ⟨rfl, b2⟩
        have S := Lib.hid (S.out.keep b2)
        clear b2 y0 y1 y2 y3
        have y0 := X0.out _ S.out
        have y1 := X1.out _ S.out
        have y2 := X2.out _ S.out
        have y3 := X3.out _ S.out
        go_wp2_with fail
        refine (M11.out _ S.out p0.out).mono ?_
        rintro e w2 ⟨rfl, b2⟩
        have S := Lib.hid (S.out.keep b2)
        clear b2 y0 y1 y2 y3
        have y0 := X0.out _ S.out
        have y1 := X1.out _ S.out
        have y2 := X2.out _ S.out
        have y3 := X3.out _ S.out
        go_wp2_with fail
        have hx := (HZ.out _ S.out.2).cell1
        have HX := Lib.hid hx
        clear hx
        go_loop [9, 10] (fun s9 s10 => ∃ k : Nat, k ≤ zs.length ∧ s10 = .int .i64 k ∧ s9 = .int .i64 (ahd zs level k : Nat)) (fun _ s10 => zs.length - (intOf s10).toNat)
        case atStart => exact ⟨0, by omega, rfl, rfl⟩
        case round =>
          obtain ⟨k, hk, rfl, rfl⟩ := hrel
          have hal := ahd_le zs level k
          by_cases hlt : k < zs.length
          · obtain ⟨_, _, he, _, _, hx⟩ := HX.out
            cases he
            obtain ⟨b1, o1, rfl, hx2⟩ := hx (by omega)
            have c := hx2 k zs[k] (List.getElem?_eq_getElem hlt)
            unfold zI at c
            have hgd : zs[k]?.getD 0 = zs[k] := by rw [List.getElem?_eq_getElem hlt]; rfl
            have HY := Lib.hid (show level ≤ zs[k] → ahd zs level (k + 1) = ahd zs level k + 1 from fun h => ahd_yes (by rw [hgd]; exact h))
            have HN := Lib.hid (show ¬ level ≤ zs[k] → ahd zs level (k + 1) = ahd zs level k from fun h => ahd_no (by rw [hgd]; exact h))
            clear hx hx2 hgd HX HZ
            generalize ahd zs level k = h at *
            generalize zs[k] = z at *
            by_cases hlv : level ≤ z
            · have HQ := Lib.hid (HY.out hlv)
              have t9 : decide (level ≤ z) = true := decide_eq_true hlv
              clear HY HN hlv
              go_wp2_with fail
              go_round
              case rel => exact ⟨k + 1, by omega, by go_num, by rw [HQ.out]; go_num⟩
              case measure => simp [intOf] <;> omega
            · have HQ := Lib.hid (HN.out hlv)
              have t9 : decide (level ≤ z) = false := decide_eq_false hlv
              clear HY HN hlv
              go_wp2_with fail
              go_round
              case rel => exact ⟨k + 1, by omega, by go_num, by rw [HQ.out]⟩
              case measure => simp [intOf] <;> omega
          · obtain rfl : k = zs.length := by omega
            clear HX
            rw [← cnt_ahd] at *
            have F := HF.out
            have B := Lib.hid (fun (h : supS zs level m0 a b = true) => (h ▸ B0.out _ S.out))
            clear HF B0
            generalize cnt zs level = n at *
            rcases (show decide (m0 ≤ (n : Int)) = true ∨ (decide (m0 ≤ (n : Int)) = false ∧ decide (m0 < 1) = true) ∨ (decide (m0 ≤ (n : Int)) = false ∧ decide (m0 < 1) = false ∧ (n : Int) < m0) from by
              simp only [decide_eq_true_eq, decide_eq_false_iff_not]; omega) with u1 | ⟨u1, u2⟩ | ⟨u1, u2, u3⟩
            case' inr.inr => have B := Lib.hid (B.out (F u3))
            case' inr.inr => clear F u3
            case' inl => clear B F
            case' inr.inl => clear B F
            any_goals
              (go_wp2_with fail
               refine (A6.out _).mono ?_
               rintro e w9 ⟨rfl, b9⟩
               have S := Lib.hid (S.out.keep b9)
               clear b9
               go_wp2_with fail
               go_ret
               exact ⟨rfl, S.out.2⟩)
            go_wp2_with fail
            refine B.out.mono ?_
            rintro e w8 ⟨rfl, b8⟩
            have S := Lib.hid (S.out.keep b8)
            clear b8 B
            go_wp2_with fail
            refine (A6.out _).mono ?_
            rintro e w9 ⟨rfl, b9⟩
            have S := Lib.hid (S.out.keep b9)
            clear b9
            go_wp2_with fail
            go_ret
            exact ⟨rfl, S.out.2⟩
    · have q0 := Lib.hid hq
      clear hq
      go_wp2_with fail
      refine (B00.out _ S.out _ q0.out).mono ?_
      rintro e w2 ⟨rfl, b2⟩
      have S := Lib.hid (S.out.keep b2)
      clear b2 y0 y1 y2 y3
      have y0 := X0.out _ S.out
      have y1 := X1.out _ S.out
      have y2 := X2.out _ S.out
      have y3 := X3.out _ S.out
      go_wp2_with fail
      refine (B11.out _ S.out q0.out).mono ?_
      rintro e w2 ⟨rfl, b2⟩
      have S := Lib.hid (S.out.keep b2)
      clear b2 y0 y1 y2 y3
      have y0 := X0.out _ S.out
      have y1 := X1.out _ S.out
      have y2 := X2.out _ S.out
      have y3 := X3.out _ S.out
      rcases hp : mulS zs level m0 a b with _ | _
      · have p0 := Lib.hid hp
        clear hp
        go_wp2_with fail
        refine (M00.out _ S.out _ p0.out).mono ?_
        rintro e w2 ⟨rfl, b2⟩
        have S := Lib.hid (S.out.keep b2)
        clear b2 y0 y1 y2 y3
        have y0 := X0.out _ S.out
        have y1 := X1.out _ S.out
        have y2 := X2.out _ S.out
        have y3 := X3.out _ S.out
        go_wp2_with fail
        have hx := (HZ.out _ S.out.2).cell1
        have HX := Lib.hid hx
        clear hx
        go_loop [9, 10] (fun s9 s10 => ∃ k : Nat, k ≤ zs.length ∧ s10 = .int .i64 k ∧ s9 = .int .i64 (ahd zs level k : Nat)) (fun _ s10 => zs.length - (intOf s10).toNat)
        case atStart => exact ⟨0, by omega, rfl, rfl⟩
        case round =>
          obtain ⟨k, hk, rfl, rfl⟩ := hrel
          have hal := ahd_le zs level k
          by_cases hlt : k < zs.length
          · obtain ⟨_, _, he, _, _, hx⟩ := HX.out
            cases he
            obtain ⟨b1, o1, rfl, hx2⟩ := hx (by omega)
            have c := hx2 k zs[k] (List.getElem?_eq_getElem hlt)
            unfold zI at c
            have hgd : zs[k]?.getD 0 = zs[k] := by rw [List.getElem?_eq_getElem hlt]; rfl
            have HY := Lib.hid (show level ≤ zs[k] → ahd zs level (k + 1) = ahd zs level k + 1 from fun h => ahd_yes (by rw [hgd]; exact h))
            have HN := Lib.hid (show ¬ level ≤ zs[k] → ahd zs level (k + 1) = ahd zs level k from fun h => ahd_no (by rw [hgd]; exact h))
            clear hx hx2 hgd HX HZ
            generalize ahd zs level k = h at *
            generalize zs[k] = z at *
            by_cases hlv : level ≤ z
            · have HQ := Lib.hid (HY.out hlv)
              have t9 : decide (level ≤ z) = true := decide_eq_true hlv
              clear HY HN hlv
              go_wp2_with fail
              go_round
              case rel => exact ⟨k + 1, by omega, by go_num, by rw [HQ.out]; go_num⟩
              case measure => simp [intOf] <;> omega
            · have HQ := Lib.hid (HN.out hlv)
              have t9 : decide (level ≤ z) = false := decide_eq_false hlv
              clear HY HN hlv
              go_wp2_with fail
              go_round
              case rel => exact ⟨k + 1, by omega, by go_num, by rw [HQ.out]⟩
              case measure => simp [intOf] <;> omega
          · obtain rfl : k = zs.length := by omega
            clear HX
            rw [← cnt_ahd] at *
            have F := HF.out
            have B := Lib.hid (fun (h : supS zs level m0 a b = true) => (h ▸ B0.out _ S.out))
            clear HF B0
            generalize cnt zs level = n at *
            rcases (show decide (m0 ≤ (n : Int)) = true ∨ (decide (m0 ≤ (n : Int)) = false ∧ decide (m0 < 1) = true) ∨ (decide (m0 ≤ (n : Int)) = false ∧ decide (m0 < 1) = false ∧ (n : Int) < m0) from by
              simp only [decide_eq_true_eq, decide_eq_false_iff_not]; omega) with u1 | ⟨u1, u2⟩ | ⟨u1, u2, u3⟩
            case' inr.inr => have B := Lib.hid (B.out (F u3))
            case' inr.inr => clear F u3
            case' inl => clear B F
            case' inr.inl => clear B F
            any_goals
              (go_wp2_with fail
               refine (A6.out _).mono ?_
               rintro e w9 ⟨rfl, b9⟩
               have S := Lib.hid (S.out.keep b9)
               clear b9
               go_wp2_with fail
               go_ret
               exact ⟨rfl, S.out.2⟩)
            go_wp2_with fail
            refine B.out.mono ?_
            rintro e w8 ⟨rfl, b8⟩
            have S := Lib.hid (S.out.keep b8)
            clear b8 B
            go_wp2_with fail
            refine (A6.out _).mono ?_
            rintro e w9 ⟨rfl, b9⟩
            have S := Lib.hid (S.out.keep b9)
            clear b9
            go_wp2_with fail
            go_ret
            exact ⟨rfl, S.out.2⟩
      · have p0 := Lib.hid hp
        clear hp
        go_wp2_with fail
        refine (M00.out _ S.out _ p0.out).mono ?_
        rintro e w2 ⟨rfl, b2⟩
        have S := Lib.hid (S.out.keep b2)
        clear b2 y0 y1 y2 y3
        have y0 := X0.out _ S.out
        have y1 := X1.out _ S.out
        have y2 := X2.out _ S.out
        have y3 := X3.out _ S.out
        go_wp2_with fail
        refine (M11.out _ S.out p0.out).mono ?_
        rintro e w2 ⟨rfl, b2⟩
        have S := Lib.hid (S.out.keep b2)
        clear b2 y0 y1 y2 y3
        have y0 := X0.out _ S.out
        have y1 := X1.out _ S.out
        have y2 := X2.out _ S.out
        have y3 := X3.out _ S.out
        go_wp2_with fail
        have hx := (HZ.out _ S.out.2).cell1
        have HX := Lib.hid hx
        clear hx
        go_loop [9, 10] (fun s9 s10 => ∃ k : Nat, k ≤ zs.length ∧ s10 = .int .i64 k ∧ s9 = .int .i64 (ahd zs level k : Nat)) (fun _ s10 => zs.length - (intOf s10).toNat)
        case atStart => exact ⟨0, by omega, rfl, rfl⟩
        case round =>
          obtain ⟨k, hk, rfl, rfl⟩ := hrel
          have hal := ahd_le zs level k
          by_cases hlt : k < zs.length
          · obtain ⟨_, _, he, _, _, hx⟩ := HX.out
            cases he
            obtain ⟨b1, o1, rfl, hx2⟩ := hx (by omega)
            have c := hx2 k zs[k] (List.getElem?_eq_getElem hlt)
            unfold zI at c
            have hgd : zs[k]?.getD 0 = zs[k] := by rw [List.getElem?_eq_getElem hlt]; rfl
            have HY := Lib.hid (show level ≤ zs[k] → ahd zs level (k + 1) = ahd zs level k + 1 from fun h => ahd_yes (by rw [hgd]; exact h))
            have HN := Lib.hid (show ¬ level ≤ zs[k] → ahd zs level (k + 1) = ahd zs level k from fun h => ahd_no (by rw [hgd]; exact h))
            clear hx hx2 hgd HX HZ
            generalize ahd zs level k = h at *
            generalize zs[k] = z at *
            by_cases hlv : level ≤ z
            · have HQ := Lib.hid (HY.out hlv)
              have t9 : decide (level ≤ z) = true := decide_eq_true hlv
              clear HY HN hlv
              go_wp2_with fail
              go_round
              case rel => exact ⟨k + 1, by omega, by go_num, by rw [HQ.out]; go_num⟩
              case measure => simp [intOf] <;> omega
            · have HQ := Lib.hid (HN.out hlv)
              have t9 : decide (level ≤ z) = false := decide_eq_false hlv
              clear HY HN hlv
              go_wp2_with fail
              go_round
              case rel => exact ⟨k + 1, by omega, by go_num, by rw [HQ.out]⟩
              case measure => simp [intOf] <;> omega
          · obtain rfl : k = zs.length := by omega
            clear HX
            rw [← cnt_ahd] at *
            have F := HF.out
            have B := Lib.hid (fun (h : supS zs level m0 a b = true) => (h ▸ B0.out _ S.out))
            clear HF B0
            generalize cnt zs level = n at *
            rcases (show decide (m0 ≤ (n : Int)) = true ∨ (decide (m0 ≤ (n : Int)) = false ∧ decide (m0 < 1) = true) ∨ (decide (m0 ≤ (n : Int)) = false ∧ decide (m0 < 1) = false ∧ (n : Int) < m0) from by
              simp only [decide_eq_true_eq, decide_eq_false_iff_not]; omega) with u1 | ⟨u1, u2⟩ | ⟨u1, u2, u3⟩
            case' inr.inr => have B := Lib.hid (B.out (F u3))
            case' inr.inr => clear F u3
            case' inl => clear B F
            case' inr.inl => clear B F
            any_goals
              (go_wp2_with fail
               refine (A6.out _).mono ?_
               rintro e w9 ⟨rfl, b9⟩
               have S := Lib.hid (S.out.keep b9)
               clear b9
               go_wp2_with fail
               go_ret
               exact ⟨rfl, S.out.2⟩)
            go_wp2_with fail
            refine B.out.mono ?_
            rintro e w8 ⟨rfl, b8⟩
            have S := Lib.hid (S.out.keep b8)
            clear b8 B
            go_wp2_with fail
            refine (A6.out _).mono ?_
            rintro e w9 ⟨rfl, b9⟩
            have S := Lib.hid (S.out.keep b9)
            clear b9
            go_wp2_with fail
            go_ret
            exact ⟨rfl, S.out.2⟩
end Go.Proofs.Ytfelbjiflceopaa.Gd
