/- The walks of the duel's behind and Scores. -/
import Derived.Test.YtihdeanfcbiflaaDoorBm
import Derived.Test.YtihdeanfcbiflaaDoorScC
import Derived.Test.YtihdeanfcbiflaaDoorSq
import Derived.Deep.RegionHeld
import Derived.Deep.MidRow
namespace Go.Proofs.YtihdeanfcbiflaaDoor.Wh
open Go.RowKit Go.Proofs.YtihdeanfcbiflaaDoor.Mk Go.Proofs.YtihdeanfcbiflaaDoor.Ul Go.Proofs.YtihdeanfcbiflaaDoor.Wi Go.Proofs.YtihdeanfcbiflaaDoor.Lg Go.Proofs.YtihdeanfcbiflaaDoor.Up Go.Proofs.YtihdeanfcbiflaaDoor.Sc
open Go.Proofs.YtihdeanfcbiflaaDoor.Common (lastU lastP)
theorem USd2 : Tryd.prog.underlying 38 = some (.struct (Tryd.prog.fieldsOf 38)) := by kernel_rfl
theorem ldS2 {w : World} {g : Nat} {vi vl : Value} (h : w.heap[g]? = some (sdB vi vl)) : (Instr.loadAt 38 (.pointer (some ⟨g, 0, none⟩))).run Tryd.prog w = .ok (.agg #[vi, vl]) w := by
  have := run_loadVar_row (P := Tryd.prog) w g _ 38 _ _ _ h USd2 rfl (by show _ = some 2; kernel_rfl)
  simp only [Instr.loadAt, Instr.sureAddr, Sem.run_bind, Sem.run_pure, Result.andThen_ok, this]
theorem yield_load {P : Program} {ops : Array Oper} {S : World → Prop} {op : Oper} {a : Act} {ty : TypeId} {x : Operand} {p : Addr} {v : Value} (hw : Region.wanted op (yielded ops a.tmps) = true) (ho : op.op = .load ty x) (hx : a.eval x = .pointer (some p))
    (hr : ∀ w, S w → (Instr.loadAt ty (.pointer (some p))).run P w = .ok v w) : YieldsIf P ops S op v a :=
  .inl ⟨hw, fun w hw' => by
    unfold execOp
    simp only [ho, hx, Sem.run_bind, hr w hw', Result.andThen_ok, Sem.run_pure]⟩
theorem build_S0 {o : Oper} {a : Act} {w : World} (ho : o.op = .build 49 #[]) : (execOp a.eval o).run Tryd.prog w = .ok (.value (vSc 0 0)) w := by
  unfold execOp
  simp only [ho]
  unfold vSc scC
  rw [lb_zero]
  kernel_rfl
theorem st_sc {w : World} {g V L : Nat} (h : w.heap[g]? = some (oSc V L)) (V' L' : Nat) : (Instr.storeAt 49 (.pointer (some ⟨g, 0, none⟩)) (vSc V' L')).run Tryd.prog w = .ok () (w.setRow g (scC V' L').toArray) :=
  run_storeAt_row (cells := (scC V' L').toArray) h (ISc _ _) (by rw [List.size_toArray, List.size_toArray, scC_len, scC_len]) (one_sc _ _)
set_option maxHeartbeats 2000000 in
set_option maxRecDepth 100000 in
theorem sbehind_calls (val : Value) (ids : List (List UInt8)) (zs : List Int) (n : Nat) (w : World) (h : SD w val ids zs) (hn : n ≤ 9223372036854775000) :
    Calls Tryd.prog 37 #[val, .int .i64 (n : Int)] w fun e w' => ∃ v', e = .returned v' ∧ ZS w' v' (zs.drop (n + 1)) ∧ Below w.heap.size w w' := by
  obtain ⟨vi, vl, rfl, h1, h2⟩ := h
  have hbd := h2.len1
  obtain ⟨_, _, Ai, ki, rfl, _, _, _⟩ := h1
  obtain ⟨A, c, rfl, hlc, hcm, _⟩ := h2.cell1
  have S0 := SQ.new w (sdB (.slice Ai ids.length ki) (.slice A zs.length c))
  have c1 := sd1 S0.a0
  have HB := Lib.hid S0.2
  clear S0
  have t1 : decide ((n : Int) < 0) = false := decide_eq_false (by omega)
  have q1 : IntKind.i64.wrap ((n : Int) + 1) = ((n + 1 : Nat) : Int) := by rw [IntWalk.i64_in _ (by omega)]; omega
  have q1' : ((n + 1 : Nat) : Int) = (n : Int) + 1 := by omega
  rw [q1'] at q1
  unfold sdB at *
  by_cases hlt : n + 1 < zs.length
  · obtain ⟨A', hsl, hd⟩ := ZS.drop h2 hlt
    rw [List.length_drop] at hsl hd
    rw [q1'] at hsl
    have hd := Lib.hid (hd.below HB.out)
    have t2 : decide ((zs.length : Int) ≤ (n : Int) + 1) = false := decide_eq_false (by omega)
    clear h2
    go_enter Tryd.func37, Tryd.ntmps37
    go_wp2_with fail
    go_ret
    exact ⟨_, rfl, hd.out, HB.out⟩
  · have t2 : decide ((zs.length : Int) ≤ (n : Int) + 1) = true := decide_eq_true (by omega)
    have he : zs.drop (n + 1) = [] := List.drop_eq_nil_of_le (by omega)
    have HE := Lib.hid he
    clear h2
    go_enter Tryd.func37, Tryd.ntmps37
    go_wp2_with fail
    go_ret
    exact ⟨_, rfl, by rw [HE.out]; exact SL.nil _ _ _, HB.out⟩
/-- what Scores answers -/
def scs (ia ib : List (List UInt8)) (za zb : List Int) (m : Int) : (Nat × Nat) × (Nat × Nat) × Bool :=
  if (lastU ia ib ia.length).1 < 0 then ((0, 0), (0, 0), false) else (bst (za.drop ((lastU ia ib ia.length).1.toNat + 1)) m 256, bst (zb.drop ((lastU ia ib ia.length).2.toNat + 1)) m 256, true)
set_option maxHeartbeats 8000000 in
set_option maxRecDepth 100000 in
theorem scores_calls (va vb : Value) (ia ib : List (List UInt8)) (za zb : List Int) (m : Int) (w : World) (ha : SD w va ia za) (hb : SD w vb ib zb) :
    Calls Tryd.prog 16 #[va, vb, .int .i64 m] w fun e w' => e = .returned (.tuple #[vSc (scs ia ib za zb m).1.1 (scs ia ib za zb m).1.2, vSc (scs ia ib za zb m).2.1.1 (scs ia ib za zb m).2.1.2, .bool (scs ia ib za zb m).2.2]) ∧ Below w.heap.size w w' := by
  obtain ⟨vi, vl, rfl, h1, h2⟩ := ha
  obtain ⟨vj, vk, rfl, h3, h4⟩ := hb
  have hlen := h1.bd
  have hlen2 := h3.bd
  have HX := Lib.hid (show ∀ wx, Below w.heap.size w wx → SD wx (.agg #[vi, vl]) ia za ∧ SD wx (.agg #[vj, vk]) ib zb from fun wx hx => ⟨⟨_, _, rfl, h1.below hx, h2.below hx⟩, ⟨_, _, rfl, h3.below hx, h4.below hx⟩⟩)
  have HL := Lib.hid (show ∀ wx, Below w.heap.size w wx → SL hc 32 wx vi ia ∧ SL hc 32 wx vj ib from fun wx hx => ⟨h1.below hx, h3.below hx⟩)
  have HR := Lib.hid (show scs ia ib za zb m = if (lastU ia ib ia.length).1 < 0 then ((0, 0), (0, 0), false) else (bst (za.drop ((lastU ia ib ia.length).1.toNat + 1)) m 256, bst (zb.drop ((lastU ia ib ia.length).2.toNat + 1)) m 256, true) from rfl)
  have S0 := (SQ.new2 w (sdB vi vl) (sdB vj vk)).alloc2 (oSc 0 0) (oSc 0 0)
  rw [show ((w.alloc (sdB vi vl)).alloc (sdB vj vk)).heap.size = w.heap.size + 1 + 1 by simp] at S0
  have c0 := sd0 S0.a3
  have c1 := sd0 S0.a2
  have hcase := lastU_cases ia ib ia.length
  have LC := Lib.hid (Common.last_calls ia ib vi vj _ (HL.out _ S0.2).1 (HL.out _ S0.2).2)
  obtain ⟨_, _, Ai, ki, rfl, _, _, _⟩ := h1
  obtain ⟨_, _, Aj, kj, rfl, _, _, _⟩ := h3
  obtain ⟨Al, kl, rfl, _, _, _⟩ := h2.cell1
  obtain ⟨Ak, kk, rfl, _, _, _⟩ := h4.cell1
  clear h2 h4
  obtain ⟨g, hg⟩ : ∃ g, g = w.heap.size := ⟨_, rfl⟩
  rw [← hg] at S0 c0 c1
  have G := Lib.hid (show w.heap.size = g from hg.symm)
  obtain ⟨L, hL⟩ : ∃ L, L = [(g + 1, sdB (.slice Aj ib.length kj) (.slice Ak zb.length kk)), (g, sdB (.slice Ai ia.length ki) (.slice Al za.length kl))] := ⟨_, rfl⟩
  rw [← hL] at S0
  have Q0 := Lib.hid (show ∀ wx, SQ L w wx → wx.heap[g]? = some (sdB (.slice Ai ia.length ki) (.slice Al za.length kl)) from fun wx hx => by rw [hL] at hx; exact hx.a1)
  have Q1 := Lib.hid (show ∀ wx, SQ L w wx → wx.heap[g + 1]? = some (sdB (.slice Aj ib.length kj) (.slice Ak zb.length kk)) from fun wx hx => by rw [hL] at hx; exact hx.a0)
  have N2 := Lib.hid (show ∀ p ∈ L, p.1 ≠ g + 1 + 1 from fun p hp => by rw [hL] at hp; simp at hp; rcases hp with rfl | rfl <;> simp <;> omega)
  have N3 := Lib.hid (show ∀ p ∈ L, p.1 ≠ g + 1 + 1 + 1 from fun p hp => by rw [hL] at hp; simp at hp; rcases hp with rfl | rfl <;> simp <;> omega)
  have S0 := Lib.hid S0
  clear hL
  unfold lastP at LC
  generalize scs ia ib za zb m = sc at *
  generalize lastU ia ib ia.length = u at *
  obtain ⟨W0, hW0⟩ : ∃ W0, W0 = (((w.alloc (sdB (.slice Ai ia.length ki) (.slice Al za.length kl))).alloc (sdB (.slice Aj ib.length kj) (.slice Ak zb.length kk))).alloc (oSc 0 0)).alloc (oSc 0 0) := ⟨_, rfl⟩
  rw [← hW0] at S0 c0 c1 LC
  go_enter Tryd.func16, Tryd.ntmps16
  go_upto_region 1 with fail
  rw [← hg]
  clear hg
  generalize hW : World.alloc (World.alloc (World.alloc (World.alloc w _) _) _) _ = W1
  obtain rfl : W1 = W0 := by rw [← hW, hW0, ← oSc0]; kernel_rfl
  clear hW hW0
  rcases hcase with rfl | ⟨i, k, rfl, hi, hk⟩
  · have hr := Lib.hid (HR.out.trans (if_pos (by decide)))
    dsimp only at LC
    clear HR
    go_wp2_with fail
    refine LC.out.mono ?_
    rintro e w1 ⟨rfl, hb1⟩
    have S1 := Lib.hid (S0.out.keep hb1)
    have S2 := Lib.hid (S1.out.tail.put (c' := (scC 0 0).toArray) (by have := G.out; omega) (N2.out))
    have S3 := Lib.hid ((S2.out.add ((setRow_other _ _ _ _ (by omega)).trans S1.out.a0)).put (c' := (scC 0 0).toArray) (by have := G.out; omega) (by
      intro p hp
      rcases List.mem_cons.1 hp with rfl | hp
      · simp
      · exact N3.out p hp))
    have ST1 := Lib.hid (st_sc S1.out.a1 0 0)
    have ST2 := Lib.hid (st_sc ((setRow_other w1 (g + 1 + 1) (g + 1 + 1 + 1) (scC 0 0).toArray (by omega)).trans S1.out.a0) 0 0)
    clear hb1 LC c0 c1 S0
    go_wp2_with (first | (refine wpList_value (by rfl) (vSc 0 0) (build_S0 (by rfl)) ?_) | (refine wpList_st (by rfl) (.tmp 6) (.tmp 21) (by rfl) _ (by rfl) _ (by rfl) ST1.out ?_) | (refine wpList_st (by rfl) (.tmp 7) (.tmp 22) (by rfl) _ (by rfl) _ (by rfl) ST2.out ?_))
    exact bodyPost_ret (res_cell_cell_tmp 6 7 8 49 49 ⟨g + 1 + 1, 0, none⟩ ⟨g + 1 + 1 + 1, 0, none⟩ _ _ rfl rfl rfl (lvSc S3.out.a1) (lvSc S3.out.a0)) rfl ⟨by first | rfl | (rw [hr.out]; rfl), S3.out.2.mono (by rw [G.out]; exact Nat.le_refl _)⟩
  · have hr := HR.out.trans (if_neg (by omega))
    dsimp only at LC hr
    simp only [Int.toNat_natCast] at hr
    have B1 := Lib.hid (fun v wx (h : ZS wx v (za.drop (i + 1))) => best_calls v (za.drop (i + 1)) m wx h)
    have B2 := Lib.hid (fun v wx (h : ZS wx v (zb.drop (k + 1))) => best_calls v (zb.drop (k + 1)) m wx h)
    have R1 := Lib.hid (fun wx hx => sbehind_calls _ ia za i wx (HX.out wx hx).1 (by omega))
    have R2 := Lib.hid (fun wx hx => sbehind_calls _ ib zb k wx (HX.out wx hx).2 (by omega))
    generalize za.drop (i + 1) = xs at *
    generalize zb.drop (k + 1) = ys at *
    generalize bst xs m 256 = p at *
    generalize bst ys m 256 = q at *
    have hr := Lib.hid hr
    have t1 : decide ((i : Int) < 0) = false := decide_eq_false (by omega)
    clear HR
    go_wp2_with fail
    refine LC.out.mono ?_
    rintro e w1 ⟨rfl, hb1⟩
    have S1 := Lib.hid (S0.out.keep hb1)
    clear hb1 LC c0 c1 S0
    go_upto_region 4 with fail
    have S_W0 := S1.out.tail.tail.drew
    have A_W0 : (World.drew w1).heap[g + 1 + 1]? = some (oSc 0 0) := S1.out.a1
    have C_W0 : (World.drew w1).heap[g + 1 + 1 + 1]? = some (oSc 0 0) := S1.out.a0
    clear S1
    have hg0 := G.out
    refine wp_region_held_drew (S := SQ L w) (by kernel_rfl) S_W0 (fun hHeld => ?_)
    generalize World.drew w1 = W0 at *
    clear hHeld
    refine wpAnyH_take (i := 0) (oi := ⟨some 23, _, _, _, _, _⟩) (v := .agg #[.slice Ai ia.length ki, .slice Al za.length kl]) rfl (by kernel_rfl) (by kernel_rfl) (by kernel_rfl) (fun _ _ _ h => h) (yield_load (by rfl) (by rfl) (by rfl) (fun wx hx => ldS2 (Q0.out wx hx))) (by assumption) ?_
    try simp only [Act.put, List.setIfInBounds_toArray, List.set_cons_zero, List.set_cons_succ]
    refine wpAnyH_take (i := 1) (oi := ⟨some 24, _, _, _, _, _⟩) (v := .int .i64 (i : Int)) rfl (by kernel_rfl) (by kernel_rfl) (by kernel_rfl) (fun _ _ _ h => h) (Or.inl ⟨by rfl, by intro wx _; go_simp⟩) (by assumption) ?_
    try simp only [Act.put, List.setIfInBounds_toArray, List.set_cons_zero, List.set_cons_succ]
    refine wpAnyH_take (i := 3) (oi := ⟨some 26, _, _, _, _, _⟩) (v := .int .i64 m) rfl (by kernel_rfl) (by kernel_rfl) (by kernel_rfl) (fun _ _ _ h => h) (Or.inl ⟨by rfl, by intro wx _; go_simp⟩) (by assumption) ?_
    try simp only [Act.put, List.setIfInBounds_toArray, List.set_cons_zero, List.set_cons_succ]
    refine wpAnyH_take (i := 5) (oi := ⟨some 28, _, _, _, _, _⟩) (v := .agg #[.slice Aj ib.length kj, .slice Ak zb.length kk]) rfl (by kernel_rfl) (by kernel_rfl) (by kernel_rfl) (fun _ _ _ h => h) (yield_load (by rfl) (by rfl) (by rfl) (fun wx hx => ldS2 (Q1.out wx hx))) (by assumption) ?_
    try simp only [Act.put, List.setIfInBounds_toArray, List.set_cons_zero, List.set_cons_succ]
    refine wpAnyH_take (i := 6) (oi := ⟨some 29, _, _, _, _, _⟩) (v := .int .i64 (k : Int)) rfl (by kernel_rfl) (by kernel_rfl) (by kernel_rfl) (fun _ _ _ h => h) (Or.inl ⟨by rfl, by intro wx _; go_simp⟩) (by assumption) ?_
    try simp only [Act.put, List.setIfInBounds_toArray, List.set_cons_zero, List.set_cons_succ]
    refine wpAnyH_take (i := 8) (oi := ⟨some 31, _, _, _, _, _⟩) (v := .int .i64 m) rfl (by kernel_rfl) (by kernel_rfl) (by kernel_rfl) (fun _ _ _ h => h) (Or.inl ⟨by rfl, by intro wx _; go_simp⟩) (by assumption) ?_
    try simp only [Act.put, List.setIfInBounds_toArray, List.set_cons_zero, List.set_cons_succ]
    refine wpAnyH_ready (rs := [2]) (by kernel_rfl) (by simp) ?_
    refine AllReadyH.cons rfl (fun K hK => ?_) AllReadyH.nil
    · go_simp
      go_at_call 37
      refine (R1.out _ S_W0.2).mono ?_
      rintro r V1 ⟨x1, rfl, D_V1, hb1⟩
      have S_V1 := S_W0.keep hb1
      have A_V1 := (hb1.block _ (Array.getElem?_eq_some_iff.1 A_W0).1).trans A_W0
      have C_V1 := (hb1.block _ (Array.getElem?_eq_some_iff.1 C_W0).1).trans C_W0
      try dsimp only
      refine hK.out _ _ S_V1 (fun _ => ?_)
      clear hK K
      refine wpAnyH_ready (rs := [4]) (by kernel_rfl) (by simp) ?_
      refine AllReadyH.cons rfl (fun K hK => ?_) AllReadyH.nil
      · go_simp
        go_at_call 36
        refine (B1.out _ _ D_V1).mono ?_
        rintro r V2 ⟨rfl, hb2⟩
        have S_V2 := S_V1.keep hb2
        have A_V2 := (hb2.block _ (Array.getElem?_eq_some_iff.1 A_V1).1).trans A_V1
        have C_V2 := (hb2.block _ (Array.getElem?_eq_some_iff.1 C_V1).1).trans C_V1
        have D_V2 := trivial
        try dsimp only
        refine hK.out _ _ S_V2 (fun _ => ?_)
        clear hK K
        refine wpAnyH_ready (rs := [7]) (by kernel_rfl) (by simp) ?_
        refine AllReadyH.cons rfl (fun K hK => ?_) AllReadyH.nil
        · go_simp
          go_at_call 37
          refine (R2.out _ S_V2.2).mono ?_
          rintro r V3 ⟨x2, rfl, E_V3, hb3⟩
          have S_V3 := S_V2.keep hb3
          have A_V3 := (hb3.block _ (Array.getElem?_eq_some_iff.1 A_V2).1).trans A_V2
          have C_V3 := (hb3.block _ (Array.getElem?_eq_some_iff.1 C_V2).1).trans C_V2
          have D_V3 := trivial
          try dsimp only
          refine hK.out _ _ S_V3 (fun _ => ?_)
          clear hK K
          refine wpAnyH_ready (rs := [9]) (by kernel_rfl) (by simp) ?_
          refine AllReadyH.cons rfl (fun K hK => ?_) AllReadyH.nil
          · go_simp
            go_at_call 36
            refine (B2.out _ _ E_V3).mono ?_
            rintro r V4 ⟨rfl, hb4⟩
            have S_V4 := S_V3.keep hb4
            have A_V4 := (hb4.block _ (Array.getElem?_eq_some_iff.1 A_V3).1).trans A_V3
            have C_V4 := (hb4.block _ (Array.getElem?_eq_some_iff.1 C_V3).1).trans C_V3
            have D_V4 := trivial
            have E_V4 := trivial
            try dsimp only
            refine hK.out _ _ S_V4 (fun _ => ?_)
            clear hK K
            refine wpAnyH_ready (rs := [10]) (by kernel_rfl) (by simp) ?_
            refine AllReadyH.cons rfl (fun K hK => ?_) AllReadyH.nil
            · refine step_store rfl 49 _ _ rfl _ rfl (vSc p.1 p.2) rfl _ (run_storeAt_row (cells := (scC p.1 p.2).toArray) A_V4 (ISc _ _) (by rw [List.size_toArray, List.size_toArray, scC_len, scC_len]) (one_sc _ _)) ?_
              generalize hW5 : World.setRow V4 _ _ = V5
              have S_V5 := hW5 ▸ S_V4.row (by omega) N2.out
              have A_V5 := hW5 ▸ setRow_heap _ _ _ _ _ _ A_V4
              have C_V5 := hW5 ▸ (setRow_other _ _ _ _ (by omega)).trans C_V4
              have D_V5 := trivial
              have E_V5 := trivial
              try dsimp only
              refine hK.out _ _ S_V5 (fun _ => ?_)
              clear hK K
              refine wpAnyH_ready (rs := [11]) (by kernel_rfl) (by simp) ?_
              refine AllReadyH.cons rfl (fun K hK => ?_) AllReadyH.nil
              · refine step_store rfl 49 _ _ rfl _ rfl (vSc q.1 q.2) rfl _ (run_storeAt_row (cells := (scC q.1 q.2).toArray) C_V5 (ISc _ _) (by rw [List.size_toArray, List.size_toArray, scC_len, scC_len]) (one_sc _ _)) ?_
                generalize hW6 : World.setRow V5 _ _ = V6
                have S_V6 := hW6 ▸ S_V5.row (by omega) N3.out
                have A_V6 := hW6 ▸ (setRow_other _ _ _ _ (by omega)).trans A_V5
                have C_V6 := hW6 ▸ setRow_heap _ _ _ _ _ _ C_V5
                have D_V6 := trivial
                have E_V6 := trivial
                try dsimp only
                refine hK.out _ _ S_V6 (fun _ => ?_)
                clear hK K
                refine wpAnyH_take (i := 12) (oi := ⟨some 8, _, _, _, _, _⟩) (v := .bool true) rfl (by kernel_rfl) (by kernel_rfl) (by kernel_rfl) (fun _ _ _ h => h) (Or.inl ⟨by rfl, by intro wx _; go_simp⟩) (by assumption) ?_
                refine wpAnyH_done (by kernel_rfl) ?_ _
                go_wp2_with fail
                exact bodyPost_ret (res_cell_cell_tmp 6 7 8 49 49 ⟨g + 1 + 1, 0, none⟩ ⟨g + 1 + 1 + 1, 0, none⟩ _ _ rfl rfl rfl (lvSc A_V6) (lvSc C_V6)) rfl ⟨by first | rfl | (rw [hr.out]; rfl), S_V6.2.mono (by rw [G.out]; exact Nat.le_refl _)⟩
end Go.Proofs.YtihdeanfcbiflaaDoor.Wh
