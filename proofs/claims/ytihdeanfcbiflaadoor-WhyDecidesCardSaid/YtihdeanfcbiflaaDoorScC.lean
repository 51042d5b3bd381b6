/- The walk of chapter 41's Best. -/
import Derived.Test.YtihdeanfcbiflaaDoorScB
import Derived.Test.YtihdeanfcbiflaaDoorFill
namespace Go.Proofs.YtihdeanfcbiflaaDoor.Sc
open Go.RowKit Go.Proofs.YtihdeanfcbiflaaDoor.Mk Go.Proofs.YtihdeanfcbiflaaDoor.Ul Go.Proofs.YtihdeanfcbiflaaDoor.Wi Go.Proofs.YtihdeanfcbiflaaDoor.Lg Go.Proofs.YtihdeanfcbiflaaDoor.Up Go.Proofs.YtihdeanfcbiflaaDoor.R5
theorem oSc0 : (.cells #[.int .u64 0, .int .u64 0, .int .u64 0, .int .u64 0, .int .u64 0, .int .i64 0] 49 (0, 0) : Obj) = oSc 0 0 := by
  unfold oSc scC
  rw [lb_zero]
  rfl
theorem lvSc {w : World} {g V L : Nat} (h : w.heap[g]? = some (oSc V L)) : (loadVar 49 ⟨g, 0, none⟩).run Tryd.prog w = .ok (vSc V L) w := run_loadVar_row w g _ 49 _ _ _ h USc rfl (ISc V L)
theorem run_bS (V L : Nat) (w : World) : (Instr.build 49 #[(0, .agg (FC 5 (lb V)).toArray), (1, .int .i64 (L : Int))]).run Tryd.prog w = .ok (vSc V L) w := by
  obtain ⟨f, hf⟩ : ∃ f, f = lb V := ⟨_, rfl⟩
  unfold vSc scC
  rw [← hf]
  kernel_rfl
theorem scsz (V L : Nat) : (scC V L).toArray.size = 6 := by rw [List.size_toArray, scC_len]
set_option maxHeartbeats 8000000 in
set_option maxRecDepth 100000 in
theorem best_calls (v : Value) (zs : List Int) (m : Int) (w : World) (hz : ZS w v zs) :
    Calls Tryd.prog 36 #[v, .int .i64 m] w fun e w' => e = .returned (vSc (bst zs m 256).1 (bst zs m 256).2) ∧ Below w.heap.size w w' := by
  have hbd := hz.len1
  have HM := Lib.hid (fun l wx (hx : Below w.heap.size w wx) => may_calls v zs l m wx (hz.below hx))
  have HV := Lib.hid (fun l wx (hx : Below w.heap.size w wx) => value_calls v zs l wx (hz.below hx))
  have HB := Lib.hid (fun k => bst_lt m hbd k)
  have HW := Lib.hid (fun l => valS_lt l hbd)
  obtain ⟨A, cap, rfl, _⟩ := hz.cell1
  clear hz hbd
  have S0 := Lib.hid (SQ.new2 w (oSc 0 0) (oSc 0 0))
  go_enter Tryd.func36, Tryd.ntmps36
  go_wp2_with fail
  rw [oSc0]
  go_loopw [8] (fun s8 wr => ∃ k : Nat, k ≤ 256 ∧ s8 = .int .i64 k ∧ Hid (SQ [(w.heap.size + 1, oSc (bst zs m k).1 (bst zs m k).2), (w.heap.size, oSc 0 0)] w wr)) (fun s8 _ => 256 - (intOf s8).toNat)
  case atStart => exact ⟨0, by omega, rfl, S0⟩
  case round =>
    clear S0
    obtain ⟨k, hk, rfl, S⟩ := hrel
    by_cases hlt : k < 256
    · have hM := Lib.hid (fun wx (hx : Below w.heap.size w wx) => HM.out k wx hx)
      have hV := HV.out k wr S.out.2
      unfold UV at hV
      have hC := Lib.hid (fun wx => lcmp_calls (valS zs k) (bst zs m k).1 wx (HW.out k) (HB.out k))
      have eqs := eqSc (L := k) (L' := (bst zs m k).2) (HW.out k) (HB.out k)
      have eqg := eqScg (valS zs k) k (bst zs m k).1 (bst zs m k).2
      have hV := Lib.hid hV
      have Hbs := Lib.hid (run_bS (valS zs k) k)
      have Hy := Lib.hid (@bst_yes zs m k)
      have Hn := Lib.hid (@bst_no zs m k)
      clear HM HV HB HW
      cases he : eqS (valS zs k) k (bst zs m k).1 (bst zs m k).2 with
      | true =>
        have hq : valS zs k = (bst zs m k).1 := by
          unfold eqS at he
          simp only [Bool.and_eq_true, decide_eq_true_eq] at he
          exact he.1
        have hn := Lib.hid (Hn.out (fun h => by omega))
        rw [he] at eqs
        clear hC hM Hy Hn he hq
        generalize bst zs m k = bb at *
        generalize valS zs k = V at *
        go_wp2_with fail
        refine hV.out.mono ?_
        rintro e w2 ⟨rfl, hb2⟩
        have S2 := Lib.hid ((S.out.keep hb2).alloc (oSc V k))
        clear hb2 S
        dsimp only
        rename_i KK hKK
        refine hKK _ _ ?_
        clear hKK
        refine wpList_moveV (by rfl) (.tmp 6) (by rfl) (.int .i64 (k : Int)) (by rfl) ?_
        simp only [Act.put, List.setIfInBounds_toArray, List.set_cons_zero, List.set_cons_succ]
        refine wpList_buildV (by rfl) 49 _ (by rfl) _ (by go_simp) _ (Hbs.out _) ?_
        simp only [Act.put, List.setIfInBounds_toArray, List.set_cons_zero, List.set_cons_succ]
        go_wp2_with (first | (refine wpList_store_last rfl 49 _ _ rfl _ (scC V k).toArray rfl rfl (ISc _ _) (scsz _ _).symm (one_sc _ _) ?_) | (refine wpList_loadg (by rfl) 49 (.tmp 7) (by rfl) _ (by rfl) _ (ldSc S2.out.a0) ?_) | (refine wpList_loadg (by rfl) 49 (.tmp 5) (by rfl) _ (by rfl) _ (ldSc S2.out.a1) ?_))
        go_roundw
        case rel => exact ⟨k + 1, by omega, by go_num, by rw [hn.out]; exact Lib.hid S2.out.tail⟩
        case measure => simp [intOf] <;> omega
      | false =>
        rw [he] at eqs
        clear he
        cases hm : mayS zs k m with
        | false =>
          have hn := Lib.hid (Hn.out (fun h => by rw [hm] at h; exact absurd h.1 (by decide)))
          rw [hm] at hM
          clear hC Hy Hn hm
          generalize bst zs m k = bb at *
          generalize valS zs k = V at *
          go_wp2_with fail
          refine hV.out.mono ?_
          rintro e w2 ⟨rfl, hb2⟩
          have S2 := Lib.hid ((S.out.keep hb2).alloc (oSc V k))
          clear hb2 S
          dsimp only
          rename_i KK hKK
          refine hKK _ _ ?_
          clear hKK
          refine wpList_moveV (by rfl) (.tmp 6) (by rfl) (.int .i64 (k : Int)) (by rfl) ?_
          simp only [Act.put, List.setIfInBounds_toArray, List.set_cons_zero, List.set_cons_succ]
          refine wpList_buildV (by rfl) 49 _ (by rfl) _ (by go_simp) _ (Hbs.out _) ?_
          simp only [Act.put, List.setIfInBounds_toArray, List.set_cons_zero, List.set_cons_succ]
          go_wp2_with (first | (refine wpList_store_last rfl 49 _ _ rfl _ (scC V k).toArray rfl rfl (ISc _ _) (scsz _ _).symm (one_sc _ _) ?_) | (refine wpList_loadg (by rfl) 49 (.tmp 7) (by rfl) _ (by rfl) _ (ldSc S2.out.a0) ?_) | (refine wpList_loadg (by rfl) 49 (.tmp 5) (by rfl) _ (by rfl) _ (ldSc S2.out.a1) ?_))
          refine (hM.out _ S2.out.2).mono ?_
          rintro e w3 ⟨rfl, hb3⟩
          have S3 := Lib.hid (S2.out.keep hb3)
          clear hb3 S2
          go_wp2_with fail
          go_roundw
          case rel => exact ⟨k + 1, by omega, by go_num, by rw [hn.out]; exact Lib.hid S3.out.tail⟩
          case measure => simp [intOf] <;> omega
        | true =>
          rw [hm] at hM
          unfold UV at hC
          by_cases hg : (bst zs m k).1 < valS zs k
          · have hn := Lib.hid (Hy.out hm hg)
            have t1 := cmp_gt.2 hg
            clear Hy Hn hm hg
            generalize cmpI (valS zs k) (bst zs m k).1 = c at *
            generalize bst zs m k = bb at *
            generalize valS zs k = V at *
            go_wp2_with fail
            refine hV.out.mono ?_
            rintro e w2 ⟨rfl, hb2⟩
            have hlt2 : w.heap.size + 1 < w2.heap.size := Nat.lt_of_lt_of_le (Array.getElem?_eq_some_iff.1 S.out.a0).1 hb2.size
            have S2 := Lib.hid ((S.out.keep hb2).alloc (oSc V k))
            clear hb2 S
            dsimp only
            rename_i KK hKK
            refine hKK _ _ ?_
            clear hKK
            refine wpList_moveV (by rfl) (.tmp 6) (by rfl) (.int .i64 (k : Int)) (by rfl) ?_
            simp only [Act.put, List.setIfInBounds_toArray, List.set_cons_zero, List.set_cons_succ]
            refine wpList_buildV (by rfl) 49 _ (by rfl) _ (by go_simp) _ (Hbs.out _) ?_
            simp only [Act.put, List.setIfInBounds_toArray, List.set_cons_zero, List.set_cons_succ]
            go_wp2_with (first | (refine wpList_store_last rfl 49 _ _ rfl _ (scC V k).toArray rfl rfl (ISc _ _) (scsz _ _).symm (one_sc _ _) ?_) | (refine wpList_loadg (by rfl) 49 (.tmp 7) (by rfl) _ (by rfl) _ (ldSc S2.out.a0) ?_) | (refine wpList_loadg (by rfl) 49 (.tmp 5) (by rfl) _ (by rfl) _ (ldSc S2.out.a1) ?_))
            refine (hM.out _ S2.out.2).mono ?_
            rintro e w3 ⟨rfl, hb3⟩
            have S3 := Lib.hid (S2.out.keep hb3)
            clear hb3 S2
            go_wp2_with (first | (refine wpList_load_mid (by rfl) 26 (.tmp 26) (by rfl) (w2.heap.size) 0 (by rfl) (FC 5 (lb (V))) _ (sc_range S3.out.a0) UN5 rfl (by rw [FC_len]; kernel_rfl) ?_) | (refine wpList_load_mid (by rfl) 26 (.tmp 28) (by rfl) (w.heap.size + 1) 0 (by rfl) (FC 5 (lb (bb.1))) _ (sc_range S3.out.a1) UN5 rfl (by rw [FC_len]; kernel_rfl) ?_))
            refine (hC.out _).mono ?_
            rintro e w4 ⟨rfl, hb4⟩
            have S4 := Lib.hid (S3.out.keep hb4)
            clear hb4 S3
            have S5 := Lib.hid (S4.out.tail.put (c' := (scC V k).toArray) (by omega) (by intro p hp; simp at hp; rw [hp]; simp))
            go_wp2_with (first | (refine wpList_loadg (by rfl) 49 (.tmp 7) (by rfl) _ (by rfl) _ (ldSc S4.out.a0) ?_) | (refine wpList_store_row (by rfl) 49 _ _ rfl _ (scC V k).toArray rfl rfl _ _ S4.out.a1 (ISc _ _) (by rw [List.size_toArray, List.size_toArray, scC_len, scC_len]) (one_sc _ _) ?_))
            go_roundw
            case rel => exact ⟨k + 1, by omega, by go_num, by rw [hn.out]; exact S5⟩
            case measure => simp [intOf] <;> omega
          · have hn := Lib.hid (Hn.out (fun h => hg h.2))
            have t1 : decide (0 < cmpI (valS zs k) (bst zs m k).1) = false := decide_eq_false (fun h => hg (cmp_gt.1 h))
            clear Hy Hn hm hg
            generalize cmpI (valS zs k) (bst zs m k).1 = c at *
            generalize bst zs m k = bb at *
            generalize valS zs k = V at *
            go_wp2_with fail
            refine hV.out.mono ?_
            rintro e w2 ⟨rfl, hb2⟩
            have S2 := Lib.hid ((S.out.keep hb2).alloc (oSc V k))
            clear hb2 S
            dsimp only
            rename_i KK hKK
            refine hKK _ _ ?_
            clear hKK
            refine wpList_moveV (by rfl) (.tmp 6) (by rfl) (.int .i64 (k : Int)) (by rfl) ?_
            simp only [Act.put, List.setIfInBounds_toArray, List.set_cons_zero, List.set_cons_succ]
            refine wpList_buildV (by rfl) 49 _ (by rfl) _ (by go_simp) _ (Hbs.out _) ?_
            simp only [Act.put, List.setIfInBounds_toArray, List.set_cons_zero, List.set_cons_succ]
            go_wp2_with (first | (refine wpList_store_last rfl 49 _ _ rfl _ (scC V k).toArray rfl rfl (ISc _ _) (scsz _ _).symm (one_sc _ _) ?_) | (refine wpList_loadg (by rfl) 49 (.tmp 7) (by rfl) _ (by rfl) _ (ldSc S2.out.a0) ?_) | (refine wpList_loadg (by rfl) 49 (.tmp 5) (by rfl) _ (by rfl) _ (ldSc S2.out.a1) ?_))
            refine (hM.out _ S2.out.2).mono ?_
            rintro e w3 ⟨rfl, hb3⟩
            have S3 := Lib.hid (S2.out.keep hb3)
            clear hb3 S2
            go_wp2_with (first | (refine wpList_load_mid (by rfl) 26 (.tmp 26) (by rfl) (w2.heap.size) 0 (by rfl) (FC 5 (lb (V))) _ (sc_range S3.out.a0) UN5 rfl (by rw [FC_len]; kernel_rfl) ?_) | (refine wpList_load_mid (by rfl) 26 (.tmp 28) (by rfl) (w.heap.size + 1) 0 (by rfl) (FC 5 (lb (bb.1))) _ (sc_range S3.out.a1) UN5 rfl (by rw [FC_len]; kernel_rfl) ?_))
            refine (hC.out _).mono ?_
            rintro e w4 ⟨rfl, hb4⟩
            have S4 := Lib.hid (S3.out.keep hb4)
            clear hb4 S3
            go_wp2_with fail
            go_roundw
            case rel => exact ⟨k + 1, by omega, by go_num, by rw [hn.out]; exact Lib.hid S4.out.tail⟩
            case measure => simp [intOf] <;> omega
    · obtain rfl : k = 256 := by omega
      have S1 := Lib.hid (S.out.tail.put (c' := (scC (bst zs m 256).1 (bst zs m 256).2).toArray) (Nat.le_refl _) (by intro p hp; simp at hp))
      clear HM HV HB HW
      obtain ⟨bb, hbb⟩ : ∃ bb, bb = bst zs m 256 := ⟨_, rfl⟩
      rw [← hbb] at S S1
      have HBB := Lib.hid hbb
      clear hbb
      go_wp2_with (first | (refine wpList_loadg (by rfl) 49 (.tmp 5) (by rfl) _ (by rfl) _ (ldSc S.out.a0) ?_) | (refine wpList_store_row (by rfl) 49 _ _ rfl _ (scC bb.1 bb.2).toArray rfl rfl _ _ S.out.a1 (ISc _ _) (by rw [List.size_toArray, List.size_toArray, scC_len, scC_len]) (one_sc _ _) ?_))
      exact bodyPost_ret (results_cell 4 49 ⟨w.heap.size, 0, none⟩ _ rfl rfl (lvSc S1.out.a0)) rfl ⟨by rw [HBB.out], S1.out.2⟩
end Go.Proofs.YtihdeanfcbiflaaDoor.Sc
