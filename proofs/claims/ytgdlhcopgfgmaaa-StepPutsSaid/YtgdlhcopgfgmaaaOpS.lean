/- The walks of openings: the program's Same and None, and both Mays. -/
import Derived.Test.YtgdlhcopgfgmaaaOp
namespace Go.Proofs.Ytgdlhcopgfgmaaa.Op
open Go.RowKit Go.Proofs.Ytgdlhcopgfgmaaa.Mk
open Go.Proofs.Ytgdlhcopgfgmaaa.Cur (UH UB IHl IHa eqH neH heap_new1 heap_new2 below2)
open Extern.Stop (cell)
set_option maxHeartbeats 8000000 in
set_option maxRecDepth 100000 in
theorem same_calls (a b : Opn) (va vb : Value) (w : World) (ha : OV w va a) (hb : OV w vb b) :
    Calls Try.prog 71 #[va, vb] w fun e w' => e = .returned (.bool (sameO a b)) ∧ Below w.heap.size w w' := by
  obtain ⟨sa, rfl, hsa⟩ := ha
  obtain ⟨sb, rfl, hsb⟩ := hb
  obtain ⟨ai, ac, ap⟩ := a
  obtain ⟨bi, bc, bp⟩ := b
  unfold sameO
  simp only at hsa hsb ⊢
  have hB := below2 w (.cells (oc ai ac sa) 64) (.cells (oc bi bc sb) 64)
  have Z0 := heap_new1 w (.cells (oc ai ac sa) 64) (.cells (oc bi bc sb) 64)
  have Z1 := heap_new2 w (.cells (oc ai ac sa) 64) (.cells (oc bi bc sb) 64)
  have hsa2 := hsa.below hB
  have hsb2 := hsb.below hB
  clear hsa hsb
  obtain ⟨hlen, hbd, A, c, rfl, hlc, hcm, hrd⟩ := hsa2
  obtain ⟨hlenb, hbdb, B, cb, rfl, hlcb, hcmb, hrdb⟩ := hsb2
  have HB := Lib.hid hB
  go_enter Try.func71, Try.ntmps71
  by_cases h1 : ai = bi
  · have t1 : (ai == bi) = true := by simpa using h1
    have s1 : (ai != bi) = false := by simpa using h1
    by_cases h2 : ac = bc
    · have t2 : (ac == bc) = true := by simpa using h2
      have s2 : (ac != bc) = false := by simpa using h2
      have E12 := Lib.hid (show ∀ q, (((ai == bi) && ((ac == bc) && q)) : Bool) = q from fun q => by rw [t1, t2]; simp)
      clear h1 h2 t1 t2
      by_cases hne : ap.length = bp.length
      · have hq : ((ap.length : Int) != (bp.length : Int)) = false := by simp [hne]
        have hle : ap.length ≤ bp.length := by omega
        have hle2 : bp.length ≤ ap.length := by omega
        have Z0' := Lib.hid Z0
        have Z1' := Lib.hid Z1
        have Hlen := Lib.hid hlen
        have Hlenb := Lib.hid hlenb
        have Hrd := Lib.hid hrd
        have Hrdb := Lib.hid hrdb
        clear hne Z0 Z1 hB hlen hlenb hrd hrdb
        unfold oc at *
        go_wp2_with fail
        generalize (w.alloc (.cells #[.int .i64 ai, .int .i64 ac, .slice A ap.length c] 64)).alloc (.cells #[.int .i64 bi, .int .i64 bc, .slice B bp.length cb] 64) = W0 at *
        go_loopw [30] (fun s30 wr => ∃ k : Nat, k ≤ ap.length ∧ s30 = .int .i64 k ∧ Hid (ap.take k = bp.take k) ∧ Below W0.heap.size W0 wr) (fun i _ => ap.length - (intOf i).toNat)
        case atStart => exact ⟨0, Nat.zero_le _, rfl, Lib.hid rfl, Below.refl _ _⟩
        case round =>
          obtain ⟨k, hk, rfl, hf, hbw⟩ := hrel
          by_cases hlt : k < ap.length
          · obtain ⟨b1, o1, rfl, hr1⟩ := Hrd.out (by omega)
            obtain ⟨b2, o2, rfl, hr2⟩ := Hrdb.out (by omega)
            have hltb : k < bp.length := by omega
            have hr3 := range_below (hr1 k ap[k] (by simp)) hbw
            have hr4 := range_below (hr2 k bp[k] (by simp)) hbw
            have hl1 : ap[k].length = 32 := by rw [← hc_len]; exact Hlen.out ap[k] (by simp)
            have hl2 : bp[k].length = 32 := by rw [← hc_len]; exact Hlenb.out bp[k] (by simp)
            have hst : Hid ((ap[k] == bp[k]) = true → ap.take (k + 1) = bp.take (k + 1)) := Lib.hid fun h => by
              rw [List.take_succ_eq_append_getElem hlt, List.take_succ_eq_append_getElem hltb, hf.out, eq_of_beq h]
            have hno : Hid ((ap[k] == bp[k]) = false → (ap == bp) = false) := Lib.hid fun h => by
              rw [beq_eq_false_iff_ne] at h ⊢
              rintro rfl
              exact h rfl
            have hz0 := (hbw.block _ (Array.getElem?_eq_some_iff.1 Z0'.out).1).trans Z0'.out
            have hz1 := (hbw.block _ (Array.getElem?_eq_some_iff.1 Z1'.out).1).trans Z1'.out
            clear hr1 hr2
            generalize ap[k] = x at *
            generalize bp[k] = y at *
            have e1 := neH hl1 hl2
            have L1 : ∀ wx, Below wr.heap.size wr wx → (Instr.loadAt 24 (.pointer (some ⟨b1, o1 + k * 32, none⟩))).run Try.prog wx = .ok (.agg (hc x).toArray) wx := fun wx hbx =>
              run_loadAt_mid wx b1 _ 24 (hc x) _ (range_below hr3 hbx) UH rfl (IHl hl1)
            have L2 : ∀ wx, Below wr.heap.size wr wx → (Instr.loadAt 24 (.pointer (some ⟨b2, o2 + k * 32, none⟩))).run Try.prog wx = .ok (.agg (hc y).toArray) wx := fun wx hbx =>
              run_loadAt_mid wx b2 _ 24 (hc y) _ (range_below hr4 hbx) UH rfl (IHl hl2)
            have L3 : ∀ wx, Below wr.heap.size wr wx → (Instr.loadAt 62 (.pointer (some ⟨w.heap.size, 2, none⟩))).run Try.prog wx = .ok (.slice (some ⟨b1, o1, none⟩) ap.length c) wx := fun wx hbx =>
              run_load_hs (by rw [cell_of_row _ _ _ _ _ _ ((hbx.block _ (Array.getElem?_eq_some_iff.1 hz0).1).trans hz0)]; rfl)
            have L4 : ∀ wx, Below wr.heap.size wr wx → (Instr.loadAt 62 (.pointer (some ⟨w.heap.size + 1, 2, none⟩))).run Try.prog wx = .ok (.slice (some ⟨b2, o2, none⟩) bp.length cb) wx := fun wx hbx =>
              run_load_hs (by rw [cell_of_row _ _ _ _ _ _ ((hbx.block _ (Array.getElem?_eq_some_iff.1 hz1).1).trans hz1)]; rfl)
            clear hr3 hr4 hl1 hl2 hz0 hz1
            cases hbe : (x == y)
            all_goals
              have H3 := Lib.hid hbe
              rw [hbe] at e1
              clear hbe
              go_wp2_with fail
              refine wp_region_quiet_below (by kernel_rfl) (by kernel_rfl) ?_
              repeat (first | (refine wpQuiet_load rfl 24 _ rfl _ rfl _ (rg_fact L1) ?_) | (refine wpQuiet_load rfl 24 _ rfl _ rfl _ (rg_fact L2) ?_) | (refine wpQuiet_load rfl 62 _ rfl _ rfl _ (rg_fact L3) ?_) | (refine wpQuiet_load rfl 62 _ rfl _ rfl _ (rg_fact L4) ?_) | go_big_quiet_step (fail) | quiet_step (fail))
              refine wpQuiet_nil ?_
              rintro _ ⟨rp, rfl⟩
              have hb2 := below_regrown wr rp.d rp.os
              generalize Sort.grow (redrawn wr rp.d) rp.os = w2 at *
              clear L1 L2 L3 L4
              go_wp2_with fail
            · go_ret
              exact ⟨ret_bool (by rw [E12.out, hno.out H3.out]), HB.out.trans ((below_up hbw hb2).mono HB.out.size)⟩
            · go_roundw
              case rel => exact ⟨k + 1, by omega, by go_num, Lib.hid (hst.out H3.out), below_up hbw hb2⟩
              case measure => simp [intOf] <;> omega
          · have hfin : (ap == bp) = true := by
              have h1 := hf.out
              rw [List.take_of_length_le (by omega), List.take_of_length_le (by omega)] at h1
              rw [h1]
              exact beq_self_eq_true bp
            have Hfin := Lib.hid hfin
            clear hfin
            go_wp2_with fail
            go_ret
            exact ⟨ret_bool (by rw [E12.out, Hfin.out]), HB.out.trans (hbw.mono HB.out.size)⟩
      · have hq : ((ap.length : Int) != (bp.length : Int)) = true := by simp; omega
        have hfin : (ap == bp) = false := by
          rw [beq_eq_false_iff_ne]
          rintro rfl
          exact hne rfl
        have Hfin := Lib.hid hfin
        clear hfin hne hlen hlenb hrd hrdb Z0 Z1 hB
        unfold oc at *
        go_wp2_with fail
        go_ret
        exact ⟨ret_bool (by rw [E12.out, Hfin.out]), HB.out⟩
    · have t2 : (ac == bc) = false := by simpa using h2
      have s2 : (ac != bc) = true := by simpa using h2
      clear h1 h2 hlen hlenb hrd hrdb Z0 Z1 hB
      unfold oc at *
      go_wp2_with fail
      go_ret
      exact ⟨ret_bool (by rw [t1, t2]; simp), HB.out⟩
  · have t1 : (ai == bi) = false := by simpa using h1
    have s1 : (ai != bi) = true := by simpa using h1
    clear h1 hlen hlenb hrd hrdb Z0 Z1 hB
    unfold oc at *
    go_wp2_with fail
    go_ret
    exact ⟨ret_bool (by rw [t1]; simp), HB.out⟩
end Go.Proofs.Ytgdlhcopgfgmaaa.Op
