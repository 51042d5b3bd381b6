/- The walks of openings: None, and both Mays. -/
import Derived.Test.YtgdlhcopgfgmaaaOpS
namespace Go.Proofs.Ytgdlhcopgfgmaaa.Op
open Go.RowKit Go.Proofs.Ytgdlhcopgfgmaaa.Mk
open Go.Proofs.Ytgdlhcopgfgmaaa.Cur (UH UB IHl IHa eqH neH heap_new1 heap_new2 below2)
open Go.Proofs.Ytgdlhcopgfgmaaa.Shape (depthI depth_calls rdepth_calls)
open Extern.Stop (cell)
def op0 : Opn := ⟨0, 0, []⟩
theorem ov0 (w : World) : OV w (.agg #[.int .i64 0, .int .i64 0, .slice none 0 0]) op0 := ⟨_, rfl, SL.nil _ _ _⟩
def noneO (o : Opn) : Bool := sameO o op0
theorem noneO_iff (o : Opn) : noneO o = true ↔ o.i = 0 ∧ o.c = 0 ∧ o.p = [] := by
  simp [noneO, sameO, op0]
set_option maxHeartbeats 4000000 in
set_option maxRecDepth 100000 in
theorem none_calls (o : Opn) (v : Value) (w : World) (h : OV w v o) :
    Calls Try.prog 65 #[v] w fun e w' => e = .returned (.bool (noneO o)) ∧ Below w.heap.size w w' := by
  obtain ⟨sv, rfl, hs⟩ := h
  have hB : Below w.heap.size w (w.alloc (.cells (oc o.i o.c sv) 64)) := (Below.refl _ _).alloc (Nat.le_refl _) _
  have HS := Lib.hid (same_calls o op0 (.agg (oc o.i o.c sv)) (.agg #[.int .i64 0, .int .i64 0, .slice none 0 0]) (w.alloc (.cells (oc o.i o.c sv) 64)) ⟨sv, rfl, hs.below hB⟩ (ov0 _))
  have HB := Lib.hid hB
  unfold noneO
  generalize sameO o op0 = q at *
  clear hs hB
  unfold oc at *
  go_enter Try.func65, Try.ntmps65
  go_wp2_with fail
  refine HS.out.mono ?_
  rintro e w2 ⟨rfl, hb2⟩
  have hfin := Lib.hid (HB.out.trans (hb2.mono HB.out.size))
  clear hb2
  go_wp2_with fail
  go_ret
  exact ⟨rfl, hfin.out⟩
/-- what is wrong with an opening's form -/
def mayI (o : Opn) : Int := if o.c < 1 ∨ 1048576 < o.c ∨ o.i < 0 ∨ o.c ≤ o.i then 3 else if (o.p.length : Int) ≠ depthI o.c o.i then 2 else 0
theorem ret_i {k : IntKind} {a b : Int} (h : a = b) : Ending.returned (.int k a) = .returned (.int k b) := by rw [h]
set_option maxHeartbeats 4000000 in
set_option maxRecDepth 100000 in
theorem may_calls (o : Opn) (v : Value) (w : World) (h : OV w v o) (hi : o.i ≤ 9223372036854775807) (hi0 : -9223372036854775808 ≤ o.i) :
    Calls Try.prog 67 #[v] w fun e w' => e = .returned (.int .i64 (mayI o)) ∧ Below w.heap.size w w' := by
  obtain ⟨sv, rfl, hs⟩ := h
  obtain ⟨i, c, p⟩ := o
  simp only at hs hi hi0 ⊢
  obtain ⟨_, hbd, A, cap, rfl, hlc, hcm, _⟩ := hs
  have hB : Below w.heap.size w (w.alloc (.cells (oc i c (.slice A p.length cap)) 64)) := (Below.refl _ _).alloc (Nat.le_refl _) _
  have Z := heap_new w (.cells (oc i c (.slice A p.length cap)) 64)
  have HB := Lib.hid hB
  have hm : mayI ⟨i, c, p⟩ = if c < 1 ∨ 1048576 < c ∨ i < 0 ∨ c ≤ i then 3 else if (p.length : Int) ≠ depthI c i then 2 else 0 := rfl
  by_cases hbad : c < 1 ∨ 1048576 < c ∨ i < 0 ∨ c ≤ i
  · rw [hm, if_pos hbad]
    clear hm Z hB
    unfold oc at *
    go_enter Try.func67, Try.ntmps67
    by_cases h1 : c < 1
    · clear hbad
      go_wp2_with fail
      go_ret
      exact ⟨rfl, HB.out⟩
    by_cases h2 : 1048576 < c
    · clear hbad
      go_wp2_with fail
      go_ret
      exact ⟨rfl, HB.out⟩
    by_cases h3 : i < 0
    · clear hbad
      go_wp2_with fail
      go_ret
      exact ⟨rfl, HB.out⟩
    · have h4 : c ≤ i := by omega
      clear hbad
      go_wp2_with fail
      go_ret
      exact ⟨rfl, HB.out⟩
  · rw [if_neg hbad] at hm
    have h1 : ¬ c < 1 := by omega
    have h2 : ¬ 1048576 < c := by omega
    have h3 : ¬ i < 0 := by omega
    have h4 : ¬ c ≤ i := by omega
    have HD := Lib.hid (fun w => depth_calls c i w (by omega) (by omega) hi hi0)
    have Hm := Lib.hid hm
    generalize depthI c i = d at *
    have L1 := Lib.hid (show ∀ wx, Below (w.alloc (.cells (oc i c (.slice A p.length cap)) 64)).heap.size (w.alloc (.cells (oc i c (.slice A p.length cap)) 64)) wx → (Instr.loadAt 62 (.pointer (some ⟨w.heap.size, 2, none⟩))).run Try.prog wx = .ok (.slice A p.length cap) wx from fun wx hbx =>
      run_load_hs (by rw [cell_of_row _ _ _ _ _ _ ((hbx.block _ (by simp)).trans Z)]; rfl))
    have L2 := Lib.hid (show ∀ wx, Below (w.alloc (.cells (oc i c (.slice A p.length cap)) 64)).heap.size (w.alloc (.cells (oc i c (.slice A p.length cap)) 64)) wx → (Instr.loadAt 3 (.pointer (some ⟨w.heap.size, 1, none⟩))).run Try.prog wx = .ok (.int .i64 c) wx from fun wx hbx =>
      run_load_i (by rw [cell_of_row _ _ _ _ _ _ ((hbx.block _ (by simp)).trans Z)]; rfl))
    have L3 := Lib.hid (show ∀ wx, Below (w.alloc (.cells (oc i c (.slice A p.length cap)) 64)).heap.size (w.alloc (.cells (oc i c (.slice A p.length cap)) 64)) wx → (Instr.loadAt 3 (.pointer (some ⟨w.heap.size, 0, none⟩))).run Try.prog wx = .ok (.int .i64 i) wx from fun wx hbx =>
      run_load_i (by rw [cell_of_row _ _ _ _ _ _ ((hbx.block _ (by simp)).trans Z)]; rfl))
    clear hm Z hB hbad
    unfold oc at *
    go_enter Try.func67, Try.ntmps67
    by_cases hd : (p.length : Int) = d
    · have t1 : ((p.length : Int) != d) = false := by simpa using hd
      have Hm2 := Lib.hid (Hm.out.trans (if_neg (by simpa using hd)))
      clear hd Hm
      go_wp2_with fail
      generalize w.alloc (.cells #[.int .i64 i, .int .i64 c, .slice A p.length cap] 64) = W at *
      refine wp_region_quiet_below (by kernel_rfl) (by kernel_rfl) ?_
      repeat (first | (refine wpQuiet_load rfl 62 _ rfl _ rfl _ (rg_fact L1.out) ?_) | (refine wpQuiet_load rfl 3 _ rfl _ rfl _ (rg_fact L2.out) ?_) | (refine wpQuiet_load rfl 3 _ rfl _ rfl _ (rg_fact L3.out) ?_) | ((refine wpQuiet_call rfl _ _ ?_ _ (rg_of (fun wx _ => HD.out wx)) ?_); focus (intro wx; go_simp; done)) | go_big_quiet_step (fail) | quiet_step (fail))
      refine wpQuiet_nil ?_
      rintro _ ⟨rp, rfl⟩
      have hb2 := below_regrown W rp.d rp.os
      generalize Sort.grow (redrawn W rp.d) rp.os = w2 at *
      have hfin := Lib.hid (HB.out.trans (hb2.mono HB.out.size))
      clear hb2
      go_wp2_with fail
      go_ret
      exact ⟨ret_i (by rw [Hm2.out]), hfin.out⟩
    · have t1 : ((p.length : Int) != d) = true := by simpa using hd
      have Hm2 := Lib.hid (Hm.out.trans (if_pos (by simpa using hd)))
      clear hd Hm
      go_wp2_with fail
      generalize w.alloc (.cells #[.int .i64 i, .int .i64 c, .slice A p.length cap] 64) = W at *
      refine wp_region_quiet_below (by kernel_rfl) (by kernel_rfl) ?_
      repeat (first | (refine wpQuiet_load rfl 62 _ rfl _ rfl _ (rg_fact L1.out) ?_) | (refine wpQuiet_load rfl 3 _ rfl _ rfl _ (rg_fact L2.out) ?_) | (refine wpQuiet_load rfl 3 _ rfl _ rfl _ (rg_fact L3.out) ?_) | ((refine wpQuiet_call rfl _ _ ?_ _ (rg_of (fun wx _ => HD.out wx)) ?_); focus (intro wx; go_simp; done)) | go_big_quiet_step (fail) | quiet_step (fail))
      refine wpQuiet_nil ?_
      rintro _ ⟨rp, rfl⟩
      have hb2 := below_regrown W rp.d rp.os
      generalize Sort.grow (redrawn W rp.d) rp.os = w2 at *
      have hfin := Lib.hid (HB.out.trans (hb2.mono HB.out.size))
      clear hb2
      go_wp2_with fail
      go_ret
      exact ⟨ret_i (by rw [Hm2.out]), hfin.out⟩
set_option maxHeartbeats 4000000 in
set_option maxRecDepth 100000 in
theorem rmay_calls (o : Opn) (v : Value) (w : World) (h : OV w v o) (hi : o.i ≤ 9223372036854775807) (hi0 : -9223372036854775808 ≤ o.i) :
    Calls Try.prog 70 #[v] w fun e w' => e = .returned (.int .i64 (mayI o)) ∧ Below w.heap.size w w' := by
  obtain ⟨sv, rfl, hs⟩ := h
  obtain ⟨i, c, p⟩ := o
  simp only at hs hi hi0 ⊢
  obtain ⟨_, hbd, A, cap, rfl, hlc, hcm, _⟩ := hs
  have hB : Below w.heap.size w (w.alloc (.cells (oc i c (.slice A p.length cap)) 64)) := (Below.refl _ _).alloc (Nat.le_refl _) _
  have Z := heap_new w (.cells (oc i c (.slice A p.length cap)) 64)
  have HB := Lib.hid hB
  have hm : mayI ⟨i, c, p⟩ = if c < 1 ∨ 1048576 < c ∨ i < 0 ∨ c ≤ i then 3 else if (p.length : Int) ≠ depthI c i then 2 else 0 := rfl
  by_cases hbad : c < 1 ∨ 1048576 < c ∨ i < 0 ∨ c ≤ i
  · rw [hm, if_pos hbad]
    clear hm Z hB
    unfold oc at *
    go_enter Try.func70, Try.ntmps70
    by_cases h1 : c < 1
    · clear hbad
      go_wp2_with fail
      go_ret
      exact ⟨rfl, HB.out⟩
    by_cases h2 : 1048576 < c
    · clear hbad
      go_wp2_with fail
      go_ret
      exact ⟨rfl, HB.out⟩
    by_cases h3 : i < 0
    · clear hbad
      go_wp2_with fail
      go_ret
      exact ⟨rfl, HB.out⟩
    · have h4 : c ≤ i := by omega
      clear hbad
      go_wp2_with fail
      go_ret
      exact ⟨rfl, HB.out⟩
  · rw [if_neg hbad] at hm
    have h1 : ¬ c < 1 := by omega
    have h2 : ¬ 1048576 < c := by omega
    have h3 : ¬ i < 0 := by omega
    have h4 : ¬ c ≤ i := by omega
    have HD := Lib.hid (fun w => rdepth_calls c i w (by omega) (by omega) hi hi0)
    have Hm := Lib.hid hm
    generalize depthI c i = d at *
    have L1 := Lib.hid (show ∀ wx, Below (w.alloc (.cells (oc i c (.slice A p.length cap)) 64)).heap.size (w.alloc (.cells (oc i c (.slice A p.length cap)) 64)) wx → (Instr.loadAt 62 (.pointer (some ⟨w.heap.size, 2, none⟩))).run Try.prog wx = .ok (.slice A p.length cap) wx from fun wx hbx =>
      run_load_hs (by rw [cell_of_row _ _ _ _ _ _ ((hbx.block _ (by simp)).trans Z)]; rfl))
    have L2 := Lib.hid (show ∀ wx, Below (w.alloc (.cells (oc i c (.slice A p.length cap)) 64)).heap.size (w.alloc (.cells (oc i c (.slice A p.length cap)) 64)) wx → (Instr.loadAt 3 (.pointer (some ⟨w.heap.size, 1, none⟩))).run Try.prog wx = .ok (.int .i64 c) wx from fun wx hbx =>
      run_load_i (by rw [cell_of_row _ _ _ _ _ _ ((hbx.block _ (by simp)).trans Z)]; rfl))
    have L3 := Lib.hid (show ∀ wx, Below (w.alloc (.cells (oc i c (.slice A p.length cap)) 64)).heap.size (w.alloc (.cells (oc i c (.slice A p.length cap)) 64)) wx → (Instr.loadAt 3 (.pointer (some ⟨w.heap.size, 0, none⟩))).run Try.prog wx = .ok (.int .i64 i) wx from fun wx hbx =>
      run_load_i (by rw [cell_of_row _ _ _ _ _ _ ((hbx.block _ (by simp)).trans Z)]; rfl))
    clear hm Z hB hbad
    unfold oc at *
    go_enter Try.func70, Try.ntmps70
    by_cases hd : (p.length : Int) = d
    · have t1 : ((p.length : Int) != d) = false := by simpa using hd
      have Hm2 := Lib.hid (Hm.out.trans (if_neg (by simpa using hd)))
      clear hd Hm
      go_wp2_with fail
      generalize w.alloc (.cells #[.int .i64 i, .int .i64 c, .slice A p.length cap] 64) = W at *
      refine wp_region_quiet_below (by kernel_rfl) (by kernel_rfl) ?_
      repeat (first | (refine wpQuiet_load rfl 62 _ rfl _ rfl _ (rg_fact L1.out) ?_) | (refine wpQuiet_load rfl 3 _ rfl _ rfl _ (rg_fact L2.out) ?_) | (refine wpQuiet_load rfl 3 _ rfl _ rfl _ (rg_fact L3.out) ?_) | ((refine wpQuiet_call rfl _ _ ?_ _ (rg_of (fun wx _ => HD.out wx)) ?_); focus (intro wx; go_simp; done)) | go_big_quiet_step (fail) | quiet_step (fail))
      refine wpQuiet_nil ?_
      rintro _ ⟨rp, rfl⟩
      have hb2 := below_regrown W rp.d rp.os
      generalize Sort.grow (redrawn W rp.d) rp.os = w2 at *
      have hfin := Lib.hid (HB.out.trans (hb2.mono HB.out.size))
      clear hb2
      go_wp2_with fail
      go_ret
      exact ⟨ret_i (by rw [Hm2.out]), hfin.out⟩
    · have t1 : ((p.length : Int) != d) = true := by simpa using hd
      have Hm2 := Lib.hid (Hm.out.trans (if_pos (by simpa using hd)))
      clear hd Hm
      go_wp2_with fail
      generalize w.alloc (.cells #[.int .i64 i, .int .i64 c, .slice A p.length cap] 64) = W at *
      refine wp_region_quiet_below (by kernel_rfl) (by kernel_rfl) ?_
      repeat (first | (refine wpQuiet_load rfl 62 _ rfl _ rfl _ (rg_fact L1.out) ?_) | (refine wpQuiet_load rfl 3 _ rfl _ rfl _ (rg_fact L2.out) ?_) | (refine wpQuiet_load rfl 3 _ rfl _ rfl _ (rg_fact L3.out) ?_) | ((refine wpQuiet_call rfl _ _ ?_ _ (rg_of (fun wx _ => HD.out wx)) ?_); focus (intro wx; go_simp; done)) | go_big_quiet_step (fail) | quiet_step (fail))
      refine wpQuiet_nil ?_
      rintro _ ⟨rp, rfl⟩
      have hb2 := below_regrown W rp.d rp.os
      generalize Sort.grow (redrawn W rp.d) rp.os = w2 at *
      have hfin := Lib.hid (HB.out.trans (hb2.mono HB.out.size))
      clear hb2
      go_wp2_with fail
      go_ret
      exact ⟨ret_i (by rw [Hm2.out]), hfin.out⟩
end Go.Proofs.Ytgdlhcopgfgmaaa.Op
