/- The walks at a cursor that is not there, and of chapter 8's law CurNone. -/
import Derived.Test.YtgdlhcopgfgmaaaCurL
import Derived.Test.YtgdlhcopgfgmaaaStepG
namespace Go.Proofs.Ytgdlhcopgfgmaaa.Cur
open Go.RowKit Go.Proofs.Ytgdlhcopgfgmaaa.Mk
set_option maxHeartbeats 1000000 in
theorem nbyte_calls (w : World) : Calls Try.prog 29 #[.pointer none] w fun r w' => r = .returned (.int .u8 0) ∧ w' = w := by
  go_enter Try.func29, Try.ntmps29
  go_wp2_with fail
  go_ret
  exact ⟨rfl, rfl⟩
set_option maxHeartbeats 1000000 in
theorem nleft_calls (w : World) : Calls Try.prog 21 #[.pointer none] w fun r w' => r = .returned (.int .i64 0) ∧ w' = w := by
  go_enter Try.func21, Try.ntmps21
  go_wp2_with fail
  go_ret
  exact ⟨rfl, rfl⟩
set_option maxHeartbeats 1000000 in
theorem nerr_calls (w : World) : Calls Try.prog 22 #[.pointer none] w fun r w' => r = .returned (.int .i64 6) ∧ w' = w := by
  go_enter Try.func22, Try.ntmps22
  go_wp2_with fail
  go_ret
  exact ⟨rfl, rfl⟩
set_option maxHeartbeats 1000000 in
theorem nfail_calls (e : Int) (w : World) : Calls Try.prog 28 #[.pointer none, .int .i64 e] w fun r w' => r = .returned (.tuple #[]) ∧ w' = w := by
  go_enter Try.func28, Try.ntmps28
  go_wp2_with fail
  go_end0
  exact ⟨rfl, rfl⟩
set_option maxHeartbeats 1000000 in
theorem nnum_calls (m : Int) (w : World) : Calls Try.prog 30 #[.pointer none, .int .u64 m] w fun r w' => r = .returned (.int .u64 0) ∧ w' = w := by
  go_enter Try.func30, Try.ntmps30
  go_wp2_with fail
  go_ret
  exact ⟨rfl, rfl⟩
set_option maxHeartbeats 1000000 in
theorem nraw_calls (n : Int) (w : World) : Calls Try.prog 24 #[.pointer none, .int .i64 n] w fun r w' => r = .returned (.string ⟨#[]⟩) ∧ w' = w := by
  go_enter Try.func24, Try.ntmps24
  go_wp2_with fail
  go_ret
  exact ⟨rfl, rfl⟩
set_option maxHeartbeats 1000000 in
theorem ntext_calls (n : Int) (w : World) : Calls Try.prog 31 #[.pointer none, .int .i64 n] w fun r w' => r = .returned (.string ⟨#[]⟩) ∧ w' = w := by
  go_enter Try.func31, Try.ntmps31
  go_wp2_with fail
  go_ret
  exact ⟨rfl, rfl⟩
set_option maxHeartbeats 1000000 in
theorem ndone_calls (w : World) : Calls Try.prog 26 #[.pointer none] w fun r w' => r = .returned (.int .i64 6) ∧ w' = w := by
  go_enter Try.func26, Try.ntmps26
  go_wp2_with fail
  refine (nerr_calls _).mono ?_
  rintro r w1 ⟨rfl, rfl⟩
  go_wp2_with fail
  refine (nerr_calls _).mono ?_
  rintro r w1 ⟨rfl, rfl⟩
  go_wp2_with fail
  go_ret
  exact ⟨rfl, rfl⟩
def zH : List UInt8 := List.replicate 32 0
set_option maxHeartbeats 4000000 in
set_option maxRecDepth 100000 in
theorem nhash_calls (w : World) :
    Calls Try.prog 27 #[.pointer none] w fun r w' => r = .returned (.agg (hc zH).toArray) ∧ Below w.heap.size w w' := by
  have i3 := IHa (show zH.length = 32 from by simp [zH])
  go_enter Try.func27, Try.ntmps27
  go_wp2_with fail
  generalize hW : World.alloc (World.alloc w _) _ = W0
  have z0 : W0.heap[w.heap.size]? = some (.cells (hc zH).toArray 24 (0, 0)) := by
    rw [← hW]
    exact (Below.heap_alloc _ _ _ (by simp)).trans (heap_new w _)
  have z1 : W0.heap[w.heap.size + 1]? = some (.cells (hc zH).toArray 24 (0, 0)) := by
    rw [← hW]
    have := heap_new (w.alloc (.cells (hc zH).toArray 24)) (.cells (hc zH).toArray 24)
    rw [World.size_alloc] at this
    exact this
  have hB0 : Below w.heap.size w W0 := by
    rw [← hW]
    exact ((Below.refl _ _).alloc (Nat.le_refl _) _).alloc (by simp) _
  have hsz : W0.heap.size = w.heap.size + 2 := by rw [← hW]; simp
  clear hW
  have hcp := Lib.run_copy_row_string (P := Try.prog) W0.drew 89 9 3 5 (w.heap.size + 1) 0 32 32 (⟨#[]⟩ : ByteArray) _ 24 Try.underlying89 rowByte z1 (by decide) (by simp [hc_len, zH]; exact Nat.zero_le _)
  have hrow : (((hc zH).toArray.toList.take 0 ++ Lib.byteCells (⟨#[]⟩ : ByteArray).data.toList ++ (hc zH).toArray.toList.drop (0 + (⟨#[]⟩ : ByteArray).size)).toArray) = (hc zH).toArray := by rfl
  rw [hrow] at hcp
  have HC := Lib.hid hcp
  have Z0 := Lib.hid z0
  have Z1 := Lib.hid z1
  have HB0 := Lib.hid hB0
  have Hsz := Lib.hid hsz
  clear hcp hrow z0 z1 hB0 hsz
  go_region_law (first | (refine step_copy_run rfl (.tmp 4) (.tmp 6) 89 9 rfl _ _ rfl rfl HC.out ?_) | (go_simp; go_at_call 24; refine (nraw_calls _ _).mono ?_; rintro r w1 ⟨rfl, rfl⟩))
  have g1 : (W0.drew.setRow (w.heap.size + 1) (hc zH).toArray).heap[w.heap.size + 1]? = some (.cells (hc zH).toArray 24 (0, 0)) := setRow_heap _ _ _ _ _ _ Z1.out
  have g0 : (W0.drew.setRow (w.heap.size + 1) (hc zH).toArray).heap[w.heap.size]? = some (.cells (hc zH).toArray 24 (0, 0)) := (setRow_other _ _ _ _ (by omega)).trans Z0.out
  have hB1 := setRow_below (g := w.heap.size + 1) (cs := (hc zH).toArray) HB0.out.drew (by omega)
  generalize W0.drew.setRow (w.heap.size + 1) (hc zH).toArray = W1 at *
  have G1 := Lib.hid g1
  have G0 := Lib.hid g0
  have HB1 := Lib.hid hB1
  clear g1 g0 hB1
  go_wp2_with (first | (refine wpList_load_row rfl 24 _ rfl _ rfl _ _ _ _ G1.out UH rfl i3 ?_) | (refine wpList_store_row rfl 24 _ _ rfl w.heap.size (hc zH).toArray rfl rfl _ _ G0.out i3 (by simp [hc_len, zH]) (hc_one _) ?_))
  have r2 : (W1.setRow w.heap.size (hc zH).toArray).heap[w.heap.size]? = some (.cells (hc zH).toArray 24 (0, 0)) := setRow_heap _ _ _ _ _ _ G0.out
  have hload := run_loadVar_row (P := Try.prog) _ _ 24 24 _ _ _ r2 UH rfl i3
  exact bodyPost_ret (results_cell 2 24 ⟨w.heap.size, 0, none⟩ _ rfl rfl hload) rfl ⟨rfl, setRow_below HB1.out (by omega)⟩
theorem byteZ : byteC ⟨[], 0⟩ = (0, ⟨[], 1⟩) := rfl
theorem eqGuardH {x y : Operand} {u v : Array Value} (wx : World) : (eqGuard .eql 24 x y (.agg u) (.agg v)).run Try.prog wx = .ok () wx := run_eqGuard_agg _ _ _ _ _ _ _ (by kernel_rfl)
theorem eqZ (wx : World) : (binOp .eql 24 (.agg (hc zH).toArray) (.agg (hc zH).toArray)).run Try.prog wx = .ok (.bool true) wx := by
  rw [eqH (by simp [zH]) (by simp [zH])]
  simp
set_option maxHeartbeats 4000000 in
set_option maxRecDepth 100000 in
theorem lawNone_calls (x : St) (w : World) : Calls Try.prog 8 #[x.v] w fun e w' => e = .returned (.bool true) ∧ Below w.heap.size w w' := by
  obtain ⟨k, n, m, e⟩ := x
  unfold St.v St.c
  have i3 := IHa (show zH.length = 32 from by simp [zH])
  go_enter Try.func8, Try.ntmps8
  go_wp2_with fail
  refine (nhash_calls _).mono ?_
  rintro r w1 ⟨rfl, hb1⟩
  have hb1' := below_up (below2 _ _ _) hb1
  have Y0 := (hb1.block _ (by simp; omega)).trans (heap_new1 _ _ _)
  have Y1 : CU (w.heap.size + 1) ⟨[], 0⟩ w1 := (hb1.block _ (by simp)).trans (heap_new2 _ _ _)
  have hs1 := hb1.size
  simp only [World.size_alloc] at hs1
  have c1 : (w1.alloc (.cells (hc zH).toArray 24)).cell? ⟨w.heap.size, 1, none⟩ = some (.int .i64 n) := cell_laid (by rw [cell_of_row _ _ _ _ _ _ Y0]; rfl) _
  have c2 : (w1.alloc (.cells (hc zH).toArray 24)).cell? ⟨w.heap.size, 2, none⟩ = some (.int .u64 m) := cell_laid (by rw [cell_of_row _ _ _ _ _ _ Y0]; rfl) _
  have c3 : (w1.alloc (.cells (hc zH).toArray 24)).cell? ⟨w.heap.size, 3, none⟩ = some (.int .i64 e) := cell_laid (by rw [cell_of_row _ _ _ _ _ _ Y0]; rfl) _
  have Hu := Lib.hid (show CU (w.heap.size + 1) ⟨[], 0⟩ (w1.alloc (.cells (hc zH).toArray 24)) from Y1.keep ((Below.refl _ _).alloc (Nat.le_refl _) _))
  have HB := Lib.hid (show Below w.heap.size w (w1.alloc (.cells (hc zH).toArray 24)) from hb1'.alloc (by omega) _)
  have LH := Lib.hid (run_loadAt_row (P := Try.prog) (w1.alloc (.cells (hc zH).toArray 24)) w1.heap.size 24 24 _ _ _ (heap_new _ _) UH rfl i3)
  clear hb1 hb1' Y0 Y1 hs1
  go_wp2_with (first | (refine wpList_store_last rfl 24 _ _ rfl _ (hc zH).toArray rfl rfl i3 (by simp [hc_len, zH]) (hc_one _) ?_))
  refine (nfail_calls _ _).mono ?_
  rintro r w2 ⟨rfl, rfl⟩
  go_wp2_with fail
  refine (nbyte_calls _).mono ?_
  rintro r w2 ⟨rfl, rfl⟩
  go_wp2_with fail
  refine (nnum_calls _ _).mono ?_
  rintro r w2 ⟨rfl, rfl⟩
  go_wp2_with fail
  refine (nraw_calls _ _).mono ?_
  rintro r w2 ⟨rfl, rfl⟩
  go_wp2_with (first | ((refine wpList_loadg (by rfl) 24 (.tmp 5) (by rfl) _ (by rfl) _ LH.out ?_)) | (refine wpList_value (by rfl) (.bool true) (run_bin (x := .tmp 32) (y := .tmp 33) (by rfl) (by rfl) (by rfl) (eqGuardH _) (eqZ _)) ?_))
  refine (ntext_calls _ _).mono ?_
  rintro r w2 ⟨rfl, rfl⟩
  go_wp2_with fail
  refine (nleft_calls _).mono ?_
  rintro r w2 ⟨rfl, rfl⟩
  go_wp2_with fail
  refine (nerr_calls _).mono ?_
  rintro r w2 ⟨rfl, rfl⟩
  go_wp2_with fail
  refine (ndone_calls _).mono ?_
  rintro r w2 ⟨rfl, rfl⟩
  go_wp2_with fail
  refine (done_calls (w.heap.size + 1) ⟨[], 0⟩ _ Hu.out (by decide)).mono ?_
  rintro r w2 ⟨rfl, rfl⟩
  rw [show doneC ⟨[], 0⟩ = 0 from by simp [doneC]]
  go_wp2_with fail
  refine (byte_calls (w.heap.size + 1) ⟨[], 0⟩ _ Hu.out (by decide)).mono ?_
  rw [byteZ]
  rintro r w2 ⟨rfl, hu2, hw2⟩
  have HE := Lib.hid (err_calls (w.heap.size + 1) ⟨[], 1⟩ _ hu2)
  have HB2 := Lib.hid (HB.out.trans (hw2.below HB.out.size (by omega)))
  clear hu2 hw2
  go_wp2_with fail
  refine HE.out.mono ?_
  rintro r w3 ⟨rfl, rfl⟩
  go_wp2_with fail
  refine (awake_calls _).mono ?_
  rintro r w4 ⟨rfl, hb4⟩
  have HB3 := Lib.hid (below_up HB2.out hb4)
  clear hb4
  go_wp2_with fail
  go_ret
  exact ⟨rfl, HB3.out⟩
end Go.Proofs.Ytgdlhcopgfgmaaa.Cur
