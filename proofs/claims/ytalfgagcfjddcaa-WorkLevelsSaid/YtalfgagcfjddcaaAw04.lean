/- The walks of chapter 4's examples. -/
import Derived.Test.YtalfgagcfjddcaaWiH
import Derived.Test.YtalfgagcfjddcaaWiC
import Derived.Test.YtalfgagcfjddcaaWiS
import Derived.Test.YtalfgagcfjddcaaRow1
import Derived.Test.YtalfgagcfjddcaaEqN
import Derived.Test.YtalfgagcfjddcaaStepG
namespace Go.Proofs.Ytalfgagcfjddcaa.L4
open Go.RowKit Go.Proofs.Ytalfgagcfjddcaa.Mk Go.Proofs.Ytalfgagcfjddcaa.Ul Go.Proofs.Ytalfgagcfjddcaa.Wd Go.Proofs.Ytalfgagcfjddcaa.Wi Go.Proofs.Ytalfgagcfjddcaa.Hf
open Extern.Stop (cell)
def ff : List UInt8 := List.replicate 32 255
theorem ff_len : ff.length = 32 := by simp [ff]
def m8 (n : Nat) : Value := .int .u8 (n : Int)
theorem ff_cells : hc ff = GC m8 32 fun _ => 255 := by
  unfold ff hc GC
  rw [List.map_replicate, List.map_const', List.length_range]
  rfl
theorem z_cells : hc (List.replicate 32 0) = GC m8 32 fun _ => 0 := by
  unfold hc GC
  rw [List.map_replicate, List.map_const', List.length_range]
  rfl
def FuQ (g k : Nat) (w wr : World) : Prop := wr.heap[g]? = some (.cells (hc (List.replicate 32 0)).toArray 23 (0, 0)) ∧ GK m8 (g + 1) 32 (fun i => if i < k then 255 else 0) 23 wr ∧ Below w.heap.size w wr
set_option maxHeartbeats 4000000 in
set_option maxRecDepth 100000 in
theorem full_calls (w : World) : Calls Try.prog 57 #[] w fun e w' => e = .returned (hv ff) ∧ Below w.heap.size w w' := by
  go_enter Try.func57, Try.ntmps57
  go_wp2_with fail
  generalize hW : World.alloc (World.alloc w _) _ = W
  have H0 : Hid (FuQ w.heap.size 0 w W) := Lib.hid (by
    rw [← hW]
    refine ⟨(Below.heap_alloc _ _ _ (by simp)).trans (nw1 _ _), ?_, bl2 _ _ _⟩
    unfold GK
    rw [nw2]
    rfl)
  clear hW
  go_loopw [2] (fun s2 wr => ∃ k : Nat, k ≤ 32 ∧ s2 = .int .i64 k ∧ Hid (FuQ w.heap.size k w wr)) (fun s2 _ => 32 - (intOf s2).toNat)
  case atStart => exact ⟨0, by omega, rfl, H0⟩
  case round =>
    obtain ⟨k, hk, rfl, hq⟩ := hrel
    by_cases hkl : k < 32
    · have c1 := hq.out.2.1.cell hkl
      have z1 := hq.out.2.1.free k
      have i1 : ¬ (k : Int) < 0 := by omega
      have i2 : (k : Int) < 32 := by omega
      have HS := Lib.hid (show FuQ w.heap.size (k + 1) w (wr.setCell ⟨w.heap.size + 1, k, none⟩ (.int .u8 255)) from
        ⟨(Below.heap_setCell _ _ _ _ (by simp)).trans hq.out.1, by rw [← upg_lt (fun _ => 255) 0 k]; exact GK.set (v := 255) hq.out.2.1, hq.out.2.2.setCell (p := ⟨w.heap.size + 1, k, none⟩) (by simp) _⟩)
      go_wp2_with fail
      go_roundw
      case rel => exact ⟨k + 1, by omega, by go_num, HS⟩
      case measure => simp [intOf] <;> omega
    · obtain rfl : k = 32 := by omega
      have h2 : wr.heap[w.heap.size + 1]? = some (.cells (hc ff).toArray 23 (0, 0)) := by
        rw [ff_cells]
        exact hq.out.2.1.ext (fun i hi => if_pos hi)
      have HL := Lib.hid ff_len
      obtain ⟨l, hl⟩ : ∃ l, l = ff := ⟨_, rfl⟩
      rw [← hl] at h2 HL
      have K2 := Lib.hid hq.out.1
      have K3 := Lib.hid h2
      have K4 := Lib.hid hq.out.2.2
      have HE := Lib.hid hl
      clear hl h2 hq
      go_wp2_with (first | (refine wpList_load_row (by rfl) 23 (.tmp 1) (by rfl) _ (by rfl) _ _ _ _ K3.out UH rfl (IHa HL.out) ?_) | (refine wpList_store_row (by rfl) 23 _ _ rfl _ (hc l).toArray rfl rfl _ _ K2.out (IHa HL.out) (by rw [List.size_toArray, List.size_toArray, hc_len, hc_len, HL.out]; rfl) (hc_one l) ?_))
      exact bodyPost_ret (results_cell 0 23 _ _ rfl rfl (run_loadVar_row _ _ _ _ _ _ _ (setRow_heap _ _ _ _ _ _ K2.out) UH rfl (IHa HL.out))) rfl ⟨by rw [HE.out]; rfl, below_setRow K4.out (Nat.le_refl _)⟩
theorem ffX : beN ff = 2 ^ 256 - 1 := by decide +kernel
theorem aw_facts : shrI (beN ff) 255 = 1 ∧ (FC 4 (lb (beN ff + 1)) = FC 4 fun _ => 0) ∧ cr (beN ff) 1 4 = 1 ∧ bl (beN ff) = 256 := by
  rw [ffX]
  refine ⟨by decide +kernel, FC_ext (by decide +kernel), by decide +kernel, bl_eq (by decide +kernel) (fun _ => by decide +kernel)⟩
theorem U64 : Try.prog.underlying 35 = some (.int .u64) := by kernel_rfl
theorem eqN {a b : Nat → Nat} (h : FC 4 a = FC 4 b) (w : World) : (binOp .eql 37 (.agg (FC 4 a).toArray) (.agg (FC 4 b).toArray)).run Try.prog w = .ok (.bool true) w := by
  rw [h]
  exact run_eql_FC w _ _ 4 UN4 U64 Try.sizeOf35 b
theorem ldAt4 {w : World} {g : Nat} {f : Nat → Nat} {t : TypeId} (h : FB g 4 f t w) : (Instr.loadAt 37 (.pointer (some ⟨g, 0, none⟩))).run Try.prog w = .ok (.agg (FC 4 f).toArray) w := by
  simp only [Instr.loadAt, Instr.sureAddr, Sem.run_bind, Sem.run_pure, Result.andThen_ok, run_loadVar_row w g t 37 _ _ _ h UN4 rfl (IN4 f)]
theorem z4 : #[Value.int .u64 0, .int .u64 0, .int .u64 0, .int .u64 0].size = 4 := rfl
theorem FB.two {w w2 : World} {g n : Nat} {f : Nat → Nat} {t : TypeId} (h : FB g n f t w) (hb : Below w.heap.size w w2) : FB g n f t w2 := h.keep hb
set_option maxHeartbeats 4000000 in
set_option maxRecDepth 100000 in
theorem awake_calls (w : World) : Calls Try.prog 26 #[] w fun e w' => e = .returned (.bool true) ∧ Below w.heap.size w w' := by
  have hf := aw_facts
  have HF := Lib.hid hf
  have HX := Lib.hid (beN32 ff_len)
  have HO := Lib.hid (fun w => of_calls ff w ff_len)
  clear hf
  generalize beN ff = X at *
  have H1 := Lib.hid (fun w => shr_calls X 255 w HX.out)
  rw [HF.out.1] at H1
  have H2 := Lib.hid (fun w => add_calls X 1 w)
  rw [HF.out.2.2.1] at H2
  have H3 := Lib.hid (fun w => len_calls X w HX.out)
  rw [HF.out.2.2.2] at H3
  have hE1 := eqN (a := lb 1) (b := lb 1) rfl
  have hE2 := eqN HF.out.2.1
  have hG : ∀ wx x y (c d : Array Value), (eqGuard .eql 37 x y (.agg c) (.agg d)).run Try.prog wx = .ok () wx := fun wx x y c d => run_eqGuard_agg _ _ _ _ _ _ _ (by kernel_rfl)
  have hb1 : FC 4 (lb 1) = [Value.int .u64 1, .int .u64 0, .int .u64 0, .int .u64 0] := by kernel_rfl
  have hE1' : ∀ wx, (binOp .eql 37 (.agg (FC 4 (lb 1)).toArray) (.agg #[.int .u64 1, .int .u64 0, .int .u64 0, .int .u64 0])).run Try.prog wx = .ok (.bool true) wx := fun wx => by
    have := hE1 wx
    rw [hb1] at this ⊢
    exact this
  have hE2' : ∀ wx, (binOp .eql 37 (.agg (FC 4 (lb (X + 1))).toArray) (.agg #[.int .u64 0, .int .u64 0, .int .u64 0, .int .u64 0])).run Try.prog wx = .ok (.bool true) wx := fun wx => hE2 wx
  have HE1 := Lib.hid hE1'
  have HE2 := Lib.hid hE2'
  have HG := Lib.hid hG
  clear hE1 hE2 hE1' hE2' hG hb1
  unfold UV at *
  obtain ⟨f, hf⟩ : ∃ f, f = lb X := ⟨_, rfl⟩
  obtain ⟨f1, hf1⟩ : ∃ f, f = lb 1 := ⟨_, rfl⟩
  obtain ⟨f2, hf2⟩ : ∃ f, f = lb (X + 1) := ⟨_, rfl⟩
  rw [← hf] at HO H1 H2 H3
  rw [← hf1] at H1 H2 HE1
  rw [← hf2] at H2 HE2
  clear hf hf1 hf2
  go_enter Try.func26, Try.ntmps26
  go_wp2_with fail
  refine (full_calls _).mono ?_
  rintro e w1 ⟨rfl, hb1⟩
  have HB := Lib.hid hb1
  clear hb1
  go_wp2_with fail
  refine (HO.out _).mono ?_
  rintro e w2 ⟨rfl, hb2⟩
  have HB2 := Lib.hid (below_up HB.out hb2)
  clear hb2 HB
  go_wp2_with (first | (refine wpList_store_last rfl 37 _ _ rfl _ (FC 4 f).toArray rfl rfl (IN4 _) (by rw [FC_size]; rfl) (FC_one _ _) ?_) | (refine wpList_load_row (by rfl) 37 (.tmp 1) (by rfl) _ (by rfl) _ _ _ _ (heap_new w2 _) UN4 rfl (IN4 _) ?_))
  refine (H1.out _).mono ?_
  rintro e w3 ⟨rfl, hb3⟩
  have K1 := Lib.hid (show FB w2.heap.size 4 f 37 (w3.alloc (.cells (FC 4 f1).toArray 37)) from FB.alloc (FB.keep (heap_new _ _) hb3) _)
  have K2 := Lib.hid (show FB w3.heap.size 4 f1 37 (w3.alloc (.cells (FC 4 f1).toArray 37)) from heap_new _ _)
  have HB3 := Lib.hid (below_up (below_up (below_up HB2.out (bl1 w2 _)) hb3) (bl1 w3 (.cells (FC 4 f1).toArray 37)))
  clear hb3 HB2
  go_wp2_with (first | (refine wpList_store_last rfl 37 _ _ rfl _ (FC 4 f1).toArray rfl rfl (IN4 _) (by rw [FC_size]; rfl) (FC_one _ _) ?_) | (refine wpList_load_row (by rfl) 37 (.tmp 1) (by rfl) _ (by rfl) _ _ _ _ K1.out UN4 rfl (IN4 _) ?_) | (refine wpList_load_row (by rfl) 37 (.tmp 2) (by rfl) _ (by rfl) _ _ _ _ K2.out UN4 rfl (IN4 _) ?_))
  refine (H2.out _).mono ?_
  rintro e w4 ⟨rfl, hb4⟩
  have L1 := Lib.hid (show FB w2.heap.size 4 f 37 (w4.alloc (.cells (FC 4 f2).toArray 37)) from FB.alloc (FB.keep K1.out hb4) _)
  have L2 := Lib.hid (show FB w3.heap.size 4 f1 37 (w4.alloc (.cells (FC 4 f2).toArray 37)) from FB.alloc (FB.keep K2.out hb4) _)
  have L3 := Lib.hid (show FB w4.heap.size 4 f2 37 (w4.alloc (.cells (FC 4 f2).toArray 37)) from heap_new _ _)
  have HB4 := Lib.hid (below_up (below_up HB3.out hb4) (bl1 w4 (.cells (FC 4 f2).toArray 37)))
  clear hb4 HB3 K1 K2
  go_wp2_with (first | (refine wpList_store_last rfl 37 _ _ rfl _ (FC 4 f2).toArray rfl rfl (IN4 _) (by rw [FC_size]; rfl) (FC_one _ _) ?_) | (refine wpList_load_row (by rfl) 37 (.tmp 1) (by rfl) _ (by rfl) _ _ _ _ L1.out UN4 rfl (IN4 _) ?_))
  refine (H3.out _).mono ?_
  rintro e w5 ⟨rfl, hb5⟩
  have M2 := Lib.hid (FB.keep L2.out hb5)
  have M3 := Lib.hid (FB.keep L3.out hb5)
  have HB5 := Lib.hid (below_up HB4.out hb5)
  clear hb5 HB4 L1 L2 L3
  go_wp2_with (first | (refine wpList_loadg (by rfl) 37 (.tmp 2) (by rfl) _ (by rfl) _ (ldAt4 M2.out) ?_) | (refine wpList_loadg (by rfl) 37 (.tmp 3) (by rfl) _ (by rfl) _ (ldAt4 M3.out) ?_) | (refine wpList_value (by rfl) (.bool true) (run_bin (x := .tmp 19) (y := .tmp 20) (by rfl) (by rfl) (by rfl) (HG.out _ _ _ _ _) (HE1.out _)) ?_) | (refine wpList_value (by rfl) (.bool true) (run_bin (x := .tmp 24) (y := .tmp 25) (by rfl) (by rfl) (by rfl) (HG.out _ _ _ _ _) (HE2.out _)) ?_))
  go_ret
  exact ⟨rfl, HB5.out⟩
end Go.Proofs.Ytalfgagcfjddcaa.L4
