/- The walk of chapter 19's examples. -/
import Derived.Test.YtalfgagcfjddcaaWkL
namespace Go.Proofs.Ytalfgagcfjddcaa.Wk
open Go.RowKit Go.Proofs.Ytalfgagcfjddcaa.Mk Go.Proofs.Ytalfgagcfjddcaa.Ul Go.Proofs.Ytalfgagcfjddcaa.Wd Go.Proofs.Ytalfgagcfjddcaa.Wi Go.Proofs.Ytalfgagcfjddcaa.R4 Go.Proofs.Ytalfgagcfjddcaa.Hf Go.Proofs.Ytalfgagcfjddcaa.L4
open Extern.Stop (cell)
def zz : List UInt8 := List.replicate 32 0
def lo : List UInt8 := 1 :: List.replicate 31 0
theorem lo_cells : hc lo = GC m8 32 (upg (fun _ => 0) 0 1) := by kernel_rfl
theorem aw_facts : lvI (beN zz) (beN ff) = 255 ∧ lvI (beN lo) (beN ff) = 7 ∧ lvI (beN ff) (beN lo) = -1 := by decide +kernel
theorem build_H {o : Oper} {a : Act} {w : World} (ho : o.op = .build 23 #[]) : (execOp a.eval o).run Try.prog w = .ok (.value (hv zz)) w := by
  unfold execOp
  simp only [ho]
  kernel_rfl
set_option maxHeartbeats 4000000 in
set_option maxRecDepth 100000 in
theorem awake_calls (w : World) : Calls Try.prog 19 #[] w fun e w' => e = .returned (.bool true) ∧ Below w.heap.size w w' := by
  have H1 := Lib.hid (fun w => level_calls zz ff w (by simp [zz]) ff_len)
  have H2 := Lib.hid (fun w => level_calls lo ff w (by simp [lo]) ff_len)
  have H3 := Lib.hid (fun w => level_calls ff lo w ff_len (by simp [lo]))
  rw [aw_facts.1] at H1
  rw [aw_facts.2.1] at H2
  rw [aw_facts.2.2] at H3
  go_enter Try.func19, Try.ntmps19
  go_wp2_with fail
  generalize hW : World.alloc (World.alloc w _) _ = W
  have H0 : Hid (GK m8 w.heap.size 32 (fun i => if i < 0 then 255 else 0) 23 W ∧ GK m8 (w.heap.size + 1) 32 (fun _ => 0) 23 W ∧ Below w.heap.size w W) := Lib.hid (by
    rw [← hW]
    refine ⟨(Below.heap_alloc _ _ _ (by simp)).trans ?_, ?_, bl2 _ _ _⟩
    · rw [nw1]; rfl
    · unfold GK; rw [nw2]; rfl)
  clear hW
  go_loopw [3] (fun s3 wr => ∃ k : Nat, k ≤ 32 ∧ s3 = .int .i64 k ∧ Hid (GK m8 w.heap.size 32 (fun i => if i < k then 255 else 0) 23 wr ∧ GK m8 (w.heap.size + 1) 32 (fun _ => 0) 23 wr ∧ Below w.heap.size w wr)) (fun s3 _ => 32 - (intOf s3).toNat)
  case atStart => exact ⟨0, by omega, rfl, H0⟩
  case round =>
    obtain ⟨k, hk, rfl, hq⟩ := hrel
    by_cases hkl : k < 32
    · have c1 := hq.out.1.cell hkl
      have z1 := hq.out.1.free k
      have i1 : ¬ (k : Int) < 0 := by omega
      have i2 : (k : Int) < 32 := by omega
      have HS := Lib.hid (show GK m8 w.heap.size 32 (fun i => if i < k + 1 then 255 else 0) 23 (wr.setCell ⟨w.heap.size, k, none⟩ (.int .u8 255)) ∧ GK m8 (w.heap.size + 1) 32 (fun _ => 0) 23 (wr.setCell ⟨w.heap.size, k, none⟩ (.int .u8 255)) ∧ Below w.heap.size w (wr.setCell ⟨w.heap.size, k, none⟩ (.int .u8 255)) from
        ⟨by rw [← upg_lt (fun _ => 255) 0 k]; exact GK.set (v := 255) hq.out.1, (Below.heap_setCell _ _ _ _ (by simp)).trans hq.out.2.1, hq.out.2.2.setCell (p := ⟨w.heap.size, k, none⟩) (by simp) _⟩)
      go_wp2_with fail
      go_roundw
      case rel => exact ⟨k + 1, by omega, by go_num, HS⟩
      case measure => simp [intOf] <;> omega
    · obtain rfl : k = 32 := by omega
      have c1 := hq.out.2.1.cell (i := 0) (by decide)
      have z1 := hq.out.2.1.free 0
      have S1 := Lib.hid (show SQ [(w.heap.size, oH ff), (w.heap.size + 1, oH lo)] w (wr.setCell ⟨w.heap.size + 1, 0, none⟩ (.int .u8 1)) from
        ⟨KQ.cons ((Below.heap_setCell _ _ _ _ (by simp)).trans (by rw [show oH ff = .cells (hc ff).toArray 23 (0, 0) from rfl, ff_cells]; exact hq.out.1.ext (fun i hi => if_pos hi)))
          (KQ.cons (by rw [show oH lo = .cells (hc lo).toArray 23 (0, 0) from rfl, lo_cells]; exact GK.set (v := 1) hq.out.2.1) (KQ.nil _)), hq.out.2.2.setCell (p := ⟨w.heap.size + 1, 0, none⟩) (by simp) _⟩)
      clear hq hk hkl
      generalize hff : ff = f at *
      have HF := Lib.hid (show f.length = 32 by rw [← hff]; exact ff_len)
      have HO := Lib.hid (show lo.length = 32 by simp [lo])
      generalize lo = l at *
      clear hff
      go_wp2_with (first | (refine wpList_value (by rfl) _ (build_H rfl) ?_) | (refine wpList_load_row (by rfl) 23 (.tmp 1) (by rfl) _ (by rfl) _ _ _ _ S1.out.a0 UH rfl (IHa HF.out) ?_))
      refine (H1.out _).mono ?_
      rintro e w1 ⟨rfl, hb1⟩
      have S2 := Lib.hid (S1.out.keep hb1)
      clear hb1 S1
      go_wp2_with (first | (refine wpList_loadg (by rfl) 23 (.tmp 1) (by rfl) _ (by rfl) _ (HH.at S2.out.a0 HF.out) ?_) | (refine wpList_loadg (by rfl) 23 (.tmp 2) (by rfl) _ (by rfl) _ (HH.at S2.out.a1 HO.out) ?_))
      refine (H2.out _).mono ?_
      rintro e w2 ⟨rfl, hb2⟩
      have S3 := Lib.hid (S2.out.keep hb2)
      clear hb2 S2
      go_wp2_with (first | (refine wpList_loadg (by rfl) 23 (.tmp 1) (by rfl) _ (by rfl) _ (HH.at S3.out.a0 HF.out) ?_) | (refine wpList_loadg (by rfl) 23 (.tmp 2) (by rfl) _ (by rfl) _ (HH.at S3.out.a1 HO.out) ?_))
      refine (H3.out _).mono ?_
      rintro e w3 ⟨rfl, hb3⟩
      have S4 := Lib.hid (S3.out.keep hb3)
      clear hb3 S3
      go_wp2_with fail
      go_ret
      exact ⟨rfl, S4.out.2⟩
end Go.Proofs.Ytalfgagcfjddcaa.Wk
