/- The walks of chapter 19's laws. -/
import Derived.Test.YtalfgagcfjddcaaAw19
namespace Go.Proofs.Ytalfgagcfjddcaa.Wk
open Go.RowKit Go.Proofs.Ytalfgagcfjddcaa.Mk Go.Proofs.Ytalfgagcfjddcaa.Ul Go.Proofs.Ytalfgagcfjddcaa.Wd Go.Proofs.Ytalfgagcfjddcaa.Wi Go.Proofs.Ytalfgagcfjddcaa.R4 Go.Proofs.Ytalfgagcfjddcaa.Hf Go.Proofs.Ytalfgagcfjddcaa.L4
set_option maxHeartbeats 4000000 in
set_option maxRecDepth 100000 in
theorem lawLevels_calls (h k : List UInt8) (w : World) (hl : h.length = 32) (kl : k.length = 32) : Calls Try.prog 3 #[hv h, hv k] w fun e w' => e = .returned (.bool true) ∧ Below w.heap.size w w' := by
  have S0 := Lib.hid (SQ.new2 w (oH h) (oH k))
  unfold hv
  go_enter Try.func3, Try.ntmps3
  go_wp2_with fail
  generalize World.alloc (World.alloc w _) _ = W at *
  have L0 : ∀ wx, Below W.heap.size W wx → (Instr.loadAt 23 (.pointer (some ⟨w.heap.size, 0, none⟩))).run Try.prog wx = .ok (hv h) wx := fun wx hb => HH.at (S0.out.keep hb).a1 hl
  have L1 : ∀ wx, Below W.heap.size W wx → (Instr.loadAt 23 (.pointer (some ⟨w.heap.size + 1, 0, none⟩))).run Try.prog wx = .ok (hv k) wx := fun wx hb => HH.at (S0.out.keep hb).a0 kl
  have P1 : ∀ wx, Below W.heap.size W wx → Calls Try.prog 15 #[hv h, hv k] wx fun e w' => e = .returned (.bool (okB (beN h) (beN k))) ∧ Below wx.heap.size wx w' := fun wx _ => ok_calls h k wx hl kl
  have P2 : ∀ wx, Below W.heap.size W wx → Calls Try.prog 16 #[hv h, hv k] wx fun e w' => e = .returned (.bool (okB (beN h) (beN k))) ∧ Below wx.heap.size wx w' := fun wx _ => rok_calls h k wx hl kl
  have P3 : ∀ wx, Below W.heap.size W wx → Calls Try.prog 17 #[hv h, hv k] wx fun e w' => e = .returned (.int .i64 (lvI (beN h) (beN k))) ∧ Below wx.heap.size wx w' := fun wx _ => level_calls h k wx hl kl
  have P4 : ∀ wx, Below W.heap.size W wx → Calls Try.prog 18 #[hv h, hv k] wx fun e w' => e = .returned (.int .i64 (lvI (beN h) (beN k))) ∧ Below wx.heap.size wx w' := fun wx _ => rlevel_calls h k wx hl kl
  have P5 : ∀ wx, Below W.heap.size W wx → Calls Try.prog 19 #[] wx fun e w' => e = .returned (.bool true) ∧ Below wx.heap.size wx w' := fun wx _ => awake_calls wx
  clear hl kl
  generalize okB (beN h) (beN k) = b at *
  generalize lvI (beN h) (beN k) = l at *
  refine wp_region_quiet_below (by kernel_rfl) (by kernel_rfl) ?_
  repeat (first | (refine wpQuiet_load rfl 23 _ rfl _ rfl _ (rg_fact L0) ?_) | (refine wpQuiet_load rfl 23 _ rfl _ rfl _ (rg_fact L1) ?_) | ((refine wpQuiet_call rfl 15 _ ?_ _ (rg_of P1) ?_); focus (intro wx; go_simp; done)) | ((refine wpQuiet_call rfl 16 _ ?_ _ (rg_of P2) ?_); focus (intro wx; go_simp; done)) | ((refine wpQuiet_call rfl 17 _ ?_ _ (rg_of P3) ?_); focus (intro wx; go_simp; done)) | ((refine wpQuiet_call rfl 18 _ ?_ _ (rg_of P4) ?_); focus (intro wx; go_simp; done)) | ((refine wpQuiet_call rfl 19 _ ?_ _ (rg_of P5) ?_); focus (intro wx; go_simp; done)) | go_big_quiet_step (fail) | quiet_step (fail))
  refine wpQuiet_nil ?_
  rintro _ ⟨rp, rfl⟩
  have hb5 := below_regrown W rp.d rp.os
  generalize Sort.grow (redrawn W rp.d) rp.os = w5 at *
  have hfin := Lib.hid (S0.out.keep hb5).2
  clear L0 L1 P1 P2 P3 P4 P5 hb5
  go_wp2_with fail
  go_ret
  exact ⟨rfl, hfin.out⟩
end Go.Proofs.Ytalfgagcfjddcaa.Wk
