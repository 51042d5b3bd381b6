/- The walks of chapter 40's example, and of the law CommonLast. -/
import Derived.Test.YtcgibofjlicicaaCommonB
namespace Go.Proofs.Ytcgibofjlicicaa.Common
open Go.RowKit Go.Proofs.Ytcgibofjlicicaa.Mk
open Extern.Stop (cell)
def hN (n : UInt8) : H := n :: List.replicate 31 0
set_option maxRecDepth 100000 in
set_option maxHeartbeats 1000000 in
theorem awake_calls (w : World) : Calls Try.prog 18 #[] w fun e w' => e = .returned (.bool true) ∧ Below w.heap.size w w' := by
  go_enter Try.func18, Try.ntmps18
  go_wp2_with fail
  refine (last_calls [hN 1, hN 2, hN 4] [hN 1, hN 3, hN 4] _ _ _ (SL.of_block (heap_alloc2_old w _ _) (by decide) (by decide) 3 rfl) (SL.of_block (heap_alloc2_new w _ _) (by decide) (by decide) 3 rfl)).mono ?_
  have e2 : lastP [hN 1, hN 2, hN 4] [hN 1, hN 3, hN 4] = .tuple #[.int .i64 2, .int .i64 2] := lastP_of _ _ (by decide)
  rw [e2]
  clear e2
  rintro e w1 ⟨rfl, hb1⟩
  have hb2 : Below w.heap.size w w1 := below_up (((Below.refl _ _).alloc (Nat.le_refl _) _).alloc (by simp) _) hb1
  clear hb1
  go_wp2_with fail
  go_ret
  exact ⟨rfl, hb2⟩
end Go.Proofs.Ytcgibofjlicicaa.Common
