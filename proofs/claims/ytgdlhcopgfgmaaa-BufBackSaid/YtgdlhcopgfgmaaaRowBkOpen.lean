/- How a list of chapter 9's steps is opened. -/
import Derived.Test.YtgdlhcopgfgmaaaRows
import Derived.Test.YtgdlhcopgfgmaaaOpen
import Derived.WalkKit
import Derived.ProofKit
import Derived.OpenShut
import Derived.ShutString
import Derived.ChangeOld
import Derived.Below
import Derived.SizedLaws
import Derived.Lib.SmallJoins
import Derived.Test.YtgdlhcopgfgmaaaBufK
namespace Go.Proofs.Ytgdlhcopgfgmaaa.Bk
open Go.ChangeShapes Go.WideShapes Go.ChangeAt Go.RowKit Go.Proofs.Ytgdlhcopgfgmaaa.Mk Go.Proofs.Ytgdlhcopgfgmaaa.Buf
theorem cH : Try.prog.cellsOf 24 = 32 := by kernel_rfl
theorem cB : Try.prog.cellsOf 5 = 1 := by kernel_rfl
theorem cS : Try.prog.cellsOf 77 = 35 := by kernel_rfl
theorem bS : Try.prog.bytesOf 77 = 64 := by kernel_rfl
theorem c1 : Try.prog.cellsOf 3 = 1 := by kernel_rfl
theorem c2 : Try.prog.cellsOf 9 = 1 := by kernel_rfl
theorem c3 : Try.prog.cellsOf 25 = 1 := by kernel_rfl
theorem split4 (cs : List Value) (h : cs.length = 35) : cs = (cs.drop 0).take 1 ++ ((cs.drop 1).take 1 ++ ((cs.drop 2).take 1 ++ (cs.drop 3).take 32)) := by
  match cs, h with
  | a :: b :: c :: r, h =>
    have hr : r.length = 32 := by simpa using h
    simp [List.take_of_length_le (Nat.le_of_eq hr)]
theorem open_step {H : Type} {enc : TypeId × Value → H} {w : World} {base : Nat} {spare : Nat → Bool} {held : Bool} {fuel : Nat} {cs : List Value} {x : DataW H × List MemPlace}
    (h : DataW.trod enc Try.prog w base spare held fuel 77 cs = some x) : ∃ y : Buf.St, y.Ok ∧ cs = y.c := by
  obtain ⟨y0, y1, y2, y3, n, _, hl, h0, h1, h2, h3⟩ := Go.Joins.trod_struct4 Try.underlying77 h
  obtain ⟨k, e0, _, _⟩ := DataW.trod_int Try.underlying3 h0
  obtain ⟨s, e1, _, hs⟩ := DataW.trod_string Try.underlying9 h1
  obtain ⟨m, e2, _, hm⟩ := DataW.trod_int Try.underlying25 h2
  obtain ⟨b, hb, e3⟩ := open_bytes Buf.UH Buf.UB cB cH h3
  have b0 := bounds_u64 hm
  rw [cS] at hl
  refine ⟨⟨k, s, m.toNat, b⟩, ⟨by show m.toNat < _; omega, hb, by unfold maxLen at hs; exact hs⟩, ?_⟩
  have hcs := split4 cs hl
  have f0 : (cs.drop 0).take (Try.prog.cellsOf 3) = [.int .i64 k] := e0
  rw [c1] at f0
  have f1 : (cs.drop 1).take (Try.prog.cellsOf 9) = [.string s] := e1
  rw [c2] at f1
  have f2 : (cs.drop 2).take (Try.prog.cellsOf 25) = [.int .u64 m] := e2
  rw [c3] at f2
  have f3 : (cs.drop 3).take (Try.prog.cellsOf 24) = hc b := e3
  rw [cH] at f3
  rw [f0, f1, f2, f3] at hcs
  rw [hcs]
  unfold Buf.St.c Buf.stepC
  simp only [List.cons_append, List.nil_append]
  rw [Int.toNat_of_nonneg b0.1]
end Go.Proofs.Ytgdlhcopgfgmaaa.Bk
