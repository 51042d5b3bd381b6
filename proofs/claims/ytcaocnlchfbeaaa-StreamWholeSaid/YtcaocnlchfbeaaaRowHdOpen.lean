/- How a header is opened. -/
import Derived.Test.YtcaocnlchfbeaaaRows
import Derived.Test.YtcaocnlchfbeaaaOpen
import Derived.WalkKit
import Derived.ProofKit
import Derived.OpenShut
import Derived.ShutString
import Derived.ChangeOld
import Derived.Below
import Derived.SizedLaws
import Derived.Lib.SmallJoins
import Derived.Test.YtcaocnlchfbeaaaBc
namespace Go.Proofs.Ytcaocnlchfbeaaa.Hd
open Go.ChangeShapes Go.WideShapes Go.ChangeAt Go.RowKit Go.Proofs.Ytcaocnlchfbeaaa.Mk
theorem cHd : Try.prog.cellsOf 38 = 66 := by kernel_rfl
theorem cHash : Try.prog.cellsOf 35 = 32 := by kernel_rfl
theorem cByte : Try.prog.cellsOf 5 = 1 := by kernel_rfl
theorem c32 : Try.prog.cellsOf 33 = 1 := by kernel_rfl
theorem c64 : Try.prog.cellsOf 36 = 1 := by kernel_rfl
theorem splitHd (cs : List Value) (h : cs.length = 66) : cs = (cs.drop 0).take 1 ++ ((cs.drop 1).take 32 ++ ((cs.drop 33).take 32 ++ (cs.drop 65).take 1)) := by
  have a3 : (cs.drop 65).take 1 = cs.drop 65 := List.take_of_length_le (by simp [h])
  have a2 : (cs.drop 33).take 32 ++ cs.drop 65 = cs.drop 33 := by
    rw [show cs.drop 65 = (cs.drop 33).drop 32 by rw [List.drop_drop], List.take_append_drop]
  have a1 : (cs.drop 1).take 32 ++ cs.drop 33 = cs.drop 1 := by
    rw [show cs.drop 33 = (cs.drop 1).drop 32 by rw [List.drop_drop], List.take_append_drop]
  rw [a3, a2, a1, List.drop_zero, List.take_append_drop]
theorem open_hd {H : Type} {enc : TypeId × Value → H} {w : World} {base : Nat} {spare : Nat → Bool} {held : Bool} {fuel : Nat} {cs : List Value} {x : DataW H × List MemPlace}
    (h : DataW.trod enc Try.prog w base spare held fuel 38 cs = some x) : ∃ y : Hd, y.Ok ∧ cs = y.c := by
  obtain ⟨y0, y1, y2, y3, n, _, hl, h0, h1, h2, h3⟩ := Go.Joins.trod_struct4 Try.underlying38 h
  obtain ⟨a, e0, _, ha⟩ := DataW.trod_int Try.underlying33 h0
  obtain ⟨l, hl1, e1⟩ := open_bytes UH UB cByte cHash h1
  obtain ⟨t, hl2, e2⟩ := open_bytes UH UB cByte cHash h2
  obtain ⟨m, e3, _, hm⟩ := DataW.trod_int Try.underlying36 h3
  have b0 := bounds_u32 ha
  have b3 := bounds_u64 hm
  rw [cHd] at hl
  have hok : Hd.Ok ⟨a.toNat, l, t, m.toNat⟩ := by
    refine ⟨?_, hl1, hl2, ?_⟩
    · simp only; omega
    · simp only; omega
  refine ⟨⟨a.toNat, l, t, m.toNat⟩, hok, ?_⟩
  have hcs := splitHd cs hl
  have f0 : (cs.drop 0).take (Try.prog.cellsOf 33) = [.int .u32 a] := e0
  rw [c32] at f0
  have f1 : (cs.drop 1).take (Try.prog.cellsOf 35) = hc l := e1
  rw [cHash] at f1
  have f2 : (cs.drop 33).take (Try.prog.cellsOf 35) = hc t := e2
  rw [cHash] at f2
  have f3 : (cs.drop 65).take (Try.prog.cellsOf 36) = [.int .u64 m] := e3
  rw [c64] at f3
  rw [f0, f1, f2, f3] at hcs
  rw [hcs]
  unfold Hd.c
  simp only [List.cons_append, List.nil_append]
  rw [Int.toNat_of_nonneg b0.1, Int.toNat_of_nonneg b3.1]
end Go.Proofs.Ytcaocnlchfbeaaa.Hd
