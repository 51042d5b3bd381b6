/- How a list of chapter 8's steps is opened. -/
import Derived.Test.YtgdlhcopgfgmaaaRows
import Derived.Test.YtgdlhcopgfgmaaaOpen
import Derived.WalkKit
import Derived.ProofKit
import Derived.OpenShut
import Derived.ShutString
import Derived.ChangeOld
import Derived.Below
import Derived.SizedLaws
import Derived.Lib.SmallJoins
import Derived.Test.YtgdlhcopgfgmaaaCurL
namespace Go.Proofs.Ytgdlhcopgfgmaaa.Cur
open Go.ChangeShapes Go.WideShapes Go.ChangeAt Go.RowKit Go.Proofs.Ytgdlhcopgfgmaaa.Mk
theorem cSt : Try.prog.cellsOf 50 = 4 := by kernel_rfl
theorem bSt : Try.prog.bytesOf 50 = 32 := by kernel_rfl
theorem ok_mk {k n : Int} {m : Nat} {e : Int} (h1 : n ≤ 9223372036854775807) (h2 : -9223372036854775808 ≤ n) : St.Ok ⟨k, n, m, e⟩ := ⟨h1, h2⟩
theorem c1 : Try.prog.cellsOf 3 = 1 := by kernel_rfl
theorem c3 : Try.prog.cellsOf 25 = 1 := by kernel_rfl
theorem split4 (cs : List Value) (h : cs.length = 4) : cs = (cs.drop 0).take 1 ++ ((cs.drop 1).take 1 ++ ((cs.drop 2).take 1 ++ (cs.drop 3).take 1)) := by
  match cs, h with
  | [a, b, c, d], _ => rfl
theorem open_step {H : Type} {enc : TypeId × Value → H} {w : World} {base : Nat} {spare : Nat → Bool} {held : Bool} {fuel : Nat} {cs : List Value} {x : DataW H × List MemPlace}
    (h : DataW.trod enc Try.prog w base spare held fuel 50 cs = some x) : ∃ y : St, y.Ok ∧ cs = y.c := by
  obtain ⟨y0, y1, y2, y3, n, _, hl, h0, h1, h2, h3⟩ := Go.Joins.trod_struct4 Try.underlying50 h
  obtain ⟨k, e0, _, _⟩ := DataW.trod_int Try.underlying3 h0
  obtain ⟨s, e1, _, hs⟩ := DataW.trod_int Try.underlying3 h1
  obtain ⟨m, e2, _, hm⟩ := DataW.trod_int Try.underlying25 h2
  obtain ⟨e, e3, _, _⟩ := DataW.trod_int Try.underlying3 h3
  have b0 := bounds_u64 hm
  have b1 := bounds_i64 hs
  rw [cSt] at hl
  refine ⟨⟨k, s, m.toNat, e⟩, ok_mk (by omega) (by omega), ?_⟩
  have hcs := split4 cs hl
  have f0 : (cs.drop 0).take (Try.prog.cellsOf 3) = [.int .i64 k] := e0
  rw [c1] at f0
  have f1 : (cs.drop 1).take (Try.prog.cellsOf 3) = [.int .i64 s] := e1
  rw [c1] at f1
  have f2 : (cs.drop 2).take (Try.prog.cellsOf 25) = [.int .u64 m] := e2
  rw [c3] at f2
  have f3 : (cs.drop 3).take (Try.prog.cellsOf 3) = [.int .i64 e] := e3
  rw [c1] at f3
  rw [f0, f1, f2, f3] at hcs
  rw [hcs]
  unfold St.c
  simp only [List.cons_append, List.nil_append]
  rw [Int.toNat_of_nonneg b0.1]
end Go.Proofs.Ytgdlhcopgfgmaaa.Cur
