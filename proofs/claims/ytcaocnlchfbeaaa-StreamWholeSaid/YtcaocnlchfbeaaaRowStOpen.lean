/- How a step is opened. -/
import Derived.Test.YtcaocnlchfbeaaaRows
import Derived.Test.YtcaocnlchfbeaaaOpen
import Derived.WalkKit
import Derived.ProofKit
import Derived.OpenShut
import Derived.ShutString
import Derived.ChangeOld
import Derived.Below
import Derived.SizedLaws
import Derived.Lib.SmallJoins
import Derived.Deep.Strs
import Derived.Test.YtcaocnlchfbeaaaRowHdOpen
import Derived.Test.YtcaocnlchfbeaaaBi
namespace Go.Proofs.Ytcaocnlchfbeaaa.Stp
open Go.ChangeShapes Go.WideShapes Go.ChangeAt Go.RowKit Go.Proofs.Ytcaocnlchfbeaaa.Mk Go.Proofs.Ytcaocnlchfbeaaa.Op Go.Proofs.Ytcaocnlchfbeaaa.Hd Go.Proofs.Ytcaocnlchfbeaaa.St
theorem cSt : Try.prog.cellsOf 43 = 69 := by kernel_rfl
theorem cOp : Try.prog.cellsOf 41 = 3 := by kernel_rfl
theorem cI : Try.prog.cellsOf 3 = 1 := by kernel_rfl
theorem cP : Try.prog.cellsOf 39 = 1 := by kernel_rfl
theorem bH : Try.prog.bytesOf 35 = 32 := by kernel_rfl
theorem cut2 (cs : List Value) (h : cs.length = 69) : cs = (cs.drop 0).take 66 ++ (cs.drop 66).take 3 := by
  rw [List.take_of_length_le (l := cs.drop 66) (by simp [h]), List.drop_zero, List.take_append_drop]
theorem cut3 (cs : List Value) (h : cs.length = 3) : cs = (cs.drop 0).take 1 ++ ((cs.drop 1).take 1 ++ (cs.drop 2).take 1) := by
  match cs, h with
  | [a, b, c], _ => rfl
theorem open_stp {H : Type} {enc : TypeId × Value → H} {w : World} {base : Nat} {spare : Nat → Bool} {held : Bool} {fuel j : Nat} {cs : List Value} {x : DataW H × List MemPlace} {ts : List TypeId} {ds : List (DataW H)}
    (hr : (DataW.weightsEach Try.prog ts ds).all (· ≤ reachBytes) = true) (htj : ts[j]? = some 43) (hdj : ds[j]? = some x.1)
    (h : DataW.trod enc Try.prog w base spare held fuel 43 cs = some x) : ∃ (y : Hd) (o : Opn) (sv : Value), y.Ok ∧ OOk o ∧ cs = sc y o sv ∧ SL hc 32 w sv o.p := by
  obtain ⟨y0, y1, n, hx, hl, h0, h1⟩ := trod_struct2 Try.underlying43 h
  obtain ⟨z0, z1, z2, m, hx1, hl1, k0, k1, k2⟩ := Go.Deep.trod_struct3 Try.underlying41 h1
  obtain ⟨hd, okh, e0⟩ := open_hd h0
  obtain ⟨i, ei, _, hi⟩ := DataW.trod_int Try.underlying3 k0
  obtain ⟨c, ec, _, hc'⟩ := DataW.trod_int Try.underlying3 k1
  have bi := bounds_i64 hi
  have f0 : (cs.drop 0).take (Try.prog.cellsOf 38) = hd.c := e0
  rw [cHd] at f0
  have f1 : ∃ q, q = (cs.drop 66).take (Try.prog.cellsOf 41) := ⟨_, rfl⟩
  obtain ⟨q, hq⟩ := f1
  have hl2 : q.length = 3 := by rw [hq]; exact hl1.trans cOp
  have g0 : (q.drop 0).take (Try.prog.cellsOf 3) = [.int .i64 i] := by rw [hq]; exact ei
  have g1 : (q.drop 1).take (Try.prog.cellsOf 3) = [.int .i64 c] := by rw [hq]; exact ec
  have g2 : DataW.trod enc Try.prog w base spare held m 39 ((q.drop 2).take (Try.prog.cellsOf 39)) = some z2 := by rw [hq]; exact k2
  rw [cOp] at hq
  rw [cI] at g0 g1
  rw [cP] at g2
  have hshape : ∃ A len cap, (q.drop 2).take 1 = [.slice A len cap] := by
    rcases Go.Deep.open_slice Try.underlying39 g2 with ⟨e, _⟩ | ⟨ad, len, cap, _, _, _, _, e, _⟩
    · exact ⟨_, _, _, e⟩
    · exact ⟨_, _, _, e⟩
  obtain ⟨A, len, cap, hs⟩ := hshape
  rw [hs] at g2
  have hw : (DataW.weightsEach Try.prog [39] [z2.1]).all (· ≤ reachBytes) = true := by
    apply List.all_eq_true.2
    intro n hn
    refine List.all_eq_true.1 hr n (DataW.weights_mem_each htj hdj n ?_)
    have hn1 : n ∈ z2.1.weights Try.prog 39 := by simpa [DataW.weightsEach] using hn
    rw [hx]
    simp only [DataW.weights, Try.underlying43]
    refine DataW.weights_mem_each (j := 1) (t := 41) (d := y1.1) rfl rfl n ?_
    rw [hx1]
    simp only [DataW.weights, Try.underlying41]
    exact DataW.weights_mem_each (j := 2) (t := 39) (d := z2.1) rfl rfl n hn1
  obtain ⟨p, hp, s, hp32, _⟩ := open_flat (encA := hc) (Py := fun l => l.length = 32) (j := 0) Try.underlying39 cHash (by decide) bH (by decide) (fun n cs x hx => by obtain ⟨l, hl, hc⟩ := open_bytes UH UB cByte cHash hx; exact ⟨l, hl, hc⟩) hw rfl rfl ⟨m, by simpa [Value.cells] using g2⟩
  refine ⟨hd, ⟨i, c, p⟩, .slice A len cap, okh, ⟨by show i ≤ _; omega, by show _ ≤ i; omega, hp32⟩, ?_, s⟩
  have hcs := cut2 cs (hl.trans cSt)
  rw [f0, ← hq] at hcs
  have hqs := cut3 q hl2
  rw [g0, g1, hs] at hqs
  rw [hcs, hqs]
  rfl
end Go.Proofs.Ytcaocnlchfbeaaa.Stp
