/- How an infix is opened. -/
import Derived.Test.YtcaocnlchfbeaaaRows
import Derived.Test.YtcaocnlchfbeaaaOpen
import Derived.WalkKit
import Derived.ProofKit
import Derived.OpenShut
import Derived.ShutString
import Derived.ChangeOld
import Derived.Below
import Derived.SizedLaws
import Derived.Test.YtcaocnlchfbeaaaRowPfOpen
import Derived.Test.YtcaocnlchfbeaaaIf
namespace Go.Proofs.Ytcaocnlchfbeaaa.If
open Go.ChangeShapes Go.WideShapes Go.ChangeAt Go.RowKit Go.Proofs.Ytcaocnlchfbeaaa.Mk Go.Proofs.Ytcaocnlchfbeaaa.Op Go.Proofs.Ytcaocnlchfbeaaa.Hd Go.Proofs.Ytcaocnlchfbeaaa.St Go.Proofs.Ytcaocnlchfbeaaa.Stp Go.Proofs.Ytcaocnlchfbeaaa.Tk Go.Proofs.Ytcaocnlchfbeaaa.Pf
section
variable {H : Type} {enc : TypeId × Value → H} {w : World} {base : Nat} {spare : Nat → Bool} {held : Bool}
theorem slice_shape {e t : TypeId} {fuel : Nat} {cs : List Value} {x : DataW H × List MemPlace} (ht : Try.prog.underlying t = some (.slice e)) (h : DataW.trod enc Try.prog w base spare held fuel t cs = some x) : ∃ A len cap, cs = [.slice A len cap] := by
  rcases Go.Deep.open_slice ht h with ⟨e, _⟩ | ⟨ad, len, cap, _, _, _, _, e, _⟩
  · exact ⟨_, _, _, e⟩
  · exact ⟨_, _, _, e⟩
theorem weights_one {ts : List TypeId} {ds : List (DataW H)} {j : Nat} {t : TypeId} {d : DataW H} (hr : (DataW.weightsEach Try.prog ts ds).all (· ≤ reachBytes) = true) (htj : ts[j]? = some t) (hdj : ds[j]? = some d) : (DataW.weightsEach Try.prog [t] [d]).all (· ≤ reachBytes) = true := by
  apply List.all_eq_true.2
  intro n hn
  refine List.all_eq_true.1 hr n (DataW.weights_mem_each htj hdj n ?_)
  simpa [DataW.weightsEach] using hn
theorem open_opn {fuel : Nat} {cs : List Value} {x : DataW H × List MemPlace} (hr : (DataW.weightsEach Try.prog [41] [x.1]).all (· ≤ reachBytes) = true)
    (h : DataW.trod enc Try.prog w base spare held fuel 41 cs = some x) : ∃ (o : Opn) (sv : Value), OOk o ∧ cs = (oc o.i o.c sv).toList ∧ SL hc 32 w sv o.p := by
  obtain ⟨z0, z1, z2, m, hx1, hl1, k0, k1, k2⟩ := Go.Deep.trod_struct3 Try.underlying41 h
  obtain ⟨i, ei, _, hi⟩ := DataW.trod_int Try.underlying3 k0
  obtain ⟨c, ec, _, hc'⟩ := DataW.trod_int Try.underlying3 k1
  have bi := bounds_i64 hi
  have g0 : (cs.drop 0).take (Try.prog.cellsOf 3) = [.int .i64 i] := ei
  have g1 : (cs.drop 1).take (Try.prog.cellsOf 3) = [.int .i64 c] := ec
  have g2 : DataW.trod enc Try.prog w base spare held m 39 ((cs.drop 2).take (Try.prog.cellsOf 39)) = some z2 := k2
  rw [cI] at g0 g1
  rw [cP] at g2
  obtain ⟨A, len, cap, hs⟩ := slice_shape Try.underlying39 g2
  rw [hs] at g2
  rw [hx1] at hr
  have hw : (DataW.weightsEach Try.prog [39] [z2.1]).all (· ≤ reachBytes) = true := by
    apply List.all_eq_true.2
    intro n hn
    refine List.all_eq_true.1 hr n ?_
    have hn1 : n ∈ z2.1.weights Try.prog 39 := by simpa [DataW.weightsEach] using hn
    refine DataW.weights_mem_each (j := 0) (t := 41) rfl rfl n ?_
    simp only [DataW.weights, Try.underlying41]
    exact DataW.weights_mem_each (j := 2) (t := 39) (d := z2.1) rfl rfl n hn1
  obtain ⟨p, hp, s, hp32, _⟩ := open_flat (encA := hc) (Py := fun l => l.length = 32) (j := 0) Try.underlying39 cHash (by decide) bH (by decide) (fun n cs x hx => by obtain ⟨l, hl, hc⟩ := open_bytes UH UB cByte cHash hx; exact ⟨l, hl, hc⟩) hw rfl rfl ⟨m, by simpa [Value.cells] using g2⟩
  refine ⟨⟨i, c, p⟩, .slice A len cap, ⟨by show i ≤ _; omega, by show _ ≤ i; omega, hp32⟩, ?_, s⟩
  have hqs := cut3 cs (hl1.trans cOp)
  rw [g0, g1, hs] at hqs
  rw [hqs]
  rfl
theorem cInf : Try.prog.cellsOf 76 = 10 := by kernel_rfl
theorem cSs : Try.prog.cellsOf 23 = 1 := by kernel_rfl
theorem cStr : Try.prog.cellsOf 9 = 1 := by kernel_rfl
theorem cut10 (cs : List Value) (h : cs.length = 10) : cs = (cs.drop 0).take 1 ++ ((cs.drop 1).take 1 ++ ((cs.drop 2).take 3 ++ ((cs.drop 5).take 1 ++ ((cs.drop 6).take 1 ++ (cs.drop 7).take 3)))) := by
  match cs, h with
  | [a, b, c, d, e, f, g, h, i, j], _ => rfl
set_option maxRecDepth 100000 in
theorem open_inf {fuel j : Nat} {cs : List Value} {x : DataW H × List MemPlace} {ts : List TypeId} {ds : List (DataW H)}
    (hr : (DataW.weightsEach Try.prog ts ds).all (· ≤ reachBytes) = true) (htj : ts[j]? = some 76) (hdj : ds[j]? = some x.1)
    (h : DataW.trod enc Try.prog w base spare held fuel 76 cs = some x) : ∃ (y : Inf), IOk y ∧ IV w (.agg cs.toArray) y := by
  have hr := weights_one hr htj hdj
  obtain ⟨xs, n, _, rfl, hl, hlen, hf⟩ := DataW.trod_struct Try.underlying76 h
  have hlen : xs.length = 6 := hlen
  match xs, hlen with
  | [y0, y1, y2, y3, y4, y5], _ =>
    have w1 : (DataW.weightsEach Try.prog [23] [y1.1]).all (· ≤ reachBytes) = true := by
      apply List.all_eq_true.2
      intro n hn
      refine List.all_eq_true.1 hr n (DataW.weights_mem_each (j := 0) (t := 76) rfl rfl n ?_)
      simp only [DataW.weights, Try.underlying76]
      exact DataW.weights_mem_each (j := 1) (t := 23) (d := y1.1) rfl rfl n (by simpa [DataW.weightsEach] using hn)
    have w2 : (DataW.weightsEach Try.prog [41] [y2.1]).all (· ≤ reachBytes) = true := by
      apply List.all_eq_true.2
      intro n hn
      refine List.all_eq_true.1 hr n (DataW.weights_mem_each (j := 0) (t := 76) rfl rfl n ?_)
      simp only [DataW.weights, Try.underlying76]
      exact DataW.weights_mem_each (j := 2) (t := 41) (d := y2.1) rfl rfl n (by simpa [DataW.weightsEach] using hn)
    have w4 : (DataW.weightsEach Try.prog [9] [y4.1]).all (· ≤ reachBytes) = true := by
      apply List.all_eq_true.2
      intro n hn
      refine List.all_eq_true.1 hr n (DataW.weights_mem_each (j := 0) (t := 76) rfl rfl n ?_)
      simp only [DataW.weights, Try.underlying76]
      exact DataW.weights_mem_each (j := 4) (t := 9) (d := y4.1) rfl rfl n (by simpa [DataW.weightsEach] using hn)
    have w5 : (DataW.weightsEach Try.prog [41] [y5.1]).all (· ≤ reachBytes) = true := by
      apply List.all_eq_true.2
      intro n hn
      refine List.all_eq_true.1 hr n (DataW.weights_mem_each (j := 0) (t := 76) rfl rfl n ?_)
      simp only [DataW.weights, Try.underlying76]
      exact DataW.weights_mem_each (j := 5) (t := 41) (d := y5.1) rfl rfl n (by simpa [DataW.weightsEach] using hn)
    have h0 : DataW.trod enc Try.prog w base spare held n 3 ((cs.drop 0).take (Try.prog.cellsOf 3)) = some y0 := hf 0 _ rfl
    have h1 : DataW.trod enc Try.prog w base spare held n 23 ((cs.drop 1).take (Try.prog.cellsOf 23)) = some y1 := hf 1 _ rfl
    have h2 : DataW.trod enc Try.prog w base spare held n 41 ((cs.drop 2).take (Try.prog.cellsOf 41)) = some y2 := hf 2 _ rfl
    have h3 : DataW.trod enc Try.prog w base spare held n 3 ((cs.drop 5).take (Try.prog.cellsOf 3)) = some y3 := hf 3 _ rfl
    have h4 : DataW.trod enc Try.prog w base spare held n 9 ((cs.drop 6).take (Try.prog.cellsOf 9)) = some y4 := hf 4 _ rfl
    have h5 : DataW.trod enc Try.prog w base spare held n 41 ((cs.drop 7).take (Try.prog.cellsOf 41)) = some y5 := hf 5 _ rfl
    obtain ⟨a, e0, _, ha⟩ := DataW.trod_int Try.underlying3 h0
    obtain ⟨b, e3, _, hb⟩ := DataW.trod_int Try.underlying3 h3
    obtain ⟨s, e4, hs4, _⟩ := DataW.trod_string Try.underlying9 h4
    obtain ⟨A, len, cap, e1⟩ := slice_shape Try.underlying23 h1
    rw [e1] at h1
    obtain ⟨l, hl1, hl2⟩ := Pf.open_steps (j := 0) w1 rfl rfl ⟨n, by simpa [Value.cells] using h1⟩
    obtain ⟨o, sv, oo, e2, so⟩ := open_opn w2 h2
    obtain ⟨u, su, uo, e5, ss⟩ := open_opn w5 h5
    have ba := bounds_i64 ha
    have bb := bounds_i64 hb
    have hsz : s.size ≤ 140737488351232 := by
      rw [hs4] at w4
      have z := sized_string w4 (j := 0) (t := 9) rfl rfl
      rw [Array.length_toList] at z
      exact z
    have hcs := cut10 cs (hl.trans cInf)
    rw [cI] at e0 e3
    rw [cStr] at e4
    rw [cSs] at e1
    rw [cOp] at e2 e5
    rw [e0, e1, e2, e3, e4, e5] at hcs
    refine ⟨⟨a, l, o, b, s, u⟩, ⟨by show a ≤ _ ∧ _ ≤ a; omega, by show b ≤ _ ∧ _ ≤ b; omega, hsz, hl2, oo, uo⟩, .slice A len cap, sv, su, ?_, hl1, so, ss⟩
    rw [hcs]
    rfl
end
end Go.Proofs.Ytcaocnlchfbeaaa.If
