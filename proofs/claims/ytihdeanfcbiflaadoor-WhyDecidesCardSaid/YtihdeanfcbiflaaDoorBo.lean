import Derived.Test.YtihdeanfcbiflaaDoorRows
import Derived.Test.YtihdeanfcbiflaaDoorOpen
import Derived.WalkKit
import Derived.ProofKit
import Derived.OpenShut
import Derived.ShutString
import Derived.ChangeOld
import Derived.Below
import Derived.SizedLaws
import Derived.Test.YtihdeanfcbiflaaDoorHf
import Derived.Lib.SmallJoins
import Derived.Deep.Strs
import Derived.Test.YtihdeanfcbiflaaDoorBm
/- How a sum among the arguments is opened. -/
namespace Go.Proofs.YtihdeanfcbiflaaDoor.Hf
open Go.ChangeShapes Go.WideShapes Go.ChangeAt Go.RowKit Go.Proofs.YtihdeanfcbiflaaDoor.Mk
theorem cHash : Tryd.prog.cellsOf 74 = 32 := by kernel_rfl
theorem cByte : Tryd.prog.cellsOf 5 = 1 := by kernel_rfl
theorem okWide_array {P : Program} {w : World} {r : Reach} {base n : Nat} {e t : TypeId} {v : Value} (ht : P.underlying t = some (.array n e)) (h : Value.okWide P w r base t v) : ∃ cs, v = .agg cs ∧ cs.size = P.cellsOf t := by
  simp only [Value.okWide, ht] at h
  obtain ⟨cs, h1, h2, _⟩ := h
  exact ⟨cs, h1, h2⟩
set_option maxRecDepth 100000 in
theorem open_hash {H : Type} {enc : TypeId × Value → H} {w : World} {base : Nat} {spare : Nat → Bool} {held : Bool} {v : Value} {d : DataW H} {ps : List MemPlace} {r : Reach} {b0 : Nat}
    (hv : Value.okWide Tryd.prog w r b0 74 v) (h : DataW.Trod enc Tryd.prog w base spare held 74 v d ps) : ∃ l : List UInt8, l.length = 32 ∧ v = Mk.hv l := by
  obtain ⟨cs, rfl, hsz⟩ := okWide_array UH hv
  obtain ⟨m, hm⟩ := h
  obtain ⟨l, hl, e⟩ := open_bytes UH UB cByte cHash hm
  refine ⟨l, hl, ?_⟩
  unfold Mk.hv
  rw [← e]
  simp [Value.cells]
end Go.Proofs.YtihdeanfcbiflaaDoor.Hf

/- How a side among the arguments is opened. -/
namespace Go.Proofs.YtihdeanfcbiflaaDoor.Wh
open Go.ChangeShapes Go.WideShapes Go.ChangeAt Go.RowKit Go.Proofs.YtihdeanfcbiflaaDoor.Mk Go.Proofs.YtihdeanfcbiflaaDoor.Ul Go.Proofs.YtihdeanfcbiflaaDoor.Wi Go.Proofs.YtihdeanfcbiflaaDoor.Lg Go.Proofs.YtihdeanfcbiflaaDoor.Up Go.Proofs.YtihdeanfcbiflaaDoor.Hf
theorem bHs : Tryd.prog.bytesOf 74 = 32 := by kernel_rfl
theorem bIn : Tryd.prog.bytesOf 3 = 8 := by kernel_rfl
theorem cIn : Tryd.prog.cellsOf 3 = 1 := by kernel_rfl
theorem cSH : Tryd.prog.cellsOf 35 = 1 := by kernel_rfl
theorem cSI : Tryd.prog.cellsOf 36 = 1 := by kernel_rfl
theorem cSd : Tryd.prog.cellsOf 38 = 2 := by kernel_rfl
theorem cut2 (cs : List Value) (h : cs.length = 2) : cs = (cs.drop 0).take 1 ++ (cs.drop 1).take 1 := by
  match cs, h with
  | [a, b], _ => rfl
section
variable {H : Type} {enc : TypeId × Value → H} {w : World} {base : Nat} {spare : Nat → Bool} {held : Bool}
theorem slice_shape {e t : TypeId} {fuel : Nat} {cs : List Value} {x : DataW H × List MemPlace} (ht : Tryd.prog.underlying t = some (.slice e)) (h : DataW.trod enc Tryd.prog w base spare held fuel t cs = some x) : ∃ A len cap, cs = [.slice A len cap] := by
  rcases Go.Deep.open_slice ht h with ⟨e, _⟩ | ⟨ad, len, cap, _, _, _, _, e, _⟩
  · exact ⟨_, _, _, e⟩
  · exact ⟨_, _, _, e⟩
set_option maxRecDepth 100000 in
theorem open_side {fuel j : Nat} {cs : List Value} {x : DataW H × List MemPlace} {ts : List TypeId} {ds : List (DataW H)}
    (hr : (DataW.weightsEach Tryd.prog ts ds).all (· ≤ reachBytes) = true) (htj : ts[j]? = some 38) (hdj : ds[j]? = some x.1)
    (h : DataW.trod enc Tryd.prog w base spare held fuel 38 cs = some x) : ∃ (ids : List (List UInt8)) (zs : List Int), SD w (.agg cs.toArray) ids zs ∧ ∀ l ∈ ids, l.length = 32 := by
  obtain ⟨y0, y1, n, hx, hl, h0, h1⟩ := trod_struct2 Tryd.underlying38 h
  rw [hx] at hdj
  have g0 : DataW.trod enc Tryd.prog w base spare held n 35 ((cs.drop 0).take (Tryd.prog.cellsOf 35)) = some y0 := h0
  have g1 : DataW.trod enc Tryd.prog w base spare held n 36 ((cs.drop 1).take (Tryd.prog.cellsOf 36)) = some y1 := h1
  rw [cSH] at g0
  rw [cSI] at g1
  obtain ⟨A, len, cap, e0⟩ := slice_shape Tryd.underlying35 g0
  obtain ⟨B, len2, cap2, e1⟩ := slice_shape Tryd.underlying36 g1
  rw [e0] at g0
  rw [e1] at g1
  have w0 : (DataW.weightsEach Tryd.prog [35] [y0.1]).all (· ≤ reachBytes) = true := by
    apply List.all_eq_true.2
    intro k hk
    refine List.all_eq_true.1 hr k (DataW.weights_mem_each htj hdj k ?_)
    simp only [DataW.weights, Tryd.underlying38]
    exact DataW.weights_mem_each (j := 0) (t := 35) (d := y0.1) rfl rfl k (by simpa [DataW.weightsEach] using hk)
  have w1 : (DataW.weightsEach Tryd.prog [36] [y1.1]).all (· ≤ reachBytes) = true := by
    apply List.all_eq_true.2
    intro k hk
    refine List.all_eq_true.1 hr k (DataW.weights_mem_each htj hdj k ?_)
    simp only [DataW.weights, Tryd.underlying38]
    exact DataW.weights_mem_each (j := 1) (t := 36) (d := y1.1) rfl rfl k (by simpa [DataW.weightsEach] using hk)
  obtain ⟨p, hp, s, hp32, _⟩ := open_flat (encA := hc) (Py := fun l => l.length = 32) (j := 0) Tryd.underlying35 cHash (by decide) bHs (by decide) (fun n cs x hx => by obtain ⟨l, hl, hc⟩ := open_bytes UH UB cByte cHash hx; exact ⟨l, hl, hc⟩) w0 rfl rfl ⟨n, by simpa [Value.cells] using g0⟩
  obtain ⟨q, hq, s2, _, _⟩ := open_flat (encA := E1 Up.zI) (Py := fun _ => True) (j := 0) Tryd.underlying36 cIn (by decide) bIn (by decide) (fun n cs x hx => by obtain ⟨z, ez, _, _⟩ := DataW.trod_int Tryd.underlying3 hx; exact ⟨z, trivial, ez⟩) w1 rfl rfl ⟨n, by simpa [Value.cells] using g1⟩
  have hcs := cut2 cs (hl.trans cSd)
  rw [e0, e1] at hcs
  exact ⟨p, q, ⟨_, _, by rw [hcs]; rfl, s, s2⟩, hp32⟩
end
end Go.Proofs.YtihdeanfcbiflaaDoor.Wh
