/- How a sum among the arguments is opened. -/
import Derived.Test.YtihdeanfcbiflaaDoorRows
import Derived.Test.YtihdeanfcbiflaaDoorOpen
import Derived.WalkKit
import Derived.ProofKit
import Derived.OpenShut
import Derived.ShutString
import Derived.ChangeOld
import Derived.Below
import Derived.SizedLaws
import Derived.Test.YtihdeanfcbiflaaDoorHf
namespace Go.Proofs.YtihdeanfcbiflaaDoor.Hf
open Go.ChangeShapes Go.WideShapes Go.ChangeAt Go.RowKit Go.Proofs.YtihdeanfcbiflaaDoor.Mk
theorem cHash : Tryd.prog.cellsOf 74 = 32 := by kernel_rfl
theorem cByte : Tryd.prog.cellsOf 5 = 1 := by kernel_rfl
theorem okWide_array {P : Program} {w : World} {r : Reach} {base n : Nat} {e t : TypeId} {v : Value} (ht : P.underlying t = some (.array n e)) (h : Value.okWide P w r base t v) : ∃ cs, v = .agg cs ∧ cs.size = P.cellsOf t := by
  simp only [Value.okWide, ht] at h
  obtain ⟨cs, h1, h2, _⟩ := h
  exact ⟨cs, h1, h2⟩
set_option maxRecDepth 100000 in
theorem open_hash {H : Type} {enc : TypeId × Value → H} {w : World} {base : Nat} {spare : Nat → Bool} {held : Bool} {v : Value} {d : DataW H} {ps : List MemPlace} {r : Reach} {b0 : Nat}
    (hv : Value.okWide Tryd.prog w r b0 74 v) (h : DataW.Trod enc Tryd.prog w base spare held 74 v d ps) : ∃ l : List UInt8, l.length = 32 ∧ v = Mk.hv l := by
  obtain ⟨cs, rfl, hsz⟩ := okWide_array UH hv
  obtain ⟨m, hm⟩ := h
  obtain ⟨l, hl, e⟩ := open_bytes UH UB cByte cHash hm
  refine ⟨l, hl, ?_⟩
  unfold Mk.hv
  rw [← e]
  simp [Value.cells]
end Go.Proofs.YtihdeanfcbiflaaDoor.Hf
