/- How the numbers among the arguments of chapter 6's laws are opened. -/
import Derived.Test.YtfelbjiflceopaaRows
import Derived.Test.YtfelbjiflceopaaOpen
import Derived.WalkKit
import Derived.ProofKit
import Derived.OpenShut
import Derived.ShutString
import Derived.ChangeOld
import Derived.Below
import Derived.SizedLaws
import Derived.Test.YtfelbjiflceopaaLgMath
import Derived.Test.YtfelbjiflceopaaProg
namespace Go.Proofs.Ytfelbjiflceopaa.Rt
open Go.ChangeShapes Go.WideShapes Go.ChangeAt Go.RowKit Go.Proofs.Ytfelbjiflceopaa.Mk
theorem okWide_arr {P : Program} {w : World} {r : Reach} {base n : Nat} {e t : TypeId} {v : Value} (ht : P.underlying t = some (.array n e)) (h : Value.okWide P w r base t v) : ∃ cs, v = .agg cs ∧ cs.size = P.cellsOf t := by
  simp only [Value.okWide, ht] at h
  obtain ⟨cs, h1, h2, _⟩ := h
  exact ⟨cs, h1, h2⟩
section
variable {H : Type} {enc : TypeId × Value → H} {P : Program} {w : World} {base : Nat} {spare : Nat → Bool} {held : Bool} {v : Value} {d : DataW H} {ps : List MemPlace} {r : Reach} {b0 : Nat}
theorem open_arr {n : Nat} {k : IntKind} {t e : TypeId} (ht : P.underlying t = some (.array n e)) (he : P.underlying e = some (.int k)) (hc : P.cellsOf e = 1) (hct : P.cellsOf t = n)
    (hv : Value.okWide P w r b0 t v) (h : DataW.Trod enc P w base spare held t v d ps) : ∃ zs : List Int, zs.length = n ∧ v = .agg (zs.map (Value.int k)).toArray ∧ ∀ z ∈ zs, (Lit.int k z).wf = true := by
  obtain ⟨cs, rfl, hsz⟩ := okWide_arr ht hv
  obtain ⟨m, hm⟩ := h
  obtain ⟨zs, hl, e, hw⟩ := open_nums ht he hc hct hm
  refine ⟨zs, hl, ?_, hw⟩
  rw [← e]
  simp [Value.cells]
theorem open_arr3 {k : IntKind} {t e : TypeId} (ht : P.underlying t = some (.array 3 e)) (he : P.underlying e = some (.int k)) (hc : P.cellsOf e = 1) (hct : P.cellsOf t = 3)
    (hv : Value.okWide P w r b0 t v) (h : DataW.Trod enc P w base spare held t v d ps) : ∃ x y z : Int, v = .agg #[.int k x, .int k y, .int k z] ∧ (Lit.int k x).wf = true ∧ (Lit.int k y).wf = true ∧ (Lit.int k z).wf = true := by
  obtain ⟨zs, hl, rfl, hw⟩ := open_arr ht he hc hct hv h
  match zs, hl, hw with
  | [x, y, z], _, hw => exact ⟨x, y, z, rfl, hw x (by simp), hw y (by simp), hw z (by simp)⟩
theorem open_arr2 {k : IntKind} {t e : TypeId} (ht : P.underlying t = some (.array 2 e)) (he : P.underlying e = some (.int k)) (hc : P.cellsOf e = 1) (hct : P.cellsOf t = 2)
    (hv : Value.okWide P w r b0 t v) (h : DataW.Trod enc P w base spare held t v d ps) : ∃ x y : Int, v = .agg #[.int k x, .int k y] ∧ (Lit.int k x).wf = true ∧ (Lit.int k y).wf = true := by
  obtain ⟨zs, hl, rfl, hw⟩ := open_arr ht he hc hct hv h
  match zs, hl, hw with
  | [x, y], _, hw => exact ⟨x, y, rfl, hw x (by simp), hw y (by simp)⟩
theorem open_arr22 {k : IntKind} {t e i : TypeId} (ht : P.underlying t = some (.array 2 e)) (he : P.underlying e = some (.array 2 i)) (hi : P.underlying i = some (.int k)) (hci : P.cellsOf i = 1) (hce : P.cellsOf e = 2) (hct : P.cellsOf t = 4)
    (hv : Value.okWide P w r b0 t v) (h : DataW.Trod enc P w base spare held t v d ps) : ∃ x y z u : Int, v = .agg #[.int k x, .int k y, .int k z, .int k u] ∧ (Lit.int k x).wf = true ∧ (Lit.int k y).wf = true ∧ (Lit.int k z).wf = true ∧ (Lit.int k u).wf = true := by
  obtain ⟨cs, rfl, hsz⟩ := okWide_arr ht hv
  obtain ⟨m, hm⟩ := h
  obtain ⟨xs, m2, _, _, hl, hxl, hx⟩ := DataW.trod_array ht hm
  have h0 := hx 0 (by omega)
  have h1 := hx 1 (by omega)
  rw [hce, List.getElem?_eq_getElem (by omega)] at h0 h1
  obtain ⟨z0, l0, e0, w0⟩ := open_nums he hi hci hce h0
  obtain ⟨z1, l1, e1, w1⟩ := open_nums he hi hci hce h1
  match z0, l0, e0, w0, z1, l1, e1, w1 with
  | [x, y], _, e0, w0, [z, u], _, e1, w1 =>
    refine ⟨x, y, z, u, ?_, w0 x (by simp), w0 y (by simp), w1 z (by simp), w1 u (by simp)⟩
    rw [hct] at hl
    have hcs : (Value.agg cs).cells.toList = cs.toList := by simp [Value.cells]
    first
    | rw [hcs] at e0 e1 hl
    | skip
    have e : cs.toList = [.int k x, .int k y, .int k z, .int k u] := by
      have hl4 : cs.toList.length = 4 := by simpa [Value.cells] using hl
      simp at e0 e1
      match hc : cs.toList, hl4 with
      | [p, q, r, s], _ =>
        rw [hc] at e0 e1
        simp at e0 e1
        rw [e0.1, e0.2, e1.1, e1.2]
    rw [← Array.toArray_toList (xs := cs), e]
end
end Go.Proofs.Ytfelbjiflceopaa.Rt
