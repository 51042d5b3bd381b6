/- How a number of 320 bits among the arguments is opened. -/
import Derived.Test.YtihdeanfcbiflaaDoorRows
import Derived.Test.YtihdeanfcbiflaaDoorOpen
import Derived.WalkKit
import Derived.ProofKit
import Derived.OpenShut
import Derived.ShutString
import Derived.ChangeOld
import Derived.Below
import Derived.SizedLaws
import Derived.Test.YtihdeanfcbiflaaDoorHf
import Derived.Test.YtihdeanfcbiflaaDoorBo
import Derived.Test.YtihdeanfcbiflaaDoorLg
namespace Go.Proofs.YtihdeanfcbiflaaDoor.Lg
open Go.ChangeShapes Go.WideShapes Go.ChangeAt Go.RowKit Go.Proofs.YtihdeanfcbiflaaDoor.Mk Go.Proofs.YtihdeanfcbiflaaDoor.Ul Go.Proofs.YtihdeanfcbiflaaDoor.Wi
theorem UNr : Tryd.prog.underlying 26 = some (.array 5 24) := by kernel_rfl
theorem UUr : Tryd.prog.underlying 24 = some (.int .u64) := by kernel_rfl
theorem cNr : Tryd.prog.cellsOf 26 = 5 := by kernel_rfl
theorem cUr : Tryd.prog.cellsOf 24 = 1 := by kernel_rfl
theorem limbs_of (zs : List Int) (n : Nat) (hl : zs.length = n) (h : ∀ z ∈ zs, (Lit.int .u64 z).wf = true) : ∃ X : Nat, X < (2 ^ 64) ^ n ∧ zs.map (Value.int .u64) = FC n (lb X) := by
  have hb : ∀ x ∈ zs.map Int.toNat, x < 2 ^ 64 := by
    intro x hx
    obtain ⟨z, hz, rfl⟩ := List.mem_map.1 hx
    have := bounds_u64 (h z hz)
    omega
  refine ⟨val (2 ^ 64) (zs.map Int.toNat), ?_, ?_⟩
  · have := val_lt _ hb
    rwa [List.length_map, hl] at this
  · subst hl
    apply List.ext_getElem
    · simp [FC]
    · intro i h1 h2
      have hi : i < zs.length := by simpa using h1
      have hz := bounds_u64 (h zs[i] (List.getElem_mem hi))
      have e : lb (val (2 ^ 64) (zs.map Int.toNat)) i = zs[i].toNat := by
        have := dg_val (zs.map Int.toNat) i hb (by simpa using hi)
        rw [List.getElem_map] at this
        exact this
      simp only [FC, List.getElem_map, List.getElem_range, e]
      congr 1
      omega
set_option maxRecDepth 100000 in
theorem open_large {H : Type} {enc : TypeId × Value → H} {w : World} {base : Nat} {spare : Nat → Bool} {held : Bool} {v : Value} {d : DataW H} {ps : List MemPlace} {r : Reach} {b0 : Nat}
    (hv : Value.okWide Tryd.prog w r b0 26 v) (h : DataW.Trod enc Tryd.prog w base spare held 26 v d ps) : ∃ X : Nat, X < (2 ^ 64) ^ 5 ∧ v = UV 5 X := by
  obtain ⟨cs, rfl, hsz⟩ := Hf.okWide_array UNr hv
  obtain ⟨m, hm⟩ := h
  obtain ⟨zs, hl, e, hw⟩ := open_nums UNr UUr cUr cNr hm
  obtain ⟨X, hX, e2⟩ := limbs_of zs 5 hl hw
  refine ⟨X, hX, ?_⟩
  unfold UV
  rw [← e2, ← e]
  simp [Value.cells]
end Go.Proofs.YtihdeanfcbiflaaDoor.Lg
