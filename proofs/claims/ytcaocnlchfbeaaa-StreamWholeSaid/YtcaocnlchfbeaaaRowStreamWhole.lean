/- For every slice of strings, StreamWhole answers true, and the slice reads afterwards as it did. No condition. -/
import Derived.Test.YtcaocnlchfbeaaaRows
import Derived.Test.YtcaocnlchfbeaaaOpen
import Derived.WalkKit
import Derived.ProofKit
import Derived.OpenShut
import Derived.ShutString
import Derived.ChangeOld
import Derived.Below
import Derived.SizedLaws
import Derived.Test.YtcaocnlchfbeaaaRowPfOpen
import Derived.Test.YtcaocnlchfbeaaaStmX
namespace Go.Proofs.Ytcaocnlchfbeaaa.streamWhole
open Go.ChangeShapes Go.WideShapes Go.ChangeAt Go.RowKit Go.Proofs.Ytcaocnlchfbeaaa.Mk
open Go.ChangeMaps (open_string shut_string)
set_option linter.unusedVariables false
theorem own : ownKnob Try.prog.godebug = none := by kernel_rfl
theorem laidOut : laidOutB Try.prog = true := by kernel_rfl
set_option maxRecDepth 100000 in
theorem lifted (os : Os) (started : os.Started) (H : Type) (enc : TypeId × Value → H) :
    ReturnsInHanded {} Try.checked os 6 .any (Rows.streamWholeSpec.pre6 enc Try.prog Try.f6 Rows.streamWholeRow.domain false) (Rows.streamWholeSpec.post enc Try.prog Try.f6 false true false false) := by
  refine returnsInHanded_of_change_sized (C := Try.checked) own started (by kernel_rfl) Try.func6
    (ChangeSpec.witness6 (enc := enc) (C := Try.checked) false ⟨#[], #[.slice none 0 0], []⟩ 8 (by kernel_rfl) (by kernel_rfl) (by kernel_rfl) (by kernel_rfl)) ?_
  intro W base args ds gs before hval0 hW hcnd hsz0 _
  have hsz : (DataW.weightsEach Try.prog (Try.f6.params.toList ++ Rows.streamWholeSpec.plain.varTypes Try.prog) (ds ++ gs)).all (· ≤ reachBytes) = true := hsz0
  have hval : ∀ (j : Nat) t v, Try.f6.params[j]? = some t → args[j]? = some v → Value.okWide Try.prog W .any base t v := hval0
  have hW' := hW
  obtain ⟨p, q, hA0, hV, rfl, hfz, hnd⟩ := hW
  have hA : DataW.TrodAll enc Try.prog W 0 (fun _ => true) true Try.f6.params.toList args.toList ds p := hA0
  rw [Try.params6] at hA hval hsz
  obtain ⟨v0, vs0, d0, ds0, p0, q0, hargs, rfl, rfl, h0, r0⟩ := trodAll_cons hA
  obtain ⟨rfl, rfl, rfl⟩ := trodAll_nil r0
  obtain rfl : args = #[v0] := by cases args; simp_all
  obtain ⟨rfl, rfl⟩ := trodVars_none hV
  have k0 := h0
  have lt0 : ∀ x ∈ p0, x.block < W.heap.size := by obtain ⟨m, hm⟩ := k0; exact DataW.trod_lt m _ _ _ hm
  obtain ⟨b0, len0, cap0, rfl⟩ := okWide_slice Try.underlying58 (hval 0 58 v0 rfl rfl)
  obtain ⟨l0, e0, s0, q0, _⟩ := Pf.open_deep (encA := E1 Stm.sS) (Py := fun s => s.size ≤ 140737488351232) (j := 0) Try.underlying58 (by kernel_rfl : Try.prog.cellsOf 9 = 1) (by decide) (by kernel_rfl : Try.prog.bytesOf 9 = 16) (by decide) (fun n cs x hx hw => by
    obtain ⟨s, es, hs, hm⟩ := DataW.trod_string Try.underlying9 hx
    rw [hs] at hw
    have z := sized_string hw (j := 0) (t := 9) rfl rfl
    rw [Array.length_toList] at z
    exact ⟨s, z, es⟩) hsz rfl rfl h0
  clear hA0 hval0 hsz0 hsz
  refine (Stm.lawWhole_calls _ l0 W s0 q0).mono fun e W' ⟨he, bel⟩ => ?_
  subst he
  exact ⟨_, rfl, _, _, _, [], _, [], hW', trodAll_mk1 (shut_bool Try.underlying4 _), (trodAll_cons_mk (Below.trod laidOut (by kernel_rfl) (of_decide_eq_true (by kernel_rfl)) k0 bel lt0) trodAll_mk0), rfl, bel.frame _, fun h => by cases h⟩
theorem over : Rows.streamWholeRow.holds Try.pinned (OpenSpec.ofChange Rows.streamWholeSpec) :=
  OpenClaim.holds_of_wide 6 Try.f6 rfl rfl rfl rfl rfl rfl rfl ⟨rfl, rfl, rfl, rfl, rfl⟩ rfl rfl rfl rfl rfl (by kernel_rfl) Try.func6 (by kernel_rfl)
    (of_decide_eq_true (by kernel_rfl)) (by unfold Func.isWrapper; first | (rw [if_pos (by decide +kernel)]; kernel_rfl) | (rw [if_neg (by decide +kernel)]; exact ⟨rfl, rfl⟩))
    (fun os started H enc _ => lifted os started H enc)
theorem proved : Rows.StreamWholeSaid := over
#print axioms proved
end Go.Proofs.Ytcaocnlchfbeaaa.streamWhole
namespace Go.Proofs.Ytcaocnlchfbeaaa
/-- The row, under a short name, for the claim. -/
theorem streamWhole_holds : Rows.StreamWholeSaid := streamWhole.proved
end Go.Proofs.Ytcaocnlchfbeaaa
