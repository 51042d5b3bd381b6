/- For every list of steps, BufPuts answers true, and the list reads afterwards as it did. No condition. -/
import Derived.Test.YtcgibofjlicicaaRows
import Derived.Test.YtcgibofjlicicaaOpen
import Derived.WalkKit
import Derived.ProofKit
import Derived.OpenShut
import Derived.ShutString
import Derived.ChangeOld
import Derived.Below
import Derived.SizedLaws
import Derived.Lib.SmallJoins
import Derived.Test.YtcgibofjlicicaaBufL
namespace Go.Proofs.Ytcgibofjlicicaa.bufPuts
open Go.ChangeShapes Go.WideShapes Go.ChangeAt Go.RowKit Go.Proofs.Ytcgibofjlicicaa.Mk
open Go.ChangeMaps (open_string shut_string)
set_option linter.unusedVariables false
theorem own : ownKnob Try.prog.godebug = none := by kernel_rfl
theorem laidOut : laidOutB Try.prog = true := by kernel_rfl
theorem cH : Try.prog.cellsOf 30 = 32 := by kernel_rfl
theorem cB : Try.prog.cellsOf 5 = 1 := by kernel_rfl
theorem cS : Try.prog.cellsOf 71 = 35 := by kernel_rfl
theorem bS : Try.prog.bytesOf 71 = 64 := by kernel_rfl
theorem c1 : Try.prog.cellsOf 3 = 1 := by kernel_rfl
theorem c2 : Try.prog.cellsOf 9 = 1 := by kernel_rfl
theorem c3 : Try.prog.cellsOf 32 = 1 := by kernel_rfl
theorem split4 (cs : List Value) (h : cs.length = 35) : cs = (cs.drop 0).take 1 ++ ((cs.drop 1).take 1 ++ ((cs.drop 2).take 1 ++ (cs.drop 3).take 32)) := by
  match cs, h with
  | a :: b :: c :: r, h =>
    have hr : r.length = 32 := by simpa using h
    simp [List.take_of_length_le (Nat.le_of_eq hr)]
theorem open_step {H : Type} {enc : TypeId × Value → H} {w : World} {base : Nat} {spare : Nat → Bool} {held : Bool} {fuel : Nat} {cs : List Value} {x : DataW H × List MemPlace}
    (h : DataW.trod enc Try.prog w base spare held fuel 71 cs = some x) : ∃ y : Buf.St, y.Ok ∧ cs = y.c := by
  obtain ⟨y0, y1, y2, y3, n, _, hl, h0, h1, h2, h3⟩ := Go.Joins.trod_struct4 Try.underlying71 h
  obtain ⟨k, e0, _, _⟩ := DataW.trod_int Try.underlying3 h0
  obtain ⟨s, e1, _, hs⟩ := DataW.trod_string Try.underlying9 h1
  obtain ⟨m, e2, _, hm⟩ := DataW.trod_int Try.underlying32 h2
  obtain ⟨b, hb, e3⟩ := open_bytes Buf.UH Buf.UB cB cH h3
  have b0 := bounds_u64 hm
  rw [cS] at hl
  refine ⟨⟨k, s, m.toNat, b⟩, ⟨by show m.toNat < _; omega, hb, by unfold maxLen at hs; exact hs⟩, ?_⟩
  have hcs := split4 cs hl
  have f0 : (cs.drop 0).take 1 = [.int .i64 k] := e0
  have f1 : (cs.drop 1).take 1 = [.string s] := e1
  have f2 : (cs.drop 2).take 1 = [.int .u64 m] := e2
  have f3 : (cs.drop 3).take 32 = hc b := e3
  rw [f0, f1, f2, f3] at hcs
  rw [hcs]
  unfold Buf.St.c Buf.stepC
  simp only [List.cons_append, List.nil_append]
  rw [Int.toNat_of_nonneg b0.1]
set_option maxRecDepth 100000 in
theorem lifted (os : Os) (started : os.Started) (H : Type) (enc : TypeId × Value → H) :
    ReturnsInHanded {} Try.checked os 17 .any (Rows.bufPutsSpec.pre6 enc Try.prog Try.f17 Rows.bufPutsRow.domain false) (Rows.bufPutsSpec.post enc Try.prog Try.f17 false true false false) := by
  refine returnsInHanded_of_change_sized (C := Try.checked) own started (by kernel_rfl) Try.func17
    (ChangeSpec.witness6 (enc := enc) (C := Try.checked) false ⟨#[], #[.slice none 0 0], []⟩ 8 (by kernel_rfl) (by kernel_rfl) (by kernel_rfl) (by kernel_rfl)) ?_
  intro W base args ds gs before hval0 hW hcnd hsz0 _
  have hsz : (DataW.weightsEach Try.prog (Try.f17.params.toList ++ Rows.bufPutsSpec.plain.varTypes Try.prog) (ds ++ gs)).all (· ≤ reachBytes) = true := hsz0
  have hval : ∀ (j : Nat) t v, Try.f17.params[j]? = some t → args[j]? = some v → Value.okWide Try.prog W .any base t v := hval0
  have hW' := hW
  obtain ⟨p, q, hA0, hV, rfl, hfz, hnd⟩ := hW
  have hA : DataW.TrodAll enc Try.prog W 0 (fun _ => true) true Try.f17.params.toList args.toList ds p := hA0
  rw [Try.params17] at hA hval hsz
  obtain ⟨v0, vs0, d0, ds0, p0, q0, hargs, rfl, rfl, h0, r0⟩ := trodAll_cons hA
  obtain ⟨rfl, rfl, rfl⟩ := trodAll_nil r0
  obtain rfl : args = #[v0] := by cases args; simp_all
  obtain ⟨rfl, rfl⟩ := trodVars_none hV
  obtain ⟨a0, len0, cap0, rfl⟩ := okWide_slice Try.underlying59 (hval 0 59 v0 rfl rfl)
  have k0 := h0
  have lt0 : ∀ x ∈ p0, x.block < W.heap.size := by obtain ⟨m, hm⟩ := k0; exact DataW.trod_lt m _ _ _ hm
  obtain ⟨l0, e0, s0, p0', _⟩ := open_flat (encA := Buf.St.c) (Py := Buf.St.Ok) (j := 0) Try.underlying59 cS (by decide) bS (by decide) (fun n cs x hx => open_step hx) hsz rfl rfl h0
  clear hA0 hval0 hsz0 hsz
  refine (Buf.lawPuts_calls _ l0 W s0 p0').mono fun e W' ⟨he, bel⟩ => ?_
  subst he
  exact ⟨_, rfl, _, _, _, [], _, [], hW', trodAll_mk1 (shut_bool Try.underlying4 _), (trodAll_cons_mk (Below.trod laidOut (by kernel_rfl) (of_decide_eq_true (by kernel_rfl)) k0 bel lt0) trodAll_mk0), rfl, bel.frame _, fun h => by cases h⟩
theorem over : Rows.bufPutsRow.holds Try.pinned (OpenSpec.ofChange Rows.bufPutsSpec) :=
  OpenClaim.holds_of_wide 17 Try.f17 rfl rfl rfl rfl rfl rfl rfl ⟨rfl, rfl, rfl, rfl, rfl⟩ rfl rfl rfl rfl rfl (by kernel_rfl) Try.func17 (by kernel_rfl)
    (of_decide_eq_true (by kernel_rfl)) (by unfold Func.isWrapper; first | (rw [if_pos (by decide +kernel)]; kernel_rfl) | (rw [if_neg (by decide +kernel)]; exact ⟨rfl, rfl⟩))
    (fun os started H enc _ => lifted os started H enc)
theorem proved : Rows.BufPutsSaid := over
#print axioms proved
end Go.Proofs.Ytcgibofjlicicaa.bufPuts
namespace Go.Proofs.Ytcgibofjlicicaa
/-- The row, under a short name, for the claim. -/
theorem bufPuts_holds : Rows.BufPutsSaid := bufPuts.proved
end Go.Proofs.Ytcgibofjlicicaa
