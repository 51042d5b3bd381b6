/- How two sides in an array among the arguments are opened. -/
import Derived.Test.YtihdeanfcbiflaaDoorRows
import Derived.Test.YtihdeanfcbiflaaDoorOpen
import Derived.WalkKit
import Derived.ProofKit
import Derived.OpenShut
import Derived.ShutString
import Derived.ChangeOld
import Derived.Below
import Derived.SizedLaws
import Derived.Test.YtihdeanfcbiflaaDoorBo
import Derived.Test.YtihdeanfcbiflaaDoorWyL
namespace Go.Proofs.YtihdeanfcbiflaaDoor.Wh
open Go.ChangeShapes Go.WideShapes Go.ChangeAt Go.RowKit Go.Proofs.YtihdeanfcbiflaaDoor.Mk Go.Proofs.YtihdeanfcbiflaaDoor.Ul Go.Proofs.YtihdeanfcbiflaaDoor.Wi Go.Proofs.YtihdeanfcbiflaaDoor.Lg Go.Proofs.YtihdeanfcbiflaaDoor.Up Go.Proofs.YtihdeanfcbiflaaDoor.Hf
theorem cS2 : Tryd.prog.cellsOf 46 = 4 := by kernel_rfl
section
variable {H : Type} {enc : TypeId × Value → H} {w : World} {base : Nat} {spare : Nat → Bool} {held : Bool}
set_option maxRecDepth 100000 in
theorem open_sides {v : Value} {r : Reach} {b0 j : Nat} {ts : List TypeId} {ds : List (DataW H)} {d : DataW H} {ps : List MemPlace}
    (hv : Value.okWide Tryd.prog w r b0 46 v) (hr : (DataW.weightsEach Tryd.prog ts ds).all (· ≤ reachBytes) = true) (htj : ts[j]? = some 46) (hdj : ds[j]? = some d)
    (h : DataW.Trod enc Tryd.prog w base spare held 46 v d ps) :
    ∃ (vi vl vj vk : Value) (ia ib : List (List UInt8)) (za zb : List Int), v = .agg #[vi, vl, vj, vk] ∧ SD w (.agg #[vi, vl]) ia za ∧ SD w (.agg #[vj, vk]) ib zb := by
  obtain ⟨cs, rfl, hsz⟩ : ∃ cs, v = .agg cs ∧ cs.size = Tryd.prog.cellsOf 46 := by
    simp only [Value.okWide, Tryd.underlying46] at hv
    obtain ⟨cs, h1, h2, _⟩ := hv
    exact ⟨cs, h1, h2⟩
  obtain ⟨m, hm⟩ := h
  obtain ⟨xs, m2, _, hx, hl, hxl, ha⟩ := DataW.trod_array Tryd.underlying46 hm
  have h0 := ha 0 (by omega)
  have h1 := ha 1 (by omega)
  rw [cSd, List.getElem?_eq_getElem (by omega)] at h0 h1
  rw [cS2] at hl
  have hd : d = .agg (xs.map (·.1)) := congrArg Prod.fst hx
  match xs, hxl, h0, h1, hd with
  | [x0, x1], _, h0, h1, hd =>
    have hw : ∀ n ∈ d.weights Tryd.prog 46, n ≤ reachBytes := fun n hn => by
      have := List.all_eq_true.1 hr n (DataW.weights_mem_each htj hdj n hn)
      simpa using this
    rw [hd] at hw
    simp only [DataW.weights, Tryd.underlying46, List.map_cons, List.map_nil, DataW.weightsAll, List.append_nil, List.mem_append] at hw
    have w0 : (DataW.weightsEach Tryd.prog [38] [x0.1]).all (· ≤ reachBytes) = true := by
      apply List.all_eq_true.2
      intro k hk
      have := hw k (Or.inl (by simpa [DataW.weightsEach] using hk))
      simpa using this
    have w1 : (DataW.weightsEach Tryd.prog [38] [x1.1]).all (· ≤ reachBytes) = true := by
      apply List.all_eq_true.2
      intro k hk
      have := hw k (Or.inr (by simpa [DataW.weightsEach] using hk))
      simpa using this
    obtain ⟨ia, za, sa, _⟩ := open_side (j := 0) w0 rfl rfl h0
    obtain ⟨ib, zb, sb, _⟩ := open_side (j := 0) w1 rfl rfl h1
    have hcs : (Value.agg cs).cells.toList = cs.toList := by simp [Value.cells]
    first
    | rw [hcs] at sa sb hl
    | skip
    have hl4 : cs.toList.length = 4 := by simpa [Value.cells] using hl
    match hc : cs.toList, hl4 with
    | [p, q, r, s], _ =>
      simp only [hc, Nat.zero_mul, Nat.one_mul, List.drop_zero] at sa sb
      exact ⟨p, q, r, s, ia, ib, za, zb, by rw [← Array.toArray_toList (xs := cs), hc], sa, sb⟩
end
end Go.Proofs.YtihdeanfcbiflaaDoor.Wh
