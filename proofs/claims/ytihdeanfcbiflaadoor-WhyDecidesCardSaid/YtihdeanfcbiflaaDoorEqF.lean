/- Equality of structs, field by field. Over any program; no condition. -/
import Derived.ChangeKeysEq
import Derived.Test.YtihdeanfcbiflaaDoorEqN
namespace Go.Proofs.YtihdeanfcbiflaaDoor.Mk
open Go.RowKit
theorem feq_cons {P : Program} {d : Nat} {xs ys : Array Value} {f : Field} {fs : List Field} {a b : Value} {r s : Bool} {w : World} (hn : f.name ≠ "_") (ha : (part f.type xs f.offset).run P w = .ok a w) (hb : (part f.type ys f.offset).run P w = .ok b w)
    (he : (Op.equalIn d f.type a b).run P w = .ok r w) (hr : (Op.eqFields d xs ys fs).run P w = .ok s w) : (Op.eqFields d xs ys (f :: fs)).run P w = .ok (r && s) w := by
  simp only [Op.eqFields, Sem.run_bind, Sem.run_ite]
  rw [if_pos hn]
  simp only [ha, hb, he, Result.andThen_ok]
  cases r
  · simp
  · simp [hr]
theorem feq_nil {P : Program} {d : Nat} {xs ys : Array Value} {w : World} : (Op.eqFields d xs ys []).run P w = .ok true w := by simp [Op.eqFields]
theorem part_row {P : Program} {t e : TypeId} {n sz off : Nat} {xs : Array Value} {cs : List Value} {w : World} (hu : P.underlying t = some (.array n e)) (hs : ∀ w, (sizeOf t).run P w = .ok sz w) (hx : (xs.extract off (off + sz)) = cs.toArray) (_hl : off + sz ≤ xs.size) :
    (part t xs off).run P w = .ok (.agg cs.toArray) w := by
  simp [part, isAgg, run_underlying hu, hs, hx, Result.andThen]
end Go.Proofs.YtihdeanfcbiflaaDoor.Mk
