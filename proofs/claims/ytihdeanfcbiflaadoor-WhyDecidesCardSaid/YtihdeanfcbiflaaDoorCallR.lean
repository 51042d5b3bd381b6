/- A call of a function of the program's own: what an operation runs to. Over any program; no condition. -/
import Derived.Shelf.Abstract
import Derived.WalkKit
import Derived.Test.YtihdeanfcbiflaaDoorMk
namespace Go.Proofs.YtihdeanfcbiflaaDoor.Mk
open Go.RowKit
section
variable {P : Program} {o : Oper} {a : Act} {w : World}
theorem call_run {f : FuncId} {xs : Array Operand} {ats : Array TypeId} {l : List Value} (ho : o.op = .call { callee := .value (.func f), args := xs, argTypes := ats }) (ha : xs.toList.map a.eval = l) (he : ∀ args w, (callFunc f args).run P w = .ok (.enter f args) w) :
    (execOp a.eval o).run P w = .ok (.enter f l.toArray) w := by
  have ha' : xs.map a.eval = l.toArray := by rw [← ha]; apply Array.ext'; simp
  unfold execOp
  simp [ho, resolve, invoke, ha', Act.eval, he, Deferred.ofValue]
end
end Go.Proofs.YtihdeanfcbiflaaDoor.Mk
