/- Steps of a region in order whose operations are guarded, and wanted. Over any program; no condition. -/
import Derived.Test.YtihdeanfcbiflaaDoorMk
namespace Go.Proofs.YtihdeanfcbiflaaDoor.Mk
open Go.RowKit
section
variable {P : Program} {ops : Array Oper} {o : Oper} {a : Act} {w : World} {K : Act → World → Prop} {Q : Exit → Act → World → Prop}
/-- an operation (guarded, and wanted) whose value is known, at the list of a region in order -/
theorem wpList_value {rest : List Oper} (hw : Region.wanted o (yielded ops a.tmps) = true) (v : Value) (hr : (execOp a.eval o).run P w = .ok (.value v) w) (h : wpList P ops Q rest (a.put o.dst v) w) : wpList P ops Q (o :: rest) a w := by
  refine wpList_step fun K hK => ?_
  rw [if_pos hw]
  unfold Oper.wp
  rw [hr]
  exact hK _ _ h
theorem wpList_loadg {rest : List Oper} (hw : Region.wanted o (yielded ops a.tmps) = true) (ty : TypeId) (x : Operand) (ho : o.op = .load ty x) (p : Addr) (hx : a.eval x = .pointer (some p)) (v : Value)
    (hr : (Instr.loadAt ty (.pointer (some p))).run P w = .ok v w) (h : wpList P ops Q rest (a.put o.dst v) w) : wpList P ops Q (o :: rest) a w :=
  wpList_value hw v (by unfold execOp; simp only [ho, hx, Sem.run_bind, hr, Result.andThen_ok, Sem.run_pure]) h
theorem run_bin {op : BinOp} {t ot : TypeId} {x y : Operand} {u v r : Value} (ho : o.op = .binOp op t x y ot) (hx : a.eval x = u) (hy : a.eval y = v) (hg : (eqGuard op t x y u v).run P w = .ok () w) (hr : (binOp op t u v).run P w = .ok r w) :
    (execOp a.eval o).run P w = .ok (.value r) w := by
  unfold execOp
  simp only [ho, hx, hy, Sem.run_bind, hg, hr, Result.andThen_ok, Sem.run_pure]
end
theorem cell_laid {w : World} {a : Addr} {v : Value} (h : w.cell? a = some v) (o : Obj) : (w.alloc o).cell? a = some v := by
  have h1 := block_lt_of_cell h
  obtain ⟨b, f, s⟩ := a
  have h2 : (w.alloc o).heap[b]? = w.heap[b]? := Below.heap_alloc _ _ _ h1
  cases s <;> simp_all [World.cell?]
end Go.Proofs.YtihdeanfcbiflaaDoor.Mk
