/- Steps of a region that draws its order: a slice of one whole value, a value whose run is known. Over any program; no condition. -/
import Derived.Test.YtihdeanfcbiflaaDoorMk
import Derived.Test.YtihdeanfcbiflaaDoorStep
namespace Go.Proofs.YtihdeanfcbiflaaDoor.Mk
open Go.RowKit
section
variable {P : Program} {ops : Array Oper} {o : Oper} {a : Act} {w : World} {K : Act → World → Prop} {Q : Exit → Act → World → Prop} {E : Prop}
theorem step_buildOne (hg : o.guard = none) (t e : TypeId) (s : Nat) (x : Operand) (ho : o.op = .buildSlice t 1 #[(0, x)])
    (cs : Array Value) (z : Value) (bytes : Nat) (hx : a.eval x = .agg cs) (hv : cs.size = s)
    (hi : (P.info? e).map (fun i => (i.zero, i.size, i.bytes)) = some (some z, s, bytes)) (hu : P.underlying t = some (.slice e)) (hs : 0 < s) (hsmall : s ≤ 16777216)
    (h : K (a.put o.dst (.slice (some ⟨w.heap.size, 0, none⟩) 1 1)) (w.alloc (.cells cs e))) : if Region.wanted o (yielded ops a.tmps) = true then Oper.wp P o a w K Q else E := by
  rw [if_pos (by simp [Region.wanted, hg])]
  cases hq : P.info? e with
  | none => rw [hq] at hi; cases hi
  | some ie =>
    rw [hq] at hi
    simp only [Option.map_some, Option.some.injEq, Prod.mk.injEq] at hi
    obtain ⟨hz, hsz, _⟩ := hi
    have hc : ([Value.agg cs].flatMap fun v => v.cells.toList).toArray = cs := by simp [Value.cells]
    refine wp_buildSlice t e 1 _ ho ([Value.agg cs].flatMap fun v => v.cells.toList).toArray ie z hu hq hz (by rw [hsz]; omega) (by rw [hsz]; omega) ?_ (by rw [hc]; exact h)
    rw [hsz]
    have hp : ((#[(0, x)] : Array (Nat × Operand)).map fun (i, x) => (i, a.eval x)).toList = ([Value.agg cs].zipIdx 0).map fun x => (x.2, x.1) := by simp [hx]
    rw [hp]
    exact Great.fill_whole hs [Value.agg cs] _ (fun v hv' => by rw [List.mem_singleton.1 hv']; simpa [Value.cells] using hv) (by simp)
theorem step_val (hg : o.guard = none) (v : Value) (w' : World) (hr : (execOp a.eval o).run P w = .ok (.value v) w') (hK : K (a.put o.dst v) w') : if Region.wanted o (yielded ops a.tmps) = true then Oper.wp P o a w K Q else E := by
  rw [if_pos (by simp [Region.wanted, hg])]
  unfold Oper.wp
  rw [hr]
  exact hK
end
end Go.Proofs.YtihdeanfcbiflaaDoor.Mk
