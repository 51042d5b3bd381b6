/- The walks of chapter 5's functions on numbers of 320 bits: sums. -/
import Derived.Test.YtihdeanfcbiflaaDoorLgMath
import Derived.Test.YtihdeanfcbiflaaDoorRow1
import Derived.Test.YtihdeanfcbiflaaDoorStepG
import Derived.IntWalk
import Derived.Test.YtihdeanfcbiflaaDoorProg
namespace Go.Proofs.YtihdeanfcbiflaaDoor.Lg
open Go.RowKit Go.Proofs.YtihdeanfcbiflaaDoor.Mk Go.Proofs.YtihdeanfcbiflaaDoor.Ul Go.Proofs.YtihdeanfcbiflaaDoor.Wi
theorem UN5 : Tryd.prog.underlying 26 = some (.array 5 24) := by kernel_rfl
theorem IN5 (f : Nat → Nat) : (Tryd.prog.info? 26).map (·.size) = some (FC 5 f).toArray.size := by rw [FC_size]; kernel_rfl
theorem SZ5 (f g : Nat → Nat) : (FC 5 f).toArray.size = (FC 5 g).toArray.size := by rw [FC_size, FC_size]
theorem zero5 : #[Value.int .u64 0, .int .u64 0, .int .u64 0, .int .u64 0, .int .u64 0] = (FC 5 fun _ => 0).toArray := by rfl
theorem ld5 {g : Nat} {f f0 : Nat → Nat} {t : TypeId} {w : World} (h : FB g 5 f0 t w) : (loadVar 26 ⟨g, 0, none⟩).run Tryd.prog (w.setRow g (FC 5 f).toArray) = .ok (.agg (FC 5 f).toArray) (w.setRow g (FC 5 f).toArray) :=
  run_loadVar_row _ _ _ _ _ _ _ (setRow_heap _ _ _ _ _ _ h) UN5 rfl (IN5 f)
theorem ldAt5 {w : World} {g : Nat} {f : Nat → Nat} {t : TypeId} (h : FB g 5 f t w) : (Instr.loadAt 26 (.pointer (some ⟨g, 0, none⟩))).run Tryd.prog w = .ok (.agg (FC 5 f).toArray) w := by
  simp only [Instr.loadAt, Instr.sureAddr, Sem.run_bind, Sem.run_pure, Result.andThen_ok, run_loadVar_row w g t 26 _ _ _ h UN5 rfl (IN5 f)]
theorem build_L {o : Oper} {a : Act} {w : World} (ho : o.op = .build 26 #[]) : (execOp a.eval o).run Tryd.prog w = .ok (.value (.agg (FC 5 fun _ => 0).toArray)) w := by
  unfold execOp
  simp only [ho]
  kernel_rfl
/-- three blocks of five cells, the result's with nothing in it -/
def T5 (g1 g2 g3 g4 : Nat) (f1 f2 f3 : Nat → Nat) (w0 wr : World) : Prop := FB g4 5 (fun _ => 0) 26 wr ∧ FB g1 5 f1 26 wr ∧ FB g2 5 f2 26 wr ∧ FB g3 5 f3 26 wr ∧ Below w0.heap.size w0 wr
theorem T5.step {g1 g2 g3 g4 : Nat} {f1 f2 f3 f4 : Nat → Nat} {w0 wr : World} (h : T5 g1 g2 g3 g4 f1 f2 f3 w0 wr) (n : Nat) {k v : Nat} (hk : k < 5) (h1 : g1 ≠ g3) (h2 : g2 ≠ g3) (h4 : g4 ≠ g3) (h3 : w0.heap.size ≤ g3) (he : upd f3 k v = f4) :
    T5 g1 g2 g3 g4 f1 f2 f4 w0 ((wr.drewN n).setCell ⟨g3, k, none⟩ (.int .u64 (v : Nat))) := by
  rw [← he]
  exact ⟨(h.1.drewN n).other h4 _, (h.2.1.drewN n).other h1 _, (h.2.2.1.drewN n).other h2 _, (h.2.2.2.1.drewN n).set v hk, (bdN h.2.2.2.2 n).setCell (p := ⟨g3, k, none⟩) h3 _⟩
end Go.Proofs.YtihdeanfcbiflaaDoor.Lg
