/- Facts on sums (arrays of 32 bytes) in this program. -/
import Derived.Test.YtihdeanfcbiflaaDoorMk
import Derived.Laws.StructEq
import Derived.Test.YtihdeanfcbiflaaDoorProg
namespace Go.Proofs.YtihdeanfcbiflaaDoor.Hf
open Go.RowKit Go.Proofs.YtihdeanfcbiflaaDoor.Mk
open Extern.Stop (cell)
theorem IH : (Tryd.prog.info? 74).map (·.size) = some 32 := by kernel_rfl
theorem IHi : (Tryd.prog.info? 74).map (fun i => (i.zero, i.size, i.bytes)) = some (some (hv (List.replicate 32 0)), 32, 32) := by kernel_rfl
theorem UHs : Tryd.prog.underlying 35 = some (.slice 74) := by kernel_rfl
theorem UH : Tryd.prog.underlying 74 = some (.array 32 5) := by kernel_rfl
theorem UB : Tryd.prog.underlying 5 = some (.int .u8) := by kernel_rfl
theorem IHl {h : List UInt8} (hl : h.length = 32) : (Tryd.prog.info? 74).map (·.size) = some (hc h).length := by rw [IH, hc_len, hl]
theorem IHa {h : List UInt8} (hl : h.length = 32) : (Tryd.prog.info? 74).map (·.size) = some (hc h).toArray.size := by rw [IH]; simp [hc_len, hl]
theorem eqH {x y : List UInt8} (hx : x.length = 32) (hy : y.length = 32) : ∀ wx, (binOp .eql 74 (.agg (hc x).toArray) (.agg (hc y).toArray)).run Tryd.prog wx = .ok (.bool (x == y)) wx :=
  fun wx => run_eql_bytes (P := Tryd.prog) wx 74 5 32 UH UB Tryd.sizeOf5 x y hx hy
theorem neH {x y : List UInt8} (hx : x.length = 32) (hy : y.length = 32) : ∀ wx, (binOp .neq 74 (.agg (hc x).toArray) (.agg (hc y).toArray)).run Tryd.prog wx = .ok (.bool (!(x == y))) wx :=
  fun wx => run_neq_bytes (P := Tryd.prog) wx 74 5 32 UH UB Tryd.sizeOf5 x y hx hy
theorem eqHr {x : List UInt8} (hx : x.length = 32) (wx : World) : (binOp .eql 74 (hv x) (hv x)).run Tryd.prog wx = .ok (.bool true) wx := by
  unfold hv
  rw [eqH hx hx]
  simp
theorem eqHg {x y : List UInt8} (wx : World) (a b : Operand) : (eqGuard .eql 74 a b (hv x) (hv y)).run Tryd.prog wx = .ok () wx := run_eqGuard_agg _ _ _ _ _ _ _ (by kernel_rfl)
end Go.Proofs.YtihdeanfcbiflaaDoor.Hf
