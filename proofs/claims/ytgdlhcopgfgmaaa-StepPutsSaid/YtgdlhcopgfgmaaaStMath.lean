/- Plain laws on the bytes of openings and steps. No condition. -/
import Derived.Test.YtgdlhcopgfgmaaaOpM
import Derived.Test.YtgdlhcopgfgmaaaHdMath
namespace Go.Proofs.Ytgdlhcopgfgmaaa.St
open Go.RowKit Go.Proofs.Ytgdlhcopgfgmaaa.Op Go.Proofs.Ytgdlhcopgfgmaaa.Hd
open Go.Proofs.Ytgdlhcopgfgmaaa.Shape (depthI)
/-- an opening that can be -/
def OOk (o : Opn) : Prop := o.i ≤ 9223372036854775807 ∧ -9223372036854775808 ≤ o.i ∧ ∀ x ∈ o.p, x.length = 32
/-- an opening's bytes, and what is wrong with it -/
def openB (o : Opn) : List UInt8 × Int :=
  if noneO o = true then (Num.putL 0, 0) else if mayI o ≠ 0 then ([], mayI o) else (Num.putL o.c.toNat ++ Num.putL o.i.toNat ++ o.p.flatten, 0)
theorem may0 {o : Opn} (h : mayI o = 0) : 1 ≤ o.c ∧ o.c ≤ 1048576 ∧ 0 ≤ o.i ∧ o.i < o.c ∧ (o.p.length : Int) = depthI o.c o.i := by
  unfold mayI at h
  by_cases hb : o.c < 1 ∨ 1048576 < o.c ∨ o.i < 0 ∨ o.c ≤ o.i
  · rw [if_pos hb] at h; omega
  · rw [if_neg hb] at h
    by_cases hd : (o.p.length : Int) ≠ depthI o.c o.i
    · rw [if_pos hd] at h; omega
    · have : (o.p.length : Int) = depthI o.c o.i := by simpa using hd
      omega
theorem flat_len (p : HL) (h : ∀ x ∈ p, x.length = 32) : p.flatten.length = p.length * 32 := by
  induction p with
  | nil => rfl
  | cons x p ih =>
    rw [List.flatten_cons, List.length_append, h x (by simp), ih (fun y hy => h y (by simp [hy])), List.length_cons]
    omega
theorem depth_le (n i : Int) (hn : n ≤ 1048576) : depthI n i ≤ 63 := by
  unfold depthI
  split
  · have := Shape.sidesI_len n i (by omega)
    omega
  · omega
end Go.Proofs.Ytgdlhcopgfgmaaa.St
