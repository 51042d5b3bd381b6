/- Plain laws: a proof in the middle of a file (chapter 31): its parts, what may be, its bytes. No condition. -/
import Derived.Test.YtcaocnlchfbeaaaPbSize
namespace Go.Proofs.Ytcaocnlchfbeaaa.If
open Go.RowKit Go.Proofs.Ytcaocnlchfbeaaa.Mk Go.Proofs.Ytcaocnlchfbeaaa.Op Go.Proofs.Ytcaocnlchfbeaaa.Hd Go.Proofs.Ytcaocnlchfbeaaa.St Go.Proofs.Ytcaocnlchfbeaaa.Cur Go.Proofs.Ytcaocnlchfbeaaa.Stp Go.Proofs.Ytcaocnlchfbeaaa.Tk Go.Proofs.Ytcaocnlchfbeaaa.Pf
/-- an infix: a number, steps, an opening; a number, a text, an opening -/
structure Inf where
  a : Int
  l : List HO
  o : Opn
  b : Int
  s : ByteArray
  u : Opn
structure IOk (x : Inf) : Prop where
  a : x.a ≤ 9223372036854775807 ∧ -9223372036854775808 ≤ x.a
  b : x.b ≤ 9223372036854775807 ∧ -9223372036854775808 ≤ x.b
  s : x.s.size ≤ 140737488351232
  l : ∀ t ∈ x.l, t.1.Ok ∧ OOk t.2
  o : OOk x.o
  u : OOk x.u
def mayF (x : Inf) : Int := if x.a < 0 ∨ 1024 < x.a ∨ x.b < 0 ∨ 1024 < x.b then 3 else if 1024 < x.l.length ∨ 4096 < x.s.size then 4 else 0
/-- an infix's bytes, or why there are none -/
def encF (x : Inf) : List UInt8 × Int :=
  if mayF x ≠ 0 then ([], mayF x) else if (encP x.l).2 ≠ 0 then ([], (encP x.l).2) else if (openB x.o).2 ≠ 0 then ([], (openB x.o).2) else if (openB x.u).2 ≠ 0 then ([], (openB x.u).2) else
  (Num.putL x.a.toNat ++ (encP x.l).1 ++ (openB x.o).1 ++ Num.putL x.b.toNat ++ (Num.putL x.s.size ++ bs x.s) ++ (openB x.u).1, 0)
theorem may_ok {x : Inf} (h : mayF x = 0) : 0 ≤ x.a ∧ x.a ≤ 1024 ∧ 0 ≤ x.b ∧ x.b ≤ 1024 ∧ x.l.length ≤ 1024 ∧ x.s.size ≤ 4096 := by
  unfold mayF at h
  split at h
  · cases h
  · split at h
    · cases h
    · omega
theorem may_cases (x : Inf) : (x.a < 0 ∧ mayF x = 3) ∨ (0 ≤ x.a ∧ 1024 < x.a ∧ mayF x = 3) ∨ (0 ≤ x.a ∧ x.a ≤ 1024 ∧ x.b < 0 ∧ mayF x = 3) ∨ (0 ≤ x.a ∧ x.a ≤ 1024 ∧ 0 ≤ x.b ∧ 1024 < x.b ∧ mayF x = 3) ∨
    (0 ≤ x.a ∧ x.a ≤ 1024 ∧ 0 ≤ x.b ∧ x.b ≤ 1024 ∧ 1024 < x.l.length ∧ mayF x = 4) ∨ (0 ≤ x.a ∧ x.a ≤ 1024 ∧ 0 ≤ x.b ∧ x.b ≤ 1024 ∧ x.l.length ≤ 1024 ∧ 4096 < x.s.size ∧ mayF x = 4) ∨
    (0 ≤ x.a ∧ x.a ≤ 1024 ∧ 0 ≤ x.b ∧ x.b ≤ 1024 ∧ x.l.length ≤ 1024 ∧ x.s.size ≤ 4096 ∧ mayF x = 0) := by
  by_cases h1 : x.a < 0 ∨ 1024 < x.a ∨ x.b < 0 ∨ 1024 < x.b
  · have e : mayF x = 3 := if_pos h1
    rw [e]
    omega
  · by_cases h2 : 1024 < x.l.length ∨ 4096 < x.s.size
    · have e : mayF x = 4 := by unfold mayF; rw [if_neg h1, if_pos h2]
      rw [e]
      omega
    · have e : mayF x = 0 := by unfold mayF; rw [if_neg h1, if_neg h2]
      rw [e]
      omega
end Go.Proofs.Ytcaocnlchfbeaaa.If
