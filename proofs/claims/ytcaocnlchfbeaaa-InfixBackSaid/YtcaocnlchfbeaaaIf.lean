/- The walks of infix.May, Same, and of the document's. -/
import Derived.Test.YtcaocnlchfbeaaaPs
import Derived.Test.YtcaocnlchfbeaaaIfMath
namespace Go.Proofs.Ytcaocnlchfbeaaa.If
open Go.RowKit Go.Proofs.Ytcaocnlchfbeaaa.Mk Go.Proofs.Ytcaocnlchfbeaaa.Op Go.Proofs.Ytcaocnlchfbeaaa.Hd Go.Proofs.Ytcaocnlchfbeaaa.St Go.Proofs.Ytcaocnlchfbeaaa.Cur Go.Proofs.Ytcaocnlchfbeaaa.Stp Go.Proofs.Ytcaocnlchfbeaaa.Tk Go.Proofs.Ytcaocnlchfbeaaa.Pf
def sameF (x y : Inf) : Bool := (x.a == y.a) && ((x.b == y.b) && ((x.s.toList == y.s.toList) && (sameL x.l y.l && (sameO x.o y.o && sameO x.u y.u))))
def ifc (x : Inf) (v sv su : Value) : Array Value := #[.int .i64 x.a, v, .int .i64 x.o.i, .int .i64 x.o.c, sv, .int .i64 x.b, .string x.s, .int .i64 x.u.i, .int .i64 x.u.c, su]
/-- a value reads as an infix -/
def IV (w : World) (val : Value) (x : Inf) : Prop := ∃ v sv su, val = .agg (ifc x v sv su) ∧ SS w v x.l ∧ SL hc 32 w sv x.o.p ∧ SL hc 32 w su x.u.p
theorem IV.below {w w' : World} {val : Value} {x : Inf} (h : IV w val x) (hb : Below w.heap.size w w') : IV w' val x := by
  obtain ⟨v, sv, su, e, h1, h2, h3⟩ := h
  exact ⟨v, sv, su, e, h1.below hb, h2.below hb, h3.below hb⟩
set_option maxHeartbeats 8000000 in
set_option maxRecDepth 100000 in
theorem may_calls (val : Value) (x : Inf) (w : World) (h : IV w val x) :
    Calls Try.prog 50 #[val] w fun e w' => e = .returned (.int .i64 (mayF x)) ∧ Below w.heap.size w w' := by
  obtain ⟨v, sv, su, rfl, hs, _, _⟩ := h
  obtain ⟨A, c, rfl, hbd, _⟩ := hs.at_
  have HC := may_cases x
  clear hs
  have hfin := Lib.hid ((Below.refl w.heap.size w).alloc (Nat.le_refl _) (.cells (ifc x (.slice A x.l.length c) sv su) 76))
  generalize mayF x = m at *
  obtain ⟨a, l, o, b, s, u⟩ := x
  unfold ifc at *
  dsimp only at *
  rcases HC with ⟨h1, rfl⟩ | ⟨h1, h2, rfl⟩ | ⟨h1, h2, h3, rfl⟩ | ⟨h1, h2, h3, h4, rfl⟩ | ⟨h1, h2, h3, h4, h5, rfl⟩ | ⟨h1, h2, h3, h4, h5, h6, rfl⟩ | ⟨h1, h2, h3, h4, h5, h6, rfl⟩
  all_goals
    go_enter Try.func50, Try.ntmps50
    go_wp2_with fail
    go_ret
    exact ⟨rfl, hfin.out⟩
set_option maxHeartbeats 8000000 in
set_option maxRecDepth 100000 in
theorem rmay_calls (val : Value) (x : Inf) (w : World) (h : IV w val x) :
    Calls Try.prog 51 #[val] w fun e w' => e = .returned (.int .i64 (mayF x)) ∧ Below w.heap.size w w' := by
  obtain ⟨v, sv, su, rfl, hs, _, _⟩ := h
  obtain ⟨A, c, rfl, hbd, _⟩ := hs.at_
  have HC := may_cases x
  clear hs
  have hfin := Lib.hid ((Below.refl w.heap.size w).alloc (Nat.le_refl _) (.cells (ifc x (.slice A x.l.length c) sv su) 76))
  generalize mayF x = m at *
  obtain ⟨a, l, o, b, s, u⟩ := x
  unfold ifc at *
  dsimp only at *
  rcases HC with ⟨h1, rfl⟩ | ⟨h1, h2, rfl⟩ | ⟨h1, h2, h3, rfl⟩ | ⟨h1, h2, h3, h4, rfl⟩ | ⟨h1, h2, h3, h4, h5, rfl⟩ | ⟨h1, h2, h3, h4, h5, h6, rfl⟩ | ⟨h1, h2, h3, h4, h5, h6, rfl⟩
  all_goals
    go_enter Try.func51, Try.ntmps51
    go_wp2_with fail
    go_ret
    exact ⟨rfl, hfin.out⟩
end Go.Proofs.Ytcaocnlchfbeaaa.If
