/- The walk of chapter 31's much. -/
import Derived.Test.YtcaocnlchfbeaaaIfE
namespace Go.Proofs.Ytcaocnlchfbeaaa.If
open Go.RowKit Go.Proofs.Ytcaocnlchfbeaaa.Mk Go.Proofs.Ytcaocnlchfbeaaa.Op Go.Proofs.Ytcaocnlchfbeaaa.Hd Go.Proofs.Ytcaocnlchfbeaaa.St Go.Proofs.Ytcaocnlchfbeaaa.Cur Go.Proofs.Ytcaocnlchfbeaaa.Stp Go.Proofs.Ytcaocnlchfbeaaa.Tk Go.Proofs.Ytcaocnlchfbeaaa.Pf
set_option maxHeartbeats 8000000 in
set_option maxRecDepth 100000 in
theorem much31_calls (val : Value) (x : Inf) (w : World) (h : IV w val x) :
    Calls Try.prog 46 #[val] w fun e w' => isB e ∧ Below w.heap.size w w' := by
  obtain ⟨v, sv, su, rfl, hs, ho, hu⟩ := h
  have hb0 : Below w.heap.size w (w.alloc (iB x v sv su)) := (Below.refl _ _).alloc (Nat.le_refl _) _
  have hg0 : (w.alloc (iB x v sv su)).heap[w.heap.size]? = some (iB x v sv su) := heap_new _ _
  have HM := Lib.hid (much_calls v x.l (w.alloc (iB x v sv su)) (hs.below hb0))
  have B0 := Lib.hid hb0
  obtain ⟨A, c, rfl, hbd, _⟩ := hs.at_
  obtain ⟨_, hpb, A2, c2, rfl, hlc, hcm, _⟩ := ho
  obtain ⟨_, hpb2, A3, c3, rfl, hlc2, hcm2, _⟩ := hu
  have a1 : (w.alloc (iB x (.slice A x.l.length c) (.slice A2 x.o.p.length c2) (.slice A3 x.u.p.length c3))).cell? ⟨w.heap.size, 1, none⟩ = some (.slice A x.l.length c) := (iB_cell hg0 1).trans rfl
  have a4 : (w.alloc (iB x (.slice A x.l.length c) (.slice A2 x.o.p.length c2) (.slice A3 x.u.p.length c3))).cell? ⟨w.heap.size, 4, none⟩ = some (.slice A2 x.o.p.length c2) := (iB_cell hg0 4).trans rfl
  have a6 : (w.alloc (iB x (.slice A x.l.length c) (.slice A2 x.o.p.length c2) (.slice A3 x.u.p.length c3))).cell? ⟨w.heap.size, 6, none⟩ = some (.string x.s) := (iB_cell hg0 6).trans rfl
  have a9 : (w.alloc (iB x (.slice A x.l.length c) (.slice A2 x.o.p.length c2) (.slice A3 x.u.p.length c3))).cell? ⟨w.heap.size, 9, none⟩ = some (.slice A3 x.u.p.length c3) := (iB_cell hg0 9).trans rfl
  clear hs hb0 hg0
  unfold iB at *
  go_enter Try.func46, Try.ntmps46
  go_upto_region 1 with fail
  generalize World.alloc w _ = W0 at *
  go_wp2_with fail
  refine HM.out.mono ?_
  rintro e w1 ⟨⟨b1, rfl⟩, rfl⟩
  have hc : (100 < List.length x.o.p ∨ (List.length x.o.p ≤ 100 ∧ 100 < List.length x.u.p)) ∨ (List.length x.o.p ≤ 100 ∧ List.length x.u.p ≤ 100) := by omega
  cases b1 with
  | true =>
    go_wp2_with fail
    go_ret
    exact ⟨⟨_, rfl⟩, B0.out⟩
  | false =>
    rcases hc with (h1 | ⟨h1, h2⟩) | ⟨h1, h2⟩
    all_goals
      go_wp2_with fail
      go_ret
      exact ⟨⟨_, rfl⟩, B0.out⟩
end Go.Proofs.Ytcaocnlchfbeaaa.If
