/- The walks of infix.Same and of the document's. -/
import Derived.Test.YtcaocnlchfbeaaaIfE
namespace Go.Proofs.Ytcaocnlchfbeaaa.If
open Go.RowKit Go.Proofs.Ytcaocnlchfbeaaa.Mk Go.Proofs.Ytcaocnlchfbeaaa.Op Go.Proofs.Ytcaocnlchfbeaaa.Hd Go.Proofs.Ytcaocnlchfbeaaa.St Go.Proofs.Ytcaocnlchfbeaaa.Cur Go.Proofs.Ytcaocnlchfbeaaa.Stp Go.Proofs.Ytcaocnlchfbeaaa.Tk Go.Proofs.Ytcaocnlchfbeaaa.Pf
set_option maxHeartbeats 8000000 in
set_option maxRecDepth 100000 in
theorem same_calls (v1 v2 : Value) (x y : Inf) (w : World) (h1 : IV w v1 x) (h2 : IV w v2 y) :
    Calls Try.prog 52 #[v1, v2] w fun e w' => e = .returned (.bool (sameF x y)) ∧ Below w.heap.size w w' := by
  obtain ⟨lx, sx, ux, rfl, hs, ho, hu⟩ := h1
  obtain ⟨ly, sy, uy, rfl, ks, ko, ku⟩ := h2
  have hb0 := below2 w (iB x lx sx ux) (iB y ly sy uy)
  have HK := Lib.hid (show ∀ wx, Below ((w.alloc (iB x lx sx ux)).alloc (iB y ly sy uy)).heap.size ((w.alloc (iB x lx sx ux)).alloc (iB y ly sy uy)) wx → (wx.heap[w.heap.size]? = some (iB x lx sx ux) ∧ wx.heap[w.heap.size + 1]? = some (iB y ly sy uy)) ∧ (SS wx lx x.l ∧ SS wx ly y.l) ∧ (SL hc 32 wx sx x.o.p ∧ SL hc 32 wx sy y.o.p) ∧ (SL hc 32 wx ux x.u.p ∧ SL hc 32 wx uy y.u.p) ∧ Below w.heap.size w wx from fun wx hx =>
    ⟨⟨(hx.block _ (by simp; omega)).trans (heap_new1 w _ _), (hx.block _ (by simp)).trans (heap_new2 w _ _)⟩, ⟨(hs.below hb0).below hx, (ks.below hb0).below hx⟩, ⟨(ho.below hb0).below hx, (ko.below hb0).below hx⟩, ⟨(hu.below hb0).below hx, (ku.below hb0).below hx⟩, below_up hb0 hx⟩)
  clear hs ho hu ks ko ku hb0
  unfold iB at HK
  go_enter Try.func52, Try.ntmps52
  go_upto_region 1 with fail
  generalize World.alloc (World.alloc w _) _ = W0 at *
  obtain ⟨⟨g1, g2⟩, ⟨k1, k2⟩, -, -, b0⟩ := HK.out W0 (Below.refl _ _)
  have a0 : W0.cell? ⟨w.heap.size, 0, none⟩ = some (.int .i64 x.a) := (iB_cell g1 0).trans rfl
  have a1 : W0.cell? ⟨w.heap.size, 1, none⟩ = some lx := (iB_cell g1 1).trans rfl
  have a5 : W0.cell? ⟨w.heap.size, 5, none⟩ = some (.int .i64 x.b) := (iB_cell g1 5).trans rfl
  have a6 : W0.cell? ⟨w.heap.size, 6, none⟩ = some (.string x.s) := (iB_cell g1 6).trans rfl
  have b0' : W0.cell? ⟨w.heap.size + 1, 0, none⟩ = some (.int .i64 y.a) := (iB_cell g2 0).trans rfl
  have b1 : W0.cell? ⟨w.heap.size + 1, 1, none⟩ = some ly := (iB_cell g2 1).trans rfl
  have b5 : W0.cell? ⟨w.heap.size + 1, 5, none⟩ = some (.int .i64 y.b) := (iB_cell g2 5).trans rfl
  have b6 : W0.cell? ⟨w.heap.size + 1, 6, none⟩ = some (.string y.s) := (iB_cell g2 6).trans rfl
  have B2 := Lib.hid b0
  have PL := Lib.hid (sameL_calls lx ly x.l y.l W0 k1 k2)
  obtain ⟨A, c, rfl, _, _⟩ := k1.at_
  obtain ⟨A', c', rfl, _, _⟩ := k2.at_
  clear g1 g2 k1 k2 b0
  have HF := Lib.hid (show sameF x y = ((x.a == y.a) && ((x.b == y.b) && ((x.s.toList == y.s.toList) && (sameL x.l y.l && (sameO x.o y.o && sameO x.u y.u))))) from rfl)
  cases e1 : (x.a == y.a) with
  | false =>
    rw [e1, Bool.false_and] at HF
    go_wp2_with fail
    go_ret
    exact ⟨ret_b (by rw [HF.out]), B2.out⟩
  | true =>
  cases e2 : (x.b == y.b) with
  | false =>
    rw [e1, e2, Bool.true_and, Bool.false_and] at HF
    go_wp2_with fail
    go_ret
    exact ⟨ret_b (by rw [HF.out]), B2.out⟩
  | true =>
  cases e3 : (x.s.toList == y.s.toList) with
  | false =>
    rw [e1, e2, e3, Bool.true_and, Bool.true_and, Bool.false_and] at HF
    go_wp2_with fail
    go_ret
    exact ⟨ret_b (by rw [HF.out]), B2.out⟩
  | true =>
  rw [e1, e2, e3, Bool.true_and, Bool.true_and, Bool.true_and] at HF
  generalize sameL x.l y.l = f4 at *
  go_wp2_with fail
  refine PL.out.mono ?_
  rintro e w2 ⟨rfl, hb2⟩
  obtain ⟨⟨g1, g2⟩, -, ⟨k1, k2⟩, -, b2⟩ := HK.out w2 hb2
  have H2 := Lib.hid hb2
  have B2 := Lib.hid b2
  have LO1 := Lib.hid (ldIO g1)
  have LO2 := Lib.hid (ldIO g2)
  have PO := Lib.hid (Op.same_calls x.o y.o _ _ w2 ⟨sx, rfl, k1⟩ ⟨sy, rfl, k2⟩)
  clear g1 g2 k1 k2 b2 hb2 PL
  cases f4 with
  | false =>
    rw [Bool.false_and] at HF
    go_wp2_with fail
    go_ret
    exact ⟨ret_b (by rw [HF.out]), B2.out⟩
  | true =>
  rw [Bool.true_and] at HF
  generalize sameO x.o y.o = f5 at *
  go_wp2_with (first | (refine wpList_loadg (by rfl) 41 (.tmp 32) (by rfl) _ (by rfl) _ LO1.out ?_) | (refine wpList_loadg (by rfl) 41 (.tmp 34) (by rfl) _ (by rfl) _ LO2.out ?_))
  refine PO.out.mono ?_
  rintro e w3 ⟨rfl, hb3⟩
  obtain ⟨⟨g1, g2⟩, -, -, ⟨k1, k2⟩, b2⟩ := HK.out w3 (below_up H2.out hb3)
  have H3 := Lib.hid (below_up H2.out hb3)
  have B2 := Lib.hid b2
  have LU1 := Lib.hid (ldIU g1)
  have LU2 := Lib.hid (ldIU g2)
  have PU := Lib.hid (Op.same_calls x.u y.u _ _ w3 ⟨ux, rfl, k1⟩ ⟨uy, rfl, k2⟩)
  clear g1 g2 k1 k2 b2 hb3 PO LO1 LO2
  cases f5 with
  | false =>
    rw [Bool.false_and] at HF
    go_wp2_with fail
    go_ret
    exact ⟨ret_b (by rw [HF.out]), B2.out⟩
  | true =>
  rw [Bool.true_and] at HF
  generalize sameO x.u y.u = f6 at *
  go_wp2_with (first | (refine wpList_loadg (by rfl) 41 (.tmp 39) (by rfl) _ (by rfl) _ LU1.out ?_) | (refine wpList_loadg (by rfl) 41 (.tmp 41) (by rfl) _ (by rfl) _ LU2.out ?_))
  refine PU.out.mono ?_
  rintro e w4 ⟨rfl, hb4⟩
  have B2 := Lib.hid (HK.out w4 (below_up H3.out hb4)).2.2.2.2
  clear hb4 PU LU1 LU2
  go_wp2_with fail
  go_ret
  exact ⟨ret_b (by rw [HF.out]), B2.out⟩
set_option maxHeartbeats 8000000 in
set_option maxRecDepth 100000 in
theorem rsame_calls (v1 v2 : Value) (x y : Inf) (w : World) (h1 : IV w v1 x) (h2 : IV w v2 y) :
    Calls Try.prog 53 #[v1, v2] w fun e w' => e = .returned (.bool (sameF x y)) ∧ Below w.heap.size w w' := by
  obtain ⟨lx, sx, ux, rfl, hs, ho, hu⟩ := h1
  obtain ⟨ly, sy, uy, rfl, ks, ko, ku⟩ := h2
  have hb0 := below2 w (iB x lx sx ux) (iB y ly sy uy)
  have HK := Lib.hid (show ∀ wx, Below ((w.alloc (iB x lx sx ux)).alloc (iB y ly sy uy)).heap.size ((w.alloc (iB x lx sx ux)).alloc (iB y ly sy uy)) wx → (wx.heap[w.heap.size]? = some (iB x lx sx ux) ∧ wx.heap[w.heap.size + 1]? = some (iB y ly sy uy)) ∧ (SS wx lx x.l ∧ SS wx ly y.l) ∧ (SL hc 32 wx sx x.o.p ∧ SL hc 32 wx sy y.o.p) ∧ (SL hc 32 wx ux x.u.p ∧ SL hc 32 wx uy y.u.p) ∧ Below w.heap.size w wx from fun wx hx =>
    ⟨⟨(hx.block _ (by simp; omega)).trans (heap_new1 w _ _), (hx.block _ (by simp)).trans (heap_new2 w _ _)⟩, ⟨(hs.below hb0).below hx, (ks.below hb0).below hx⟩, ⟨(ho.below hb0).below hx, (ko.below hb0).below hx⟩, ⟨(hu.below hb0).below hx, (ku.below hb0).below hx⟩, below_up hb0 hx⟩)
  clear hs ho hu ks ko ku hb0
  unfold iB at HK
  go_enter Try.func53, Try.ntmps53
  go_upto_region 1 with fail
  generalize World.alloc (World.alloc w _) _ = W0 at *
  obtain ⟨⟨g1, g2⟩, ⟨k1, k2⟩, -, -, b0⟩ := HK.out W0 (Below.refl _ _)
  have a0 : W0.cell? ⟨w.heap.size, 0, none⟩ = some (.int .i64 x.a) := (iB_cell g1 0).trans rfl
  have a1 : W0.cell? ⟨w.heap.size, 1, none⟩ = some lx := (iB_cell g1 1).trans rfl
  have a5 : W0.cell? ⟨w.heap.size, 5, none⟩ = some (.int .i64 x.b) := (iB_cell g1 5).trans rfl
  have a6 : W0.cell? ⟨w.heap.size, 6, none⟩ = some (.string x.s) := (iB_cell g1 6).trans rfl
  have b0' : W0.cell? ⟨w.heap.size + 1, 0, none⟩ = some (.int .i64 y.a) := (iB_cell g2 0).trans rfl
  have b1 : W0.cell? ⟨w.heap.size + 1, 1, none⟩ = some ly := (iB_cell g2 1).trans rfl
  have b5 : W0.cell? ⟨w.heap.size + 1, 5, none⟩ = some (.int .i64 y.b) := (iB_cell g2 5).trans rfl
  have b6 : W0.cell? ⟨w.heap.size + 1, 6, none⟩ = some (.string y.s) := (iB_cell g2 6).trans rfl
  have B2 := Lib.hid b0
  have PL := Lib.hid (rsameL_calls lx ly x.l y.l W0 k1 k2)
  obtain ⟨A, c, rfl, _, _⟩ := k1.at_
  obtain ⟨A', c', rfl, _, _⟩ := k2.at_
  clear g1 g2 k1 k2 b0
  have HF := Lib.hid (show sameF x y = ((x.a == y.a) && ((x.b == y.b) && ((x.s.toList == y.s.toList) && (sameL x.l y.l && (sameO x.o y.o && sameO x.u y.u))))) from rfl)
  cases e1 : (x.a == y.a) with
  | false =>
    rw [e1, Bool.false_and] at HF
    go_wp2_with fail
    go_ret
    exact ⟨ret_b (by rw [HF.out]), B2.out⟩
  | true =>
  cases e2 : (x.b == y.b) with
  | false =>
    rw [e1, e2, Bool.true_and, Bool.false_and] at HF
    go_wp2_with fail
    go_ret
    exact ⟨ret_b (by rw [HF.out]), B2.out⟩
  | true =>
  cases e3 : (x.s.toList == y.s.toList) with
  | false =>
    rw [e1, e2, e3, Bool.true_and, Bool.true_and, Bool.false_and] at HF
    go_wp2_with fail
    go_ret
    exact ⟨ret_b (by rw [HF.out]), B2.out⟩
  | true =>
  rw [e1, e2, e3, Bool.true_and, Bool.true_and, Bool.true_and] at HF
  generalize sameL x.l y.l = f4 at *
  go_wp2_with fail
  refine PL.out.mono ?_
  rintro e w2 ⟨rfl, hb2⟩
  obtain ⟨⟨g1, g2⟩, -, ⟨k1, k2⟩, -, b2⟩ := HK.out w2 hb2
  have H2 := Lib.hid hb2
  have B2 := Lib.hid b2
  have LO1 := Lib.hid (ldIO g1)
  have LO2 := Lib.hid (ldIO g2)
  have PO := Lib.hid (Op.rsame_calls x.o y.o _ _ w2 ⟨sx, rfl, k1⟩ ⟨sy, rfl, k2⟩)
  clear g1 g2 k1 k2 b2 hb2 PL
  cases f4 with
  | false =>
    rw [Bool.false_and] at HF
    go_wp2_with fail
    go_ret
    exact ⟨ret_b (by rw [HF.out]), B2.out⟩
  | true =>
  rw [Bool.true_and] at HF
  generalize sameO x.o y.o = f5 at *
  go_wp2_with (first | (refine wpList_loadg (by rfl) 41 (.tmp 32) (by rfl) _ (by rfl) _ LO1.out ?_) | (refine wpList_loadg (by rfl) 41 (.tmp 34) (by rfl) _ (by rfl) _ LO2.out ?_))
  refine PO.out.mono ?_
  rintro e w3 ⟨rfl, hb3⟩
  obtain ⟨⟨g1, g2⟩, -, -, ⟨k1, k2⟩, b2⟩ := HK.out w3 (below_up H2.out hb3)
  have H3 := Lib.hid (below_up H2.out hb3)
  have B2 := Lib.hid b2
  have LU1 := Lib.hid (ldIU g1)
  have LU2 := Lib.hid (ldIU g2)
  have PU := Lib.hid (Op.rsame_calls x.u y.u _ _ w3 ⟨ux, rfl, k1⟩ ⟨uy, rfl, k2⟩)
  clear g1 g2 k1 k2 b2 hb3 PO LO1 LO2
  cases f5 with
  | false =>
    rw [Bool.false_and] at HF
    go_wp2_with fail
    go_ret
    exact ⟨ret_b (by rw [HF.out]), B2.out⟩
  | true =>
  rw [Bool.true_and] at HF
  generalize sameO x.u y.u = f6 at *
  go_wp2_with (first | (refine wpList_loadg (by rfl) 41 (.tmp 39) (by rfl) _ (by rfl) _ LU1.out ?_) | (refine wpList_loadg (by rfl) 41 (.tmp 41) (by rfl) _ (by rfl) _ LU2.out ?_))
  refine PU.out.mono ?_
  rintro e w4 ⟨rfl, hb4⟩
  have B2 := Lib.hid (HK.out w4 (below_up H3.out hb4)).2.2.2.2
  clear hb4 PU LU1 LU2
  go_wp2_with fail
  go_ret
  exact ⟨ret_b (by rw [HF.out]), B2.out⟩
end Go.Proofs.Ytcaocnlchfbeaaa.If
