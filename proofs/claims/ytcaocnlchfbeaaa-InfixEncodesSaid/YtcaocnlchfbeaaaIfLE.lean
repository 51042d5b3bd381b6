/- The walk of chapter 31's law InfixEncodes. -/
import Derived.Test.YtcaocnlchfbeaaaIfAw
namespace Go.Proofs.Ytcaocnlchfbeaaa.If
open Go.RowKit Go.Proofs.Ytcaocnlchfbeaaa.Mk Go.Proofs.Ytcaocnlchfbeaaa.Op Go.Proofs.Ytcaocnlchfbeaaa.Hd Go.Proofs.Ytcaocnlchfbeaaa.St Go.Proofs.Ytcaocnlchfbeaaa.Cur Go.Proofs.Ytcaocnlchfbeaaa.Stp Go.Proofs.Ytcaocnlchfbeaaa.Tk Go.Proofs.Ytcaocnlchfbeaaa.Pf
set_option maxHeartbeats 8000000 in
set_option maxRecDepth 100000 in
theorem lawEncodes_calls (v1 v2 : Value) (x y : Inf) (w : World) (h1 : IV w v1 x) (h2 : IV w v2 y) (k1 : IOk x) :
    Calls Try.prog 10 #[v1, v2] w fun e w' => e = .returned (.bool true) ∧ Below w.heap.size w w' := by
  have HA := Lib.hid (fun wx => If.awake_calls wx)
  obtain ⟨A, B, C, n, m, k, a, b, c, rfl⟩ := h1.sl
  obtain ⟨A', B', C', n', m', k', a', b', c', rfl⟩ := h2.sl
  go_enter Try.func10, Try.ntmps10
  go_upto_region 1 with fail
  obtain ⟨g, hg⟩ : ∃ g, g = w.heap.size := ⟨_, rfl⟩
  have hB0 : Below w.heap.size w ((w.alloc (iB x (.slice A n a) (.slice B m b) (.slice C k c))).alloc (iB y (.slice A' n' a') (.slice B' m' b') (.slice C' k' c'))) := ((Below.refl _ _).alloc (Nat.le_refl _) _).alloc (by simp) _
  have hg1 : ((w.alloc (iB x (.slice A n a) (.slice B m b) (.slice C k c))).alloc (iB y (.slice A' n' a') (.slice B' m' b') (.slice C' k' c'))).heap[g]? = some (iB x (.slice A n a) (.slice B m b) (.slice C k c)) := by
    rw [hg]
    exact (((Below.refl _ _).alloc (Nat.le_refl _) _ : Below (w.alloc (iB x (.slice A n a) (.slice B m b) (.slice C k c))).heap.size (w.alloc (iB x (.slice A n a) (.slice B m b) (.slice C k c))) _).block _ (by simp)).trans (heap_new w _)
  have hg2 : ((w.alloc (iB x (.slice A n a) (.slice B m b) (.slice C k c))).alloc (iB y (.slice A' n' a') (.slice B' m' b') (.slice C' k' c'))).heap[g + 1]? = some (iB y (.slice A' n' a') (.slice B' m' b') (.slice C' k' c')) := by
    rw [hg]
    have := heap_new (w.alloc (iB x (.slice A n a) (.slice B m b) (.slice C k c))) (iB y (.slice A' n' a') (.slice B' m' b') (.slice C' k' c'))
    rw [show (w.alloc (iB x (.slice A n a) (.slice B m b) (.slice C k c))).heap.size = w.heap.size + 1 from by simp] at this
    exact this
  unfold iB at hB0 hg1 hg2
  rw [← hg]
  clear hg
  generalize hW : World.alloc (World.alloc w _) _ = W0 at *
  clear hW
  have HK := Lib.hid (show ∀ wx, Below W0.heap.size W0 wx → wx.heap[g]? = some (iB x (.slice A n a) (.slice B m b) (.slice C k c)) ∧ wx.heap[g + 1]? = some (iB y (.slice A' n' a') (.slice B' m' b') (.slice C' k' c')) ∧ IV wx (.agg (ifc x (.slice A n a) (.slice B m b) (.slice C k c))) x ∧ IV wx (.agg (ifc y (.slice A' n' a') (.slice B' m' b') (.slice C' k' c'))) y ∧ Below w.heap.size w wx from fun wx hx =>
    ⟨(hx.block _ (Array.getElem?_eq_some_iff.1 hg1).1).trans hg1, (hx.block _ (Array.getElem?_eq_some_iff.1 hg2).1).trans hg2, (h1.below hB0).below hx, (h2.below hB0).below hx, below_up hB0 hx⟩)
  clear h1 h2 hB0 hg1 hg2
  have R0 := Lib.hid (Below.refl W0.heap.size W0)
  obtain ⟨l1, l2, i1, i2, -⟩ := HK.out W0 R0.out
  have L1 := Lib.hid (ldI l1)
  have M1 := Lib.hid (much31_calls _ x W0 i1)
  clear l1 l2 i1 i2
  go_wp2_with (refine wpList_loadg (by rfl) 76 (.tmp 2) (by rfl) _ (by rfl) _ L1.out ?_)
  refine M1.out.mono ?_
  rintro e w1 ⟨⟨b1, rfl⟩, hb1⟩
  have B1 := Lib.hid hb1
  clear hb1 M1 L1 R0
  cases b1 with
  | true =>
    have BW := Lib.hid (HK.out w1 B1.out).2.2.2.2
    clear HK B1
    go_wp2_with fail
    refine (HA.out _).mono ?_
    rintro e wa ⟨rfl, hba⟩
    have BA := Lib.hid (below_up BW.out hba)
    clear hba HA
    go_wp2_with fail
    go_ret
    exact ⟨rfl, BA.out⟩
  | false =>
    obtain ⟨l1, l2, i1, i2, -⟩ := HK.out w1 B1.out
    have L1 := Lib.hid (ldI l2)
    have M1 := Lib.hid (much31_calls _ y w1 i2)
    clear l1 l2 i1 i2
    go_wp2_with (refine wpList_loadg (by rfl) 76 (.tmp 3) (by rfl) _ (by rfl) _ L1.out ?_)
    refine M1.out.mono ?_
    rintro e w2 ⟨⟨b2, rfl⟩, hb2⟩
    have B2 := Lib.hid (below_up B1.out hb2)
    clear hb2 M1 L1 B1
    cases b2 with
    | true =>
      have BW := Lib.hid (HK.out w2 B2.out).2.2.2.2
      clear HK B2
      go_wp2_with fail
      refine (HA.out _).mono ?_
      rintro e wa ⟨rfl, hba⟩
      have BA := Lib.hid (below_up BW.out hba)
      clear hba HA
      go_wp2_with fail
      go_ret
      exact ⟨rfl, BA.out⟩
    | false =>
      obtain ⟨l1, l2, i1, i2, -⟩ := HK.out w2 B2.out
      have L1 := Lib.hid (ldI l1)
      have E1 := Lib.hid (If.encode_calls _ x w2 i1 k1)
      clear l1 l2 i1 i2
      go_wp2_with (refine wpList_loadg (by rfl) 76 (.tmp 2) (by rfl) _ (by rfl) _ L1.out ?_)
      refine E1.out.mono ?_
      rintro e w3 ⟨rfl, hb3⟩
      have B3 := Lib.hid (below_up B2.out hb3)
      clear hb3 E1 L1 B2
      obtain ⟨l1, l2, i1, i2, -⟩ := HK.out w3 B3.out
      have L1 := Lib.hid (ldI l1)
      have E1 := Lib.hid (If.rencode_calls _ x w3 i1 k1)
      clear l1 l2 i1 i2
      go_wp2_with (refine wpList_loadg (by rfl) 76 (.tmp 2) (by rfl) _ (by rfl) _ L1.out ?_)
      refine E1.out.mono ?_
      rintro e w4 ⟨rfl, hb4⟩
      have B4 := Lib.hid (below_up B3.out hb4)
      clear hb4 E1 L1 B3
      have HX := Lib.hid (fun wx (hx : Below w4.heap.size w4 wx) => HK.out wx (below_up B4.out hx))
      have BW := Lib.hid (HX.out w4 (Below.refl _ _)).2.2.2.2
      clear HK B4 k1
      have L1 := Lib.hid (fun wx (hx : Below w4.heap.size w4 wx) => ldI (HX.out wx hx).1)
      have L2 := Lib.hid (fun wx (hx : Below w4.heap.size w4 wx) => ldI (HX.out wx hx).2.1)
      have P1 := Lib.hid (fun wx (hx : Below w4.heap.size w4 wx) => may_calls _ x wx (HX.out wx hx).2.2.1)
      have P2 := Lib.hid (fun wx (hx : Below w4.heap.size w4 wx) => rmay_calls _ x wx (HX.out wx hx).2.2.1)
      have P3 := Lib.hid (fun wx (hx : Below w4.heap.size w4 wx) => If.same_calls _ _ x y wx (HX.out wx hx).2.2.1 (HX.out wx hx).2.2.2.1)
      have P4 := Lib.hid (fun wx (hx : Below w4.heap.size w4 wx) => If.rsame_calls _ _ x y wx (HX.out wx hx).2.2.1 (HX.out wx hx).2.2.2.1)
      have P5 := Lib.hid (fun wx (hx : Below w4.heap.size w4 wx) => If.same_calls _ _ x x wx (HX.out wx hx).2.2.1 (HX.out wx hx).2.2.1)
      have PA := Lib.hid (fun wx (_ : Below w4.heap.size w4 wx) => HA.out wx)
      simp only [sameF_self] at P5
      generalize sameF x y = b3 at *
      generalize mayF x = z1 at *
      generalize encF x = z2 at *
      obtain ⟨z2, z3⟩ := z2
      generalize ba z2 = z4 at *
      generalize ifc x _ _ _ = vx at *
      generalize ifc y _ _ _ = vy at *
      clear HX HA
      dsimp only
      go_wp2_with fail
      refine wp_region_quiet_below (by kernel_rfl) (by kernel_rfl) ?_
      repeat (first | go_big_quiet_skip | ((refine wpQuiet_load rfl 76 _ rfl _ rfl _ (rg_fact L1.out) ?_); simp only [Act.put, List.setIfInBounds_toArray, List.set_cons_zero, List.set_cons_succ]) | ((refine wpQuiet_load rfl 76 _ rfl _ rfl _ (rg_fact L2.out) ?_); simp only [Act.put, List.setIfInBounds_toArray, List.set_cons_zero, List.set_cons_succ]) | ((refine wpQuiet_call (by rfl) 50 _ (fun wx => call_run (by rfl) (by rfl) (enters_of Try.func50 (by kernel_rfl) rfl)) _ (rg_of P1.out) ?_); simp only [Act.put, List.setIfInBounds_toArray, List.set_cons_zero, List.set_cons_succ]) | ((refine wpQuiet_call (by rfl) 51 _ (fun wx => call_run (by rfl) (by rfl) (enters_of Try.func51 (by kernel_rfl) rfl)) _ (rg_of P2.out) ?_); simp only [Act.put, List.setIfInBounds_toArray, List.set_cons_zero, List.set_cons_succ]) | ((refine wpQuiet_call (by rfl) 52 _ (fun wx => call_run (by rfl) (by rfl) (enters_of Try.func52 (by kernel_rfl) rfl)) _ (rg_of P3.out) ?_); simp only [Act.put, List.setIfInBounds_toArray, List.set_cons_zero, List.set_cons_succ]) | ((refine wpQuiet_call (by rfl) 52 _ (fun wx => call_run (by rfl) (by rfl) (enters_of Try.func52 (by kernel_rfl) rfl)) _ (rg_of P5.out) ?_); simp only [Act.put, List.setIfInBounds_toArray, List.set_cons_zero, List.set_cons_succ]) | ((refine wpQuiet_call (by rfl) 53 _ (fun wx => call_run (by rfl) (by rfl) (enters_of Try.func53 (by kernel_rfl) rfl)) _ (rg_of P4.out) ?_); simp only [Act.put, List.setIfInBounds_toArray, List.set_cons_zero, List.set_cons_succ]) | ((refine wpQuiet_call (by rfl) 47 _ (fun wx => call_run (by rfl) (by rfl) (enters_of Try.func47 (by kernel_rfl) rfl)) _ (rg_of PA.out) ?_); simp only [Act.put, List.setIfInBounds_toArray, List.set_cons_zero, List.set_cons_succ]) | go_big_quiet_step (fail) | quiet_step (fail))
      refine wpQuiet_nil ?_
      rintro _ ⟨rp, rfl⟩
      have hb7 := below_regrown w4 rp.d rp.os
      generalize Sort.grow (redrawn w4 rp.d) rp.os = w7 at *
      have B7 := Lib.hid (below_up BW.out hb7)
      clear hb7 L1 L2 P1 P2 P3 P4 P5 PA
      go_wp2_with fail
      go_ret
      exact ⟨rfl, B7.out⟩
end Go.Proofs.Ytcaocnlchfbeaaa.If
