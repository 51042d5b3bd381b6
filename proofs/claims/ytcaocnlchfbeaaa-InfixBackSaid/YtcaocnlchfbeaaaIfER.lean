/- The walk of the document's EncodeInfix. -/
import Derived.Test.YtcaocnlchfbeaaaIfE
import Derived.Test.YtcaocnlchfbeaaaPfD
namespace Go.Proofs.Ytcaocnlchfbeaaa.If
open Go.RowKit Go.Proofs.Ytcaocnlchfbeaaa.Mk Go.Proofs.Ytcaocnlchfbeaaa.Op Go.Proofs.Ytcaocnlchfbeaaa.Hd Go.Proofs.Ytcaocnlchfbeaaa.St Go.Proofs.Ytcaocnlchfbeaaa.Cur Go.Proofs.Ytcaocnlchfbeaaa.Stp Go.Proofs.Ytcaocnlchfbeaaa.Tk Go.Proofs.Ytcaocnlchfbeaaa.Pf
set_option maxHeartbeats 8000000 in
set_option maxRecDepth 100000 in
theorem rencode_calls (val : Value) (x : Inf) (w : World) (h : IV w val x) (ok : IOk x) :
    Calls Try.prog 49 #[val] w fun e w' => e = .returned (.tuple #[.string (ba (encF x).1), .int .i64 (encF x).2]) ∧ Below w.heap.size w w' := by
  obtain ⟨v, sv, su, rfl, hs, ho, hu⟩ := h
  obtain ⟨A, c, rfl, hbd, _⟩ := hs.at_
  have hb0 : Below w.heap.size w (w.alloc (iB x (.slice A x.l.length c) sv su)) := (Below.refl _ _).alloc (Nat.le_refl _) _
  have hg0 : (w.alloc (iB x (.slice A x.l.length c) sv su)).heap[w.heap.size]? = some (iB x (.slice A x.l.length c) sv su) := heap_new _ _
  have HM := Lib.hid (rmay_calls (.agg (ifc x (.slice A x.l.length c) sv su)) x (w.alloc (iB x (.slice A x.l.length c) sv su)) ⟨_, sv, su, rfl, hs.below hb0, ho.below hb0, hu.below hb0⟩)
  have LD := Lib.hid (ldI hg0)
  obtain ⟨g, hg⟩ : ∃ g, g = w.heap.size := ⟨_, rfl⟩
  have HK := Lib.hid (show ∀ wx, Below (w.alloc (iB x (.slice A x.l.length c) sv su)).heap.size (w.alloc (iB x (.slice A x.l.length c) sv su)) wx → wx.heap[g]? = some (iB x (.slice A x.l.length c) sv su) ∧ SS wx (.slice A x.l.length c) x.l ∧ SL hc 32 wx sv x.o.p ∧ SL hc 32 wx su x.u.p ∧ Below w.heap.size w wx from fun wx hx => by
    rw [hg]
    exact ⟨(hx.block _ (by simp)).trans hg0, (hs.below hb0).below hx, (ho.below hb0).below hx, (hu.below hb0).below hx, below_up hb0 hx⟩)
  clear hs ho hu hb0 hg0
  unfold iB at HM LD HK
  go_enter Try.func49, Try.ntmps49
  go_wp2_with (refine wpList_loadg (by rfl) 76 (.tmp 1) (by rfl) _ (by rfl) _ LD.out ?_)
  refine HM.out.mono ?_
  rintro e w1 ⟨rfl, hb1⟩
  have B1 := Lib.hid hb1
  clear hb1 LD HM
  rw [← hg]
  clear hg
  generalize World.alloc w _ = W0 at *
  have HKX := Lib.hid (fun wx (hx : Below w1.heap.size w1 wx) => HK.out wx (below_up B1.out hx))
  by_cases hm : mayF x = 0
  · have hmk := may_ok hm
    have HM := Lib.hid hm
    have hel : (encP x.l).1.length ≤ 3000000 := encP_le x.l ok.l
    have hol := openB_len x.o ok.o
    have hul := openB_len x.u ok.u
    have k1 := HK.out w1 B1.out
    have P1 := Lib.hid (Pf.rencode_calls _ x.l w1 k1.2.1 (fun t ht => (ok.l t ht).2))
    have OK := Lib.hid ok
    have k1' := k1.1
    clear HK B1 ok k1
    rw [hm]
    clear hm
    obtain ⟨a, l, o, b, s, u⟩ := x
    dsimp only at *
    obtain ⟨na, rfl⟩ := Int.eq_ofNat_of_zero_le hmk.1
    obtain ⟨nb, rfl⟩ := Int.eq_ofNat_of_zero_le hmk.2.2.1
    have hna : na < 18446744073709551616 := by omega
    have hnb : nb < 18446744073709551616 := by omega
    have hss : s.size ≤ 4096 := hmk.2.2.2.2.2
    have ha1 : na ≤ 1024 := by omega
    have hb1 : nb ≤ 1024 := by omega
    have hpa := Num.putL_len10 na hna
    have hpb := Num.putL_len10 nb hnb
    have hps := Num.putL_len10 s.size (by omega)
    clear hmk
    have c1 : w1.cell? ⟨g, 1, none⟩ = some (.slice A l.length c) := (iB_cell k1' 1).trans rfl
    clear k1'
    go_wp2_with fail
    refine P1.out.mono ?_
    rintro e w2 ⟨rfl, hb2⟩
    have B2 := Lib.hid hb2
    obtain ⟨k1, -, k3, -, k5⟩ := HKX.out w2 hb2
    clear hb2 P1 c1
    by_cases h1 : (encP l).2 = 0
    · have t1 : ((encP l).2 != 0) = false := by rw [h1]; rfl
      have H1 := Lib.hid h1
      have LO := Lib.hid (ldIO k1)
      have P4 := Lib.hid (ropening_calls o _ w2 ⟨sv, rfl, k3⟩ OK.out.o)
      clear k1 k3 k5 h1
      go_wp2_with (refine wpList_loadg (by rfl) 41 (.tmp 23) (by rfl) _ (by rfl) _ LO.out ?_)
      refine P4.out.mono ?_
      rintro e w3 ⟨rfl, hb3⟩
      have B3 := Lib.hid (below_up B2.out hb3)
      obtain ⟨k1, -, -, k4, k5⟩ := HKX.out w3 B3.out
      clear hb3 P4 LO B2
      by_cases h2 : (openB o).2 = 0
      · have t2 : ((openB o).2 != 0) = false := by rw [h2]; rfl
        have H2 := Lib.hid h2
        have LU := Lib.hid (ldIU k1)
        have P5 := Lib.hid (ropening_calls u _ w3 ⟨su, rfl, k4⟩ OK.out.u)
        clear k1 k4 k5 h2
        go_wp2_with (refine wpList_loadg (by rfl) 41 (.tmp 32) (by rfl) _ (by rfl) _ LU.out ?_)
        refine P5.out.mono ?_
        rintro e w4 ⟨rfl, hb4⟩
        have B4 := Lib.hid (below_up B3.out hb4)
        obtain ⟨k1, -, -, -, k5⟩ := HKX.out w4 B4.out
        clear hb4 P5 LU B3
        by_cases h3 : (openB u).2 = 0
        · have t3 : ((openB u).2 != 0) = false := by rw [h3]; rfl
          have HE := Lib.hid (enc_all HM.out H1.out H2.out h3)
          dsimp only [Int.toNat_natCast] at HE
          have HZ := Lib.hid (show ba (encF ⟨na, l, o, nb, s, u⟩).1 = ba (Num.putL na) ++ ba (encP l).1 ++ ba (openB o).1 ++ ba (Num.putL nb) ++ ba (Num.putL s.size) ++ s ++ ba (openB u).1 by
            rw [HE.out]
            conv => rhs; rw [← ba_bs s]
            rw [ba_append, ba_append, ba_append, ba_append, ba_append, ba_append]
            simp only [List.append_assoc, ba_bs])
          have HZ2 := Lib.hid (show (encF ⟨na, l, o, nb, s, u⟩).2 = 0 by rw [HE.out])
          have L0 := Lib.hid (fun wx (hbx : Below w4.heap.size w4 wx) => run_load_i (((iB_cell ((hbx.block g (Array.getElem?_eq_some_iff.1 k1).1).trans k1) 0)).trans rfl : wx.cell? ⟨g, 0, none⟩ = some (.int .i64 (na : Int))))
          have L5 := Lib.hid (fun wx (hbx : Below w4.heap.size w4 wx) => run_load_i (((iB_cell ((hbx.block g (Array.getElem?_eq_some_iff.1 k1).1).trans k1) 5)).trans rfl : wx.cell? ⟨g, 5, none⟩ = some (.int .i64 (nb : Int))))
          have L6 := Lib.hid (fun wx (hbx : Below w4.heap.size w4 wx) => Pf.ld_str (((iB_cell ((hbx.block g (Array.getElem?_eq_some_iff.1 k1).1).trans k1) 6)).trans rfl : wx.cell? ⟨g, 6, none⟩ = some (.string s)))
          have PA := Lib.hid (fun wx (_ : Below w4.heap.size w4 wx) => Num.rput_calls na wx hna)
          have PB := Lib.hid (fun wx (_ : Below w4.heap.size w4 wx) => Num.rput_calls nb wx hnb)
          have PS := Lib.hid (fun wx (_ : Below w4.heap.size w4 wx) => Num.rput_calls s.size wx (by omega))
          have BW := Lib.hid k5
          have z1 : (ba (Num.putL na)).size ≤ 10 := by rw [ba_size]; exact hpa
          have z2 : (ba (encP l).1).size ≤ 3000000 := by rw [ba_size]; exact hel
          have z3 : (ba (openB o).1).size ≤ 2100 := by rw [ba_size]; exact hol
          have z4 : (ba (Num.putL nb)).size ≤ 10 := by rw [ba_size]; exact hpb
          have z5 : (ba (Num.putL s.size)).size ≤ 10 := by rw [ba_size]; exact hps
          have z6 : (ba (openB u).1).size ≤ 2100 := by rw [ba_size]; exact hul
          clear k1 k5 h3 HM H1 H2 HE B4 HKX OK hpa hpb hps hel hol hul
          generalize ba (Num.putL na) = y1 at *
          generalize ba (encP l).1 = y2 at *
          generalize ba (openB o).1 = y3 at *
          generalize ba (Num.putL nb) = y4 at *
          generalize ba (Num.putL s.size) = y5 at *
          generalize ba (openB u).1 = y6 at *
          have q1 : ¬ 9223372036854775807 < y1.size + y2.size := by omega
          have q2 : ¬ 9223372036854775807 < (y1 ++ y2).size + y3.size := by rw [ByteArray.size_append]; omega
          have q3 : ¬ 9223372036854775807 < (y1 ++ y2 ++ y3).size + y4.size := by simp only [ByteArray.size_append]; omega
          have q4 : ¬ 9223372036854775807 < (y1 ++ y2 ++ y3 ++ y4).size + y5.size := by simp only [ByteArray.size_append]; omega
          have q5 : ¬ 9223372036854775807 < (y1 ++ y2 ++ y3 ++ y4 ++ y5).size + s.size := by simp only [ByteArray.size_append]; omega
          have q6 : ¬ 9223372036854775807 < (y1 ++ y2 ++ y3 ++ y4 ++ y5 ++ s).size + y6.size := by simp only [ByteArray.size_append]; omega
          go_wp2_with fail

          refine wp_region_quiet_below (by kernel_rfl) (by kernel_rfl) ?_
          repeat (first | go_big_quiet_skip | ((refine wpQuiet_load rfl 3 _ rfl _ rfl _ (rg_fact L0.out) ?_); simp only [Act.put, List.setIfInBounds_toArray, List.set_cons_zero, List.set_cons_succ]) | ((refine wpQuiet_load rfl 3 _ rfl _ rfl _ (rg_fact L5.out) ?_); simp only [Act.put, List.setIfInBounds_toArray, List.set_cons_zero, List.set_cons_succ]) | ((refine wpQuiet_load rfl 9 _ rfl _ rfl _ (rg_fact L6.out) ?_); simp only [Act.put, List.setIfInBounds_toArray, List.set_cons_zero, List.set_cons_succ]) | ((refine wpQuiet_call (by rfl) 76 _ (fun wx => call_run (by rfl) (by rfl) (enters_of Try.func76 (by kernel_rfl) rfl)) _ (rg_of PA.out) ?_); simp only [Act.put, List.setIfInBounds_toArray, List.set_cons_zero, List.set_cons_succ]) | ((refine wpQuiet_call (by rfl) 76 _ (fun wx => call_run (by rfl) (by rfl) (enters_of Try.func76 (by kernel_rfl) rfl)) _ (rg_of PB.out) ?_); simp only [Act.put, List.setIfInBounds_toArray, List.set_cons_zero, List.set_cons_succ]) | ((refine wpQuiet_call (by rfl) 76 _ (fun wx => call_run (by rfl) (by rfl) (enters_of Try.func76 (by kernel_rfl) rfl)) _ (rg_of PS.out) ?_); simp only [Act.put, List.setIfInBounds_toArray, List.set_cons_zero, List.set_cons_succ]) | go_big_quiet_step (fail) | quiet_step (fail))
          refine wpQuiet_nil ?_
          rintro _ ⟨rp, rfl⟩
          have hb7 := below_regrown w4 rp.d rp.os
          generalize Sort.grow (redrawn w4 rp.d) rp.os = w7 at *
          have B7 := Lib.hid (below_up BW.out hb7)
          clear hb7 L0 L5 L6 PA PB PS
          go_wp2_with fail
          go_ret2
          exact ⟨ret_se HZ.out.symm HZ2.out.symm, B7.out⟩
        · have t3 : ((openB u).2 != 0) = true := by simpa using h3
          have HE := Lib.hid (enc_u HM.out H1.out H2.out h3)
          have BW := Lib.hid k5
          clear k1 k5 h3
          go_wp2_with fail
          go_ret2
          exact ⟨ret_se (by rw [HE.out]; rfl) (by rw [HE.out]), BW.out⟩
      · have t2 : ((openB o).2 != 0) = true := by simpa using h2
        have HE := Lib.hid (enc_o HM.out H1.out h2)
        have BW := Lib.hid k5
        clear k1 k4 k5 h2
        go_wp2_with fail
        go_ret2
        exact ⟨ret_se (by rw [HE.out]; rfl) (by rw [HE.out]), BW.out⟩
    · have t1 : ((encP l).2 != 0) = true := by simpa using h1
      have HE := Lib.hid (enc_put HM.out h1)
      have BW := Lib.hid k5
      clear k1 k3 k5 h1
      go_wp2_with fail
      go_ret2
      exact ⟨ret_se (by rw [HE.out]; rfl) (by rw [HE.out]), BW.out⟩
  · have HE := Lib.hid (enc_may hm)
    have t1 : (mayF x != 0) = true := by simpa using hm
    have B2 := Lib.hid (HK.out w1 B1.out).2.2.2.2
    clear HK B1 hm HKX
    go_wp2_with fail
    go_ret2
    exact ⟨ret_se (by rw [HE.out]; rfl) (by rw [HE.out]), B2.out⟩
end Go.Proofs.Ytcaocnlchfbeaaa.If
