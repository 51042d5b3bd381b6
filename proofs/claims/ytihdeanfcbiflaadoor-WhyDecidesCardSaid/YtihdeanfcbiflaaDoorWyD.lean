/- The walk of the duel's Verdict. -/
import Derived.Test.YtihdeanfcbiflaaDoorWyS
import Derived.Test.YtihdeanfcbiflaaDoorWyMath
namespace Go.Proofs.YtihdeanfcbiflaaDoor.Wh
open Go.RowKit Go.Proofs.YtihdeanfcbiflaaDoor.Mk Go.Proofs.YtihdeanfcbiflaaDoor.Ul Go.Proofs.YtihdeanfcbiflaaDoor.Wi Go.Proofs.YtihdeanfcbiflaaDoor.Lg Go.Proofs.YtihdeanfcbiflaaDoor.Up Go.Proofs.YtihdeanfcbiflaaDoor.Sc
open Go.Proofs.YtihdeanfcbiflaaDoor.Common (lastU lastP)
theorem dv_scs (ia ib : List (List UInt8)) (za zb : List Int) (m : Int) : dv ia ib za zb m = if (scs ia ib za zb m).2.2 = true then cmpI (scs ia ib za zb m).1.1 (scs ia ib za zb m).2.1.1 else 0 := by
  unfold dv scs
  split
  · rfl
  · rfl
theorem scs_no {ia ib : List (List UInt8)} {za zb : List Int} {m : Int} (h : (scs ia ib za zb m).2.2 = false) : (scs ia ib za zb m).1 = (0, 0) := by
  unfold scs at *
  split at h
  · rename_i e
    rw [if_pos e]
  · cases h
theorem scs_lt {ia ib : List (List UInt8)} {za zb : List Int} {m : Int} (ha : za.length ≤ 140737488355328) (hb : zb.length ≤ 140737488355328) : (scs ia ib za zb m).1.1 < (2 ^ 64) ^ 5 ∧ (scs ia ib za zb m).2.1.1 < (2 ^ 64) ^ 5 := by
  unfold scs
  split
  · exact ⟨Nat.pow_pos (by decide), Nat.pow_pos (by decide)⟩
  · exact ⟨bst_lt m (by rw [List.length_drop]; omega) 256, bst_lt m (by rw [List.length_drop]; omega) 256⟩
set_option maxHeartbeats 4000000 in
set_option maxRecDepth 100000 in
theorem dverdict_calls (va vb : Value) (ia ib : List (List UInt8)) (za zb : List Int) (m : Int) (w : World) (ha : SD w va ia za) (hb : SD w vb ib zb) :
    Calls Tryd.prog 18 #[va, vb, .int .i64 m] w fun e w' => e = .returned (.int .i64 (dv ia ib za zb m)) ∧ Below w.heap.size w w' := by
  have hlt := scs_lt (ia := ia) (ib := ib) (m := m) (za := za) (zb := zb) (by obtain ⟨_, _, _, _, h⟩ := ha; exact h.len1) (by obtain ⟨_, _, _, _, h⟩ := hb; exact h.len1)
  have HD := Lib.hid (dv_scs ia ib za zb m)
  obtain ⟨vi, vl, rfl, h1, h2⟩ := ha
  obtain ⟨vj, vk, rfl, h3, h4⟩ := hb
  have S0 := SQ.new2 w (sdB vi vl) (sdB vj vk)
  have SC := Lib.hid (scores_calls _ _ ia ib za zb m _ ⟨_, _, rfl, h1.below S0.2, h2.below S0.2⟩ ⟨_, _, rfl, h3.below S0.2, h4.below S0.2⟩)
  obtain ⟨_, _, Ai, ki, rfl, _, _, _⟩ := h1
  obtain ⟨_, _, Aj, kj, rfl, _, _, _⟩ := h3
  obtain ⟨Al, kl, rfl, _, _, _⟩ := h2.cell1
  obtain ⟨Ak, kk, rfl, _, _, _⟩ := h4.cell1
  clear h2 h4
  have La := Lib.hid (ldS2 S0.a1)
  have Lb := Lib.hid (ldS2 S0.a0)
  have B0 := Lib.hid (show SQ [] w ((w.alloc (sdB (.slice Ai ia.length ki) (.slice Al za.length kl))).alloc (sdB (.slice Aj ib.length kj) (.slice Ak zb.length kk))) from S0.tail.tail)
  clear S0
  generalize scs ia ib za zb m = sc at *
  obtain ⟨⟨p, l⟩, ⟨q, n⟩, is⟩ := sc
  dsimp only at hlt HD SC
  have CM := Lib.hid (fun wx => lcmp_calls p q wx hlt.1 hlt.2)
  unfold UV at CM
  clear hlt
  unfold sdB at *
  go_enter Tryd.func18, Tryd.ntmps18
  go_upto_region 1 with fail
  generalize World.alloc (World.alloc w _) _ = W0 at *
  go_wp2_with (first | (refine wpList_loadg (by rfl) 38 (.tmp 3) (by rfl) _ (by rfl) _ La.out ?_) | (refine wpList_loadg (by rfl) 38 (.tmp 4) (by rfl) _ (by rfl) _ Lb.out ?_))
  refine SC.out.mono ?_
  rintro e w1 ⟨rfl, hb1⟩
  have S1 := (B0.out.keep hb1).alloc2 (oSc 0 0) (oSc 0 0)
  have ST1 := Lib.hid (st_sc S1.a1 p l)
  have hsz : w.heap.size ≤ w1.heap.size := (B0.out.keep hb1).2.size
  have S2 := S1.swap.put (c' := (scC p l).toArray) hsz (by intro x hx; simp at hx; rw [hx]; simp)
  have ST2 := Lib.hid (st_sc S2.a1 q n)
  have S3 := Lib.hid (S2.swap.put (c' := (scC q n).toArray) (by omega) (by intro x hx; simp at hx; rw [hx]; simp))
  clear hb1 SC La Lb B0 S1 S2
  rw [← oSc0] at ST1 ST2 S3
  go_upto_region 2 with (first | (refine wpList_st (by rfl) (.tmp 7) (.tmp 15) (by rfl) _ (by rfl) _ (by rfl) ST1.out ?_) | (refine wpList_st (by rfl) (.tmp 8) (.tmp 16) (by rfl) _ (by rfl) _ (by rfl) ST2.out ?_))
  generalize World.setRow (World.setRow _ _ _) _ _ = W2 at *
  cases is with
  | false =>
    have HD := Lib.hid (HD.out.trans (if_neg (by simp)))
    go_wp2_with fail
    go_ret
    exact ⟨by rw [HD.out]; rfl, S3.out.2⟩
  | true =>
    have HD := Lib.hid (HD.out.trans (if_pos rfl))
    have CC := Lib.hid (CM.out W2)
    generalize cmpI p q = cm at *
    clear CM ST1 ST2
    go_wp2_with (first | (refine wpList_load_mid (by rfl) 26 (.tmp 20) (by rfl) (w1.heap.size) 0 (by rfl) (FC 5 (lb (p))) _ (sc_range S3.out.a1) UN5 rfl (by rw [FC_len]; kernel_rfl) ?_) | (refine wpList_load_mid (by rfl) 26 (.tmp 22) (by rfl) (w1.heap.size + 1) 0 (by rfl) (FC 5 (lb (q))) _ (sc_range S3.out.a0) UN5 rfl (by rw [FC_len]; kernel_rfl) ?_))
    refine CC.out.mono ?_
    rintro e w3 ⟨rfl, hb3⟩
    have B3 := Lib.hid (S3.out.keep hb3).2
    clear hb3 CC S3
    go_wp2_with fail
    go_ret
    exact ⟨by rw [HD.out]; rfl, B3.out⟩
end Go.Proofs.YtihdeanfcbiflaaDoor.Wh
