/- The walk of chapter 29's law StepPuts. -/
import Derived.Test.YtgdlhcopgfgmaaaStpW
namespace Go.Proofs.Ytgdlhcopgfgmaaa.Stp
open Go.RowKit Go.Proofs.Ytgdlhcopgfgmaaa.Mk Go.Proofs.Ytgdlhcopgfgmaaa.Op Go.Proofs.Ytgdlhcopgfgmaaa.Hd Go.Proofs.Ytgdlhcopgfgmaaa.St
open Go.Proofs.Ytgdlhcopgfgmaaa.Cur (heap_new1 heap_new2 below2)
theorem US : Try.prog.underlying 66 = some (.struct (Try.prog.fieldsOf 66)) := by kernel_rfl
theorem IS0 : (Try.prog.info? 66).map (·.size) = some 69 := by kernel_rfl
theorem sc_len (h : Hd) (o : Opn) (sv : Value) (k : h.Ok) : (sc h o sv).length = 69 := by
  unfold sc
  rw [List.length_append, h.c_len k]
  rfl
theorem IS {h : Hd} (k : h.Ok) (o : Opn) (sv : Value) : (Try.prog.info? 66).map (·.size) = some (sc h o sv).length := by rw [IS0, sc_len h o sv k]
theorem SK.all {g : Nat} {h : Hd} {o : Opn} {sv : Value} {w : World} (k : SK g h o sv w) : w.rangeAt g 0 (sc h o sv) := fun j v hv => by
  rw [cell_of_row w g (0 + j) _ _ _ k, List.getElem?_toArray, Nat.zero_add]
  exact hv
theorem SK.load {g : Nat} {h : Hd} {o : Opn} {sv : Value} {w : World} (k : SK g h o sv w) (ok : h.Ok) : (Instr.loadAt 66 (.pointer (some ⟨g, 0, none⟩))).run Try.prog w = .ok (.agg (sc h o sv).toArray) w :=
  run_loadAt_mid w g 0 _ _ _ k.all US rfl (IS ok o sv)
theorem SK.path {g : Nat} {h : Hd} {o : Opn} {sv : Value} {w : World} (k : SK g h o sv w) (ok : h.Ok) : (Instr.loadAt 62 (.pointer (some ⟨g, 68, none⟩))).run Try.prog w = .ok sv w :=
  run_load_hs (k.op ok 2 sv rfl)
set_option maxHeartbeats 8000000 in
set_option maxRecDepth 100000 in
theorem lawPuts_calls (h g : Hd) (a b : Opn) (va vb : Value) (w : World) (ha : SV w va h a) (hb : SV w vb g b) (kh : h.Ok) (kg : g.Ok) (oka : OOk a) (okb : OOk b) :
    Calls Try.prog 9 #[va, vb] w fun e w' => e = .returned (.bool true) ∧ Below w.heap.size w w' := by
  obtain ⟨sa, rfl, hsa⟩ := ha
  obtain ⟨sb, rfl, hsb⟩ := hb
  have hB := below2 w (.cells (sc h a sa).toArray 66) (.cells (sc g b sb).toArray 66)
  have Z0 : SK w.heap.size h a sa ((w.alloc (.cells (sc h a sa).toArray 66)).alloc (.cells (sc g b sb).toArray 66)) := heap_new1 w (.cells (sc h a sa).toArray 66) (.cells (sc g b sb).toArray 66)
  have Z1 : SK (w.heap.size + 1) g b sb ((w.alloc (.cells (sc h a sa).toArray 66)).alloc (.cells (sc g b sb).toArray 66)) := heap_new2 w (.cells (sc h a sa).toArray 66) (.cells (sc g b sb).toArray 66)
  have hsa2 := hsa.below hB
  have hsb2 := hsb.below hB
  have HB := Lib.hid hB
  clear hsa hsb hB
  have hsa3 := hsa2
  have hsb3 := hsb2
  obtain ⟨_, _, A, ca, rfl, _⟩ := hsa3
  obtain ⟨_, _, B, cb, rfl, _⟩ := hsb3
  generalize hW : (w.alloc (.cells (sc h a (.slice A a.p.length ca)).toArray 66)).alloc (.cells (sc g b (.slice B b.p.length cb)).toArray 66) = W0 at *
  have P1 := Lib.hid (fun wx (hx : Below W0.heap.size W0 wx) => step_calls h a _ wx ⟨_, rfl, hsa2.below hx⟩ kh oka)
  have P2 := Lib.hid (fun wx (hx : Below W0.heap.size W0 wx) => rstep_calls h a _ wx ⟨_, rfl, hsa2.below hx⟩ kh oka)
  have P3 := Lib.hid (fun wx (hx : Below W0.heap.size W0 wx) => opening_calls b _ wx ⟨_, rfl, hsb2.below hx⟩ okb)
  have P4 := Lib.hid (fun wx (hx : Below W0.heap.size W0 wx) => ropening_calls b _ wx ⟨_, rfl, hsb2.below hx⟩ okb)
  have P5 := Lib.hid (fun wx (hx : Below W0.heap.size W0 wx) => ssame_calls h g a b _ _ wx ⟨_, rfl, hsa2.below hx⟩ ⟨_, rfl, hsb2.below hx⟩ kh kg)
  have P6 := Lib.hid (fun wx (hx : Below W0.heap.size W0 wx) => rssame_calls h g a b _ _ wx ⟨_, rfl, hsa2.below hx⟩ ⟨_, rfl, hsb2.below hx⟩ kh kg)
  have P7 := Lib.hid (fun wx (hx : Below W0.heap.size W0 wx) => ssame_calls h h a a _ _ wx ⟨_, rfl, hsa2.below hx⟩ ⟨_, rfl, hsa2.below hx⟩ kh kh)
  rw [sameS_self] at P7
  have L1 := Lib.hid (fun wx (hx : Below W0.heap.size W0 wx) => (Z0.keep hx).load kh)
  have L2 := Lib.hid (fun wx (hx : Below W0.heap.size W0 wx) => (Z1.keep hx).load kg)
  have LO := Lib.hid (fun wx (hx : Below W0.heap.size W0 wx) => (Z1.keep hx).loadO kg)
  have LA := Lib.hid (Z0.path kh)
  have LB := Lib.hid (Z1.path kg)
  clear hsa2 hsb2 Z0 Z1 kh kg oka okb
  generalize stepB h a = x at *
  generalize openB b = y at *
  generalize sameS h g a b = q at *
  generalize oc b.i b.c (.slice B b.p.length cb) = OB at *
  generalize (sc h a (.slice A a.p.length ca)).toArray = CA at *
  generalize (sc g b (.slice B b.p.length cb)).toArray = CB at *
  generalize a.p.length = na at *
  generalize b.p.length = nb at *
  obtain ⟨x1, x2⟩ := x
  obtain ⟨y1, y2⟩ := y
  simp only at P1 P2 P3 P4
  generalize ba x1 = s1 at *
  generalize ba y1 = s2 at *
  subst hW
  by_cases h1 : 100 < na
  · go_enter Try.func9, Try.ntmps9
    go_wp2_with (refine wpList_loadg (by rfl) 62 (.tmp 14) (by rfl) _ (by rfl) _ LA.out ?_)
    refine (awake_calls _).mono ?_
    rintro r w1 ⟨rfl, hb1⟩
    have hfin := Lib.hid (HB.out.trans (hb1.mono HB.out.size))
    clear hb1
    go_wp2_with fail
    go_ret
    exact ⟨rfl, hfin.out⟩
  · have d1 : decide ((100 : Int) < (na : Int)) = false := by simp; omega
    by_cases h2 : 100 < nb
    · have d2 : decide ((100 : Int) < (nb : Int)) = true := by simp; omega
      clear h1 h2
      go_enter Try.func9, Try.ntmps9
      go_wp2_with (first | (refine wpList_loadg (by rfl) 62 (.tmp 14) (by rfl) _ (by rfl) _ LA.out ?_) | (refine wpList_loadg (by rfl) 62 (.tmp 20) (by rfl) _ (by rfl) _ LB.out ?_))
      refine (awake_calls _).mono ?_
      rintro r w1 ⟨rfl, hb1⟩
      have hfin := Lib.hid (HB.out.trans (hb1.mono HB.out.size))
      clear hb1
      go_wp2_with fail
      go_ret
      exact ⟨rfl, hfin.out⟩
    · have d2 : decide ((100 : Int) < (nb : Int)) = false := by simp; omega
      clear h1 h2
      go_enter Try.func9, Try.ntmps9
      go_wp2_with (first | (refine wpList_loadg (by rfl) 62 (.tmp 14) (by rfl) _ (by rfl) _ LA.out ?_) | (refine wpList_loadg (by rfl) 62 (.tmp 20) (by rfl) _ (by rfl) _ LB.out ?_) | (refine wpList_loadg (by rfl) 66 (.tmp 2) (by rfl) _ (by rfl) _ (L1.out _ (Below.refl _ _)) ?_))
      generalize (w.alloc (.cells CA 66)).alloc (.cells CB 66) = W0 at *
      refine (P1.out _ (Below.refl _ _)).mono ?_
      rintro r w1 ⟨rfl, hb1⟩
      have B1 := Lib.hid hb1
      clear hb1
      go_wp2_with (refine wpList_loadg (by rfl) 66 (.tmp 2) (by rfl) _ (by rfl) _ (L1.out _ B1.out) ?_)
      refine (P2.out _ B1.out).mono ?_
      rintro r w2 ⟨rfl, hb2⟩
      have B2 := Lib.hid (below_up B1.out hb2)
      clear hb2 B1
      go_wp2_with (refine wpList_loadg (by rfl) 64 (.tmp 37) (by rfl) _ (by rfl) _ (LO.out _ B2.out) ?_)
      refine (P3.out _ B2.out).mono ?_
      rintro r w3 ⟨rfl, hb3⟩
      have B3 := Lib.hid (below_up B2.out hb3)
      clear hb3 B2
      go_wp2_with (refine wpList_loadg (by rfl) 64 (.tmp 43) (by rfl) _ (by rfl) _ (LO.out _ B3.out) ?_)
      refine (P4.out _ B3.out).mono ?_
      rintro r w4 ⟨rfl, hb4⟩
      have B4 := Lib.hid (below_up B3.out hb4)
      clear hb4 B3
      go_wp2_with fail
      have M1 := Lib.hid (fun wx (hx : Below w4.heap.size w4 wx) => L1.out wx (below_up B4.out hx))
      have M2 := Lib.hid (fun wx (hx : Below w4.heap.size w4 wx) => L2.out wx (below_up B4.out hx))
      have Q5 := Lib.hid (fun wx (hx : Below w4.heap.size w4 wx) => P5.out wx (below_up B4.out hx))
      have Q6 := Lib.hid (fun wx (hx : Below w4.heap.size w4 wx) => P6.out wx (below_up B4.out hx))
      have Q7 := Lib.hid (fun wx (hx : Below w4.heap.size w4 wx) => P7.out wx (below_up B4.out hx))
      have Q8 := Lib.hid (fun wx (_ : Below w4.heap.size w4 wx) => awake_calls wx)
      have tq : (q == q) = true := by cases q <;> rfl
      clear P1 P2 P3 P4 P5 P6 P7 L1 L2 LO LA LB
      refine wp_region_quiet_below (by kernel_rfl) (by kernel_rfl) ?_
      repeat (first | ((refine wpQuiet_load rfl 66 _ rfl _ rfl _ (rg_fact M1.out) ?_); simp only [Act.put, List.setIfInBounds_toArray, List.set_cons_zero, List.set_cons_succ]) | ((refine wpQuiet_load rfl 66 _ rfl _ rfl _ (rg_fact M2.out) ?_); simp only [Act.put, List.setIfInBounds_toArray, List.set_cons_zero, List.set_cons_succ]) | (((refine wpQuiet_call rfl 37 _ ?_ _ (rg_of Q5.out) ?_); focus (intro wx; go_simp; done)); simp only [Act.put, List.setIfInBounds_toArray, List.set_cons_zero, List.set_cons_succ]) | (((refine wpQuiet_call rfl 37 _ ?_ _ (rg_of Q7.out) ?_); focus (intro wx; go_simp; done)); simp only [Act.put, List.setIfInBounds_toArray, List.set_cons_zero, List.set_cons_succ]) | (((refine wpQuiet_call rfl 38 _ ?_ _ (rg_of Q6.out) ?_); focus (intro wx; go_simp; done)); simp only [Act.put, List.setIfInBounds_toArray, List.set_cons_zero, List.set_cons_succ]) | (((refine wpQuiet_call rfl 32 _ ?_ _ (rg_of Q8.out) ?_); focus (intro wx; go_simp; done)); simp only [Act.put, List.setIfInBounds_toArray, List.set_cons_zero, List.set_cons_succ]) | go_big_quiet_step (fail) | quiet_step (fail))
      refine wpQuiet_nil ?_
      rintro _ ⟨rp, rfl⟩
      have hb5 := below_regrown w4 rp.d rp.os
      generalize Sort.grow (redrawn w4 rp.d) rp.os = w5 at *
      have hfin := Lib.hid (HB.out.trans ((below_up B4.out hb5).mono HB.out.size))
      clear hb5
      go_wp2_with fail
      go_ret
      exact ⟨rfl, hfin.out⟩
end Go.Proofs.Ytgdlhcopgfgmaaa.Stp
