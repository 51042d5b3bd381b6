/- The walks of chapter 43's argued and Verdict. -/
import Derived.Test.YtihdeanfcbiflaaDoorWh
import Derived.Test.YtihdeanfcbiflaaDoorLgC
import Derived.Test.YtihdeanfcbiflaaDoorFill
import Derived.Test.YtihdeanfcbiflaaDoorRet
namespace Go.Proofs.YtihdeanfcbiflaaDoor.Wh
open Go.RowKit Go.Proofs.YtihdeanfcbiflaaDoor.Mk Go.Proofs.YtihdeanfcbiflaaDoor.Ul Go.Proofs.YtihdeanfcbiflaaDoor.Wi Go.Proofs.YtihdeanfcbiflaaDoor.Lg
theorem wpList_st {ops : Array Oper} {rest : List Oper} {op : Oper} {a : Act} {w W' : World} {Q : Exit → Act → World → Prop} {ty : TypeId} (hgd : op.guard = none) (x y : Operand) (ho : op.op = .store ty x y)
    (px : Value) (hx : a.eval x = px) (vy : Value) (hy : a.eval y = vy) (hr : (Instr.storeAt ty px vy).run Tryd.prog w = .ok () W')
    (hn : wpList Tryd.prog ops Q rest (a.put op.dst undef) W') : wpList Tryd.prog ops Q (op :: rest) a w :=
  wpList_plain hgd fun _ hK => by
    unfold Oper.wp execOp
    simp only [ho, hx, hy, Sem.run_bind, hr, Result.andThen_ok, Sem.run_pure]
    exact hK _ _ hn
theorem row_but (W : World) (g : Nat) (cs : Array Value) : But (fun k => k = g) W (W.setRow g cs) :=
  ⟨rfl, rfl, rfl, by simp [World.setRow], fun k _ hn => setRow_other _ _ _ _ (fun e => hn (by rw [e]))⟩
def nB (X : Nat) : Obj := .cells (FC 5 (lb X)).toArray 26 (0, 0)
theorem st_hf {W : World} {g : Nat} {h0 h : Hf} (hw : W.heap[g]? = some (hB h0)) : (Instr.storeAt 28 (.pointer (some ⟨g, 0, none⟩)) (.agg (hfC h).toArray)).run Tryd.prog W = .ok () (W.setRow g (hfC h).toArray) := by
  have h1 := one_hf h
  rw [Array.all_eq_true_iff_forall_mem] at h1
  have := run_storeAt_part (P := Tryd.prog) W g 0 _ 28 (hfC h0) (hfC h) hw (by rw [hfC_len]; kernel_rfl) (by rw [hfC_len, hfC_len]; decide) (fun v hv => h1 v (by simpa using hv))
  rw [List.take_zero, List.nil_append, Nat.zero_add, hfC_len, List.drop_eq_nil_of_le (by rw [hfC_len]; decide), List.append_nil] at this
  exact this
theorem st_n {W : World} {g X Y : Nat} (hw : W.heap[g]? = some (nB X)) : (Instr.storeAt 26 (.pointer (some ⟨g, 0, none⟩)) (UV 5 Y)).run Tryd.prog W = .ok () (W.setRow g (FC 5 (lb Y)).toArray) := by
  have h1 := FC_one 5 (lb Y)
  rw [Array.all_eq_true_iff_forall_mem] at h1
  have := run_storeAt_part (P := Tryd.prog) W g 0 _ 26 (FC 5 (lb X)) (FC 5 (lb Y)) hw (by rw [FC_len]; kernel_rfl) (by rw [FC_len, FC_len]; decide) (fun v hv => h1 v (by simpa using hv))
  rw [List.take_zero, List.nil_append, Nat.zero_add, FC_len, List.drop_eq_nil_of_le (by rw [FC_len]; decide), List.append_nil] at this
  exact this
theorem lvHf {w : World} {g : Nat} {h : Hf} (hw : w.heap[g]? = some (hB h)) : (loadVar 28 ⟨g, 0, none⟩).run Tryd.prog w = .ok (.agg (hfC h).toArray) w :=
  run_loadVar_row (P := Tryd.prog) w g _ 28 _ _ _ hw UHf rfl (IHf h)
theorem lvN {w : World} {g X : Nat} (hw : w.heap[g]? = some (nB X)) : (loadVar 26 ⟨g, 0, none⟩).run Tryd.prog w = .ok (UV 5 X) w :=
  run_loadVar_row (P := Tryd.prog) w g _ 26 _ _ _ hw UN5 rfl (IN5 _)
theorem ldNB {w : World} {g X : Nat} (hw : w.heap[g]? = some (nB X)) : (Instr.loadAt 26 (.pointer (some ⟨g, 0, none⟩))).run Tryd.prog w = .ok (UV 5 X) w := by
  simp only [Instr.loadAt, Instr.sureAddr, Sem.run_bind, Sem.run_pure, Result.andThen_ok, lvN hw]
def hf0' : Hf := ⟨0, false, 0⟩
def sel (b : Bool) (r : Ro) : Hf := if b then r.b else r.a
set_option maxHeartbeats 4000000 in
set_option maxRecDepth 100000 in
theorem left_calls (r : Ro) (w : World) :
    Calls Tryd.prog 39 #[.agg (roC r).toArray] w fun e w' => e = .returned (.agg (hfC (sel false r)).toArray) ∧ Below w.heap.size w w' := by
  have hb : Below w.heap.size w ((w.alloc (rB r)).alloc (hB hf0')) := ((Below.refl _ _).alloc (Nat.le_refl _) _).alloc (by simp) _
  have h2 : ((w.alloc (rB r)).alloc (hB hf0')).heap[w.heap.size + 1]? = some (hB hf0') := by
    have := heap_new (w.alloc (rB r)) (hB hf0')
    rwa [show (w.alloc (rB r)).heap.size = w.heap.size + 1 by simp] at this
  have h1 : ((w.alloc (rB r)).alloc (hB hf0')).heap[w.heap.size]? = some (rB r) := (((Below.refl _ _).alloc (Nat.le_refl _) _ : Below (w.alloc (rB r)).heap.size (w.alloc (rB r)) ((w.alloc (rB r)).alloc (hB hf0'))).block _ (by simp)).trans (heap_new _ _)
  have LH := Lib.hid (ldH (ro1 (rg_rb h1)))
  have ST := Lib.hid (st_hf (h := sel false r) h2)
  have SR := Lib.hid (setRow_heap _ _ _ (hfC (sel false r)).toArray _ _ h2)
  have SB := Lib.hid (show Below w.heap.size w (((w.alloc (rB r)).alloc (hB hf0')).setRow (w.heap.size + 1) (hfC (sel false r)).toArray) from below_row hb (by omega))
  obtain ⟨W, hW⟩ : ∃ W, W = (w.alloc (rB r)).alloc (hB hf0') := ⟨_, rfl⟩
  rw [← hW] at LH ST SR SB
  clear hb h1 h2
  go_enter Tryd.func39, Tryd.ntmps39
  go_upto_region 1 with fail
  generalize hW2 : World.alloc (World.alloc w _) _ = W2
  obtain rfl : W2 = W := by rw [← hW2, hW]; kernel_rfl
  clear hW hW2
  go_wp2_with (first | (refine wpList_loadg (by rfl) 28 (.tmp 3) (by rfl) _ (by rfl) _ LH.out ?_) | (refine wpList_st (by rfl) (.tmp 2) (.tmp 4) (by rfl) _ (by rfl) _ (by rfl) ST.out ?_))
  exact bodyPost_ret (results_cell 2 28 ⟨w.heap.size + 1, 0, none⟩ _ rfl rfl (lvHf SR.out)) rfl ⟨rfl, SB.out⟩
set_option maxHeartbeats 4000000 in
set_option maxRecDepth 100000 in
theorem right_calls (r : Ro) (w : World) :
    Calls Tryd.prog 40 #[.agg (roC r).toArray] w fun e w' => e = .returned (.agg (hfC (sel true r)).toArray) ∧ Below w.heap.size w w' := by
  have hb : Below w.heap.size w ((w.alloc (rB r)).alloc (hB hf0')) := ((Below.refl _ _).alloc (Nat.le_refl _) _).alloc (by simp) _
  have h2 : ((w.alloc (rB r)).alloc (hB hf0')).heap[w.heap.size + 1]? = some (hB hf0') := by
    have := heap_new (w.alloc (rB r)) (hB hf0')
    rwa [show (w.alloc (rB r)).heap.size = w.heap.size + 1 by simp] at this
  have h1 : ((w.alloc (rB r)).alloc (hB hf0')).heap[w.heap.size]? = some (rB r) := (((Below.refl _ _).alloc (Nat.le_refl _) _ : Below (w.alloc (rB r)).heap.size (w.alloc (rB r)) ((w.alloc (rB r)).alloc (hB hf0'))).block _ (by simp)).trans (heap_new _ _)
  have LH := Lib.hid (ldH (ro2 (rg_rb h1)))
  have ST := Lib.hid (st_hf (h := sel true r) h2)
  have SR := Lib.hid (setRow_heap _ _ _ (hfC (sel true r)).toArray _ _ h2)
  have SB := Lib.hid (show Below w.heap.size w (((w.alloc (rB r)).alloc (hB hf0')).setRow (w.heap.size + 1) (hfC (sel true r)).toArray) from below_row hb (by omega))
  obtain ⟨W, hW⟩ : ∃ W, W = (w.alloc (rB r)).alloc (hB hf0') := ⟨_, rfl⟩
  rw [← hW] at LH ST SR SB
  clear hb h1 h2
  go_enter Tryd.func40, Tryd.ntmps40
  go_upto_region 1 with fail
  generalize hW2 : World.alloc (World.alloc w _) _ = W2
  obtain rfl : W2 = W := by rw [← hW2, hW]; kernel_rfl
  clear hW hW2
  go_wp2_with (first | (refine wpList_loadg (by rfl) 28 (.tmp 3) (by rfl) _ (by rfl) _ LH.out ?_) | (refine wpList_st (by rfl) (.tmp 2) (.tmp 4) (by rfl) _ (by rfl) _ (by rfl) ST.out ?_))
  exact bodyPost_ret (results_cell 2 28 ⟨w.heap.size + 1, 0, none⟩ _ rfl rfl (lvHf SR.out)) rfl ⟨rfl, SB.out⟩
theorem side_calls (b : Bool) (r : Ro) (w : World) :
    Calls Tryd.prog (if b then 40 else 39) #[.agg (roC r).toArray] w fun e w' => e = .returned (.agg (hfC (sel b r)).toArray) ∧ Below w.heap.size w w' := by
  cases b
  · exact left_calls r w
  · exact right_calls r w
/-- what a round of argued keeps -/
structure AI (g4 g5 X : Nat) (w W : World) : Prop where
  res : W.heap[g4]? = some (nB 0)
  bst : W.heap[g5]? = some (nB X)
  bel : Below w.heap.size w W
theorem AI.keep {g4 g5 X : Nat} {w W W' : World} (h : AI g4 g5 X w W) (hb : Below W.heap.size W W') : AI g4 g5 X w W' :=
  ⟨(hb.block _ (Array.getElem?_eq_some_iff.1 h.res).1).trans h.res, (hb.block _ (Array.getElem?_eq_some_iff.1 h.bst).1).trans h.bst, below_up h.bel hb⟩
theorem AI.put {g4 g5 X : Nat} {w W : World} (h : AI g4 g5 X w W) (hne : g4 ≠ g5) (hl : w.heap.size ≤ g5) (Y : Nat) : AI g4 g5 Y w (W.setRow g5 (FC 5 (lb Y)).toArray) :=
  ⟨((row_but W g5 _).block _ (Array.getElem?_eq_some_iff.1 h.res).1 hne).trans h.res, setRow_heap _ _ _ _ _ _ h.bst, below_row h.bel hl⟩
theorem cmp_gt (X Y : Nat) : decide ((0 : Int) < cmpI X Y) = decide (Y < X) := by
  unfold cmpI
  split
  · rename_i h
    rw [decide_eq_false (by decide), decide_eq_false (by omega)]
  · split
    · rename_i h1 h2
      first | rw [decide_eq_true (by decide), decide_eq_true (by omega)] | rw [decide_eq_false (by decide), decide_eq_false (by omega)]
    · first | rw [decide_eq_true (by decide), decide_eq_true (by omega)] | rw [decide_eq_false (by decide), decide_eq_false (by omega)]
theorem argV_step (f : Ro → Hf) (l : List Ro) (r : Ro) (b : Nat) : argV f (l ++ [r]) b = if (f r).m = true ∧ argV f l b < (f r).v then (f r).v else argV f l b := by
  rw [argV_app]
  rfl
theorem sel_ok {r : Ro} (k : r.Ok) (b : Bool) : (sel b r).Ok := by
  cases b
  · exact k.1
  · exact k.2.1
set_option maxHeartbeats 8000000 in
set_option maxRecDepth 100000 in
theorem arguedl_calls (v : Value) (rs : List Ro) (w : World) (h : SL roC 15 w v rs) (ok : ∀ r ∈ rs, r.Ok) :
    Calls Tryd.prog 38 #[v, .func (.func 39) #[] #[]] w fun e w' => e = .returned (UV 5 (argV (sel false) rs 0)) ∧ Below w.heap.size w w' := by
  have HX := Lib.hid (fun wx (hx : Below w.heap.size w wx) => h.below hx)
  obtain ⟨_, hbd, A, c, rfl, hlc, hcm, _⟩ := h
  have OK := Lib.hid ok
  have HL := Lib.hid (argV_lt (f := sel false) (l := rs) (b := 0) (fun r hr => (sel_ok (ok r hr) false).1) (Nat.pow_pos (by decide)))
  clear ok
  have he : ∀ args w, (callFunc 39 args).run Tryd.prog w = .ok (.enter 39 args) w := enters_of Tryd.func39 (by kernel_rfl) rfl
  go_enter Tryd.func38, Tryd.ntmps38
  go_upto_region 2 with fail
  generalize hW : World.alloc (World.alloc w _) _ = W0
  have I0 : AI w.heap.size (w.heap.size + 1) 0 w W0 := by
    have hE : W0 = (w.alloc (nB 0)).alloc (nB 0) := by rw [← hW]; kernel_rfl
    rw [hE]
    have h2 := heap_new (w.alloc (nB 0)) (nB 0)
    rw [show (w.alloc (nB 0)).heap.size = w.heap.size + 1 by simp] at h2
    exact ⟨(((Below.refl _ _).alloc (Nat.le_refl _) _ : Below (w.alloc (nB 0)).heap.size (w.alloc (nB 0)) ((w.alloc (nB 0)).alloc (nB 0))).block _ (by simp)).trans (heap_new _ _), h2, ((Below.refl _ _).alloc (Nat.le_refl _) _).alloc (by simp) _⟩
  have I0 := Lib.hid I0
  clear hW
  obtain ⟨g4, hg4⟩ : ∃ g4, g4 = w.heap.size := ⟨_, rfl⟩
  rw [← hg4] at I0
  rw [← hg4]
  have G := Lib.hid hg4
  clear hg4
  go_wp2_with fail
  go_loopw [11] (fun s11 wr => ∃ (i : Nat), s11 = .int .i64 (i : Int) ∧ i ≤ rs.length ∧ Hid (AI g4 (g4 + 1) (argV (sel false) (rs.take i) 0) w wr)) (fun s11 _ => rs.length - (intOf s11).toNat)
  case atStart => exact ⟨0, rfl, by omega, I0⟩
  case round =>
    obtain ⟨i, rfl, hil, I⟩ := hrel
    clear I0
    by_cases hlt : i < rs.length
    · obtain ⟨_, _, _, _, he', _, _, hr⟩ := HX.out wr I.out.bel
      cases he'
      obtain ⟨b, o, hA, hq⟩ := hr (by omega)
      subst hA
      have hrg := hq i _ (List.getElem?_eq_getElem hlt)
      have i1 : (i : Int) < (rs.length : Int) := by omega
      have LW := Lib.hid (ldR hrg)
      have hok := sel_ok (OK.out rs[i] (List.getElem_mem hlt)) false
      have hT := argV_step (sel false) (rs.take i) rs[i] 0
      rw [← List.take_succ_eq_append_getElem hlt] at hT
      have HXl := Lib.hid (argV_lt (f := sel false) (l := rs.take i) (b := 0) (fun r hr => (sel_ok (OK.out r (List.mem_of_mem_take hr)) false).1) (Nat.pow_pos (by decide)))
      generalize rs[i] = r at *
      generalize argV (sel false) (rs.take i) 0 = X at *
      have hba : Below wr.heap.size wr (wr.alloc (rB r)) := (Below.refl _ _).alloc (Nat.le_refl _) _
      have I1 := Lib.hid (I.out.keep hba)
      have LR := Lib.hid (ldR (rg_rb (heap_new wr (rB r))))
      have SC := Lib.hid (left_calls r (wr.alloc (rB r)))
      have IR := Lib.hid (IRo r)
      have OR := Lib.hid (one_ro r)
      have SR := Lib.hid (show (roC ⟨0, ⟨0, false, 0⟩, ⟨0, false, 0⟩⟩).toArray.size = (roC r).toArray.size by rw [List.size_toArray, List.size_toArray, roC_len, roC_len])
      clear hr hq hrg hba I
      unfold rB at I1 LR SC
      go_wp2_with (first | (refine wpList_loadg (by rfl) 30 (.tmp 13) (by rfl) _ (by rfl) _ LW.out ?_) | (refine wpList_loadg (by rfl) 30 (.tmp 7) (by rfl) _ (by rfl) _ LR.out ?_) | (refine wpList_store_last rfl 30 _ _ rfl _ (roC r).toArray rfl rfl IR.out (by exact SR.out) OR.out ?_))
      refine SC.out.mono ?_
      rintro e w5 ⟨rfl, hb5⟩
      have I5 := Lib.hid (I1.out.keep hb5)
      generalize sel false r = h at *
      have hbb : Below w5.heap.size w5 (w5.alloc (hB h)) := (Below.refl _ _).alloc (Nat.le_refl _) _
      have I6 := Lib.hid (I5.out.keep hbb)
      have RG := rg_hb (heap_new w5 (hB h))
      have c1 := hf1 RG
      have L2 := Lib.hid (ldN (hf2 RG))
      have L5 := Lib.hid (ldNB I6.out.bst)
      have CM := Lib.hid (lcmp_calls h.v X (w5.alloc (hB h)) hok.1 HXl.out)
      have IH := Lib.hid (IHf h)
      have OH := Lib.hid (one_hf h)
      have SH := Lib.hid (show (hfC hf0').toArray.size = (hfC h).toArray.size by rw [List.size_toArray, List.size_toArray, hfC_len, hfC_len])
      have RG7 := Lib.hid (heap_new w5 (hB h))
      have RG := Lib.hid RG
      clear hb5 I5 I1 SC LR LW IR OR SR hbb HXl
      unfold hB at I6 RG RG7 c1 L2 L5 CM
      go_upto_region 6 with (refine wpList_store_last rfl 28 _ _ rfl _ (hfC h).toArray rfl rfl IH.out (by exact SH.out) OH.out ?_)
      obtain ⟨g6, hg6⟩ : ∃ g6, g6 = w5.heap.size := ⟨_, rfl⟩
      rw [← hg6] at c1 L2 RG RG7
      rw [← hg6]
      clear hg6
      generalize World.alloc w5 _ = W6 at *
      simp only [Nat.zero_add] at c1 L2
      by_cases hm : h.m = true
      · rw [hm] at c1
        have hcg := cmp_gt h.v X
        by_cases hv : X < h.v
        · rw [if_pos ⟨hm, hv⟩] at hT
          have t3 : decide ((0 : Int) < cmpI h.v X) = true := by rw [hcg]; exact decide_eq_true hv
          clear hcg
          have hT := Lib.hid hT
          go_wp2_with (first | (refine wpList_loadg (by rfl) 26 (.tmp 21) (by rfl) _ (by rfl) _ L2.out ?_) | (refine wpList_loadg (by rfl) 26 (.tmp 5) (by rfl) _ (by rfl) _ L5.out ?_))
          refine CM.out.mono ?_
          rintro e w7 ⟨rfl, hb7⟩
          have I7 := I6.out.keep hb7
          have L7 := Lib.hid (ldN (hf2 (rg_below RG.out (Array.getElem?_eq_some_iff.1 (RG7.out)).1 hb7)))
          have ST := Lib.hid (st_n (Y := h.v) I7.bst)
          have I8 := Lib.hid (I7.put (by omega) (by have := G.out; omega) h.v)
          clear hb7 I7 I6 L2 L5 CM c1
          generalize cmpI h.v X = cm at *
          simp only [Nat.zero_add] at L7
          go_wp2_with (first | (refine wpList_loadg (by rfl) 26 (.tmp 27) (by rfl) _ (by rfl) _ L7.out ?_) | (refine wpList_st (by rfl) (.tmp 5) (.tmp 28) (by rfl) _ (by rfl) _ (by rfl) ST.out ?_))
          generalize World.setRow _ _ _ = W8 at *
          go_roundw
          case rel => exact ⟨i + 1, by go_num, by omega, by rw [hT.out]; exact I8⟩
          case measure => simp [intOf] <;> omega
        · rw [if_neg (fun e => hv e.2)] at hT
          have t3 : decide ((0 : Int) < cmpI h.v X) = false := by rw [hcg]; exact decide_eq_false hv
          clear hcg
          have hT := Lib.hid hT
          go_wp2_with (first | (refine wpList_loadg (by rfl) 26 (.tmp 21) (by rfl) _ (by rfl) _ L2.out ?_) | (refine wpList_loadg (by rfl) 26 (.tmp 5) (by rfl) _ (by rfl) _ L5.out ?_))
          refine CM.out.mono ?_
          rintro e w7 ⟨rfl, hb7⟩
          have I8 := Lib.hid (I6.out.keep hb7)
          clear hb7 I6 L2 L5 CM c1
          generalize cmpI h.v X = cm at *
          go_wp2_with fail
          go_roundw
          case rel => exact ⟨i + 1, by go_num, by omega, by rw [hT.out]; exact I8⟩
          case measure => simp [intOf] <;> omega
      · have hm' : h.m = false := by simpa using hm
        rw [if_neg (fun e => hm e.1)] at hT
        rw [hm'] at c1
        have hT := Lib.hid hT
        clear L2 L5 CM hm hm'
        go_wp2_with fail
        go_roundw
        case rel => exact ⟨i + 1, by go_num, by omega, by rw [hT.out]; exact I6⟩
        case measure => simp [intOf] <;> omega
    · obtain rfl : i = rs.length := by omega
      rw [List.take_length] at I
      have t2 : decide ((rs.length : Int) < (rs.length : Int)) = false := decide_eq_false (by omega)
      have L5 := Lib.hid (ldNB I.out.bst)
      obtain ⟨X, hX⟩ : ∃ X, X = argV (sel false) rs 0 := ⟨_, rfl⟩
      rw [← hX] at L5 I
      have hX := Lib.hid hX
      have hbt := row_but wr g4 (FC 5 (lb X)).toArray
      have ST := Lib.hid (st_n (Y := X) I.out.res)
      have SR := Lib.hid (setRow_heap _ _ _ (FC 5 (lb X)).toArray _ _ I.out.res)
      have SB := Lib.hid (show Below w.heap.size w (wr.setRow g4 (FC 5 (lb X)).toArray) from below_row I.out.bel (by have := G.out; omega))
      clear I hbt
      go_wp2_with (first | (refine wpList_loadg (by rfl) 26 (.tmp 5) (by rfl) _ (by rfl) _ L5.out ?_) | (refine wpList_st (by rfl) (.tmp 4) (.tmp 30) (by rfl) _ (by rfl) _ (by rfl) ST.out ?_))
      exact bodyPost_ret (results_cell 4 26 ⟨g4, 0, none⟩ _ rfl rfl (lvN SR.out)) rfl ⟨by rw [hX.out], SB.out⟩
set_option maxHeartbeats 8000000 in
set_option maxRecDepth 100000 in
theorem arguedr_calls (v : Value) (rs : List Ro) (w : World) (h : SL roC 15 w v rs) (ok : ∀ r ∈ rs, r.Ok) :
    Calls Tryd.prog 38 #[v, .func (.func 40) #[] #[]] w fun e w' => e = .returned (UV 5 (argV (sel true) rs 0)) ∧ Below w.heap.size w w' := by
  have HX := Lib.hid (fun wx (hx : Below w.heap.size w wx) => h.below hx)
  obtain ⟨_, hbd, A, c, rfl, hlc, hcm, _⟩ := h
  have OK := Lib.hid ok
  have HL := Lib.hid (argV_lt (f := sel true) (l := rs) (b := 0) (fun r hr => (sel_ok (ok r hr) true).1) (Nat.pow_pos (by decide)))
  clear ok
  have he : ∀ args w, (callFunc 40 args).run Tryd.prog w = .ok (.enter 40 args) w := enters_of Tryd.func40 (by kernel_rfl) rfl
  go_enter Tryd.func38, Tryd.ntmps38
  go_upto_region 2 with fail
  generalize hW : World.alloc (World.alloc w _) _ = W0
  have I0 : AI w.heap.size (w.heap.size + 1) 0 w W0 := by
    have hE : W0 = (w.alloc (nB 0)).alloc (nB 0) := by rw [← hW]; kernel_rfl
    rw [hE]
    have h2 := heap_new (w.alloc (nB 0)) (nB 0)
    rw [show (w.alloc (nB 0)).heap.size = w.heap.size + 1 by simp] at h2
    exact ⟨(((Below.refl _ _).alloc (Nat.le_refl _) _ : Below (w.alloc (nB 0)).heap.size (w.alloc (nB 0)) ((w.alloc (nB 0)).alloc (nB 0))).block _ (by simp)).trans (heap_new _ _), h2, ((Below.refl _ _).alloc (Nat.le_refl _) _).alloc (by simp) _⟩
  have I0 := Lib.hid I0
  clear hW
  obtain ⟨g4, hg4⟩ : ∃ g4, g4 = w.heap.size := ⟨_, rfl⟩
  rw [← hg4] at I0
  rw [← hg4]
  have G := Lib.hid hg4
  clear hg4
  go_wp2_with fail
  go_loopw [11] (fun s11 wr => ∃ (i : Nat), s11 = .int .i64 (i : Int) ∧ i ≤ rs.length ∧ Hid (AI g4 (g4 + 1) (argV (sel true) (rs.take i) 0) w wr)) (fun s11 _ => rs.length - (intOf s11).toNat)
  case atStart => exact ⟨0, rfl, by omega, I0⟩
  case round =>
    obtain ⟨i, rfl, hil, I⟩ := hrel
    clear I0
    by_cases hlt : i < rs.length
    · obtain ⟨_, _, _, _, he', _, _, hr⟩ := HX.out wr I.out.bel
      cases he'
      obtain ⟨b, o, hA, hq⟩ := hr (by omega)
      subst hA
      have hrg := hq i _ (List.getElem?_eq_getElem hlt)
      have i1 : (i : Int) < (rs.length : Int) := by omega
      have LW := Lib.hid (ldR hrg)
      have hok := sel_ok (OK.out rs[i] (List.getElem_mem hlt)) true
      have hT := argV_step (sel true) (rs.take i) rs[i] 0
      rw [← List.take_succ_eq_append_getElem hlt] at hT
      have HXl := Lib.hid (argV_lt (f := sel true) (l := rs.take i) (b := 0) (fun r hr => (sel_ok (OK.out r (List.mem_of_mem_take hr)) true).1) (Nat.pow_pos (by decide)))
      generalize rs[i] = r at *
      generalize argV (sel true) (rs.take i) 0 = X at *
      have hba : Below wr.heap.size wr (wr.alloc (rB r)) := (Below.refl _ _).alloc (Nat.le_refl _) _
      have I1 := Lib.hid (I.out.keep hba)
      have LR := Lib.hid (ldR (rg_rb (heap_new wr (rB r))))
      have SC := Lib.hid (right_calls r (wr.alloc (rB r)))
      have IR := Lib.hid (IRo r)
      have OR := Lib.hid (one_ro r)
      have SR := Lib.hid (show (roC ⟨0, ⟨0, false, 0⟩, ⟨0, false, 0⟩⟩).toArray.size = (roC r).toArray.size by rw [List.size_toArray, List.size_toArray, roC_len, roC_len])
      clear hr hq hrg hba I
      unfold rB at I1 LR SC
      go_wp2_with (first | (refine wpList_loadg (by rfl) 30 (.tmp 13) (by rfl) _ (by rfl) _ LW.out ?_) | (refine wpList_loadg (by rfl) 30 (.tmp 7) (by rfl) _ (by rfl) _ LR.out ?_) | (refine wpList_store_last rfl 30 _ _ rfl _ (roC r).toArray rfl rfl IR.out (by exact SR.out) OR.out ?_))
      refine SC.out.mono ?_
      rintro e w5 ⟨rfl, hb5⟩
      have I5 := Lib.hid (I1.out.keep hb5)
      generalize sel true r = h at *
      have hbb : Below w5.heap.size w5 (w5.alloc (hB h)) := (Below.refl _ _).alloc (Nat.le_refl _) _
      have I6 := Lib.hid (I5.out.keep hbb)
      have RG := rg_hb (heap_new w5 (hB h))
      have c1 := hf1 RG
      have L2 := Lib.hid (ldN (hf2 RG))
      have L5 := Lib.hid (ldNB I6.out.bst)
      have CM := Lib.hid (lcmp_calls h.v X (w5.alloc (hB h)) hok.1 HXl.out)
      have IH := Lib.hid (IHf h)
      have OH := Lib.hid (one_hf h)
      have SH := Lib.hid (show (hfC hf0').toArray.size = (hfC h).toArray.size by rw [List.size_toArray, List.size_toArray, hfC_len, hfC_len])
      have RG7 := Lib.hid (heap_new w5 (hB h))
      have RG := Lib.hid RG
      clear hb5 I5 I1 SC LR LW IR OR SR hbb HXl
      unfold hB at I6 RG RG7 c1 L2 L5 CM
      go_upto_region 6 with (refine wpList_store_last rfl 28 _ _ rfl _ (hfC h).toArray rfl rfl IH.out (by exact SH.out) OH.out ?_)
      obtain ⟨g6, hg6⟩ : ∃ g6, g6 = w5.heap.size := ⟨_, rfl⟩
      rw [← hg6] at c1 L2 RG RG7
      rw [← hg6]
      clear hg6
      generalize World.alloc w5 _ = W6 at *
      simp only [Nat.zero_add] at c1 L2
      by_cases hm : h.m = true
      · rw [hm] at c1
        have hcg := cmp_gt h.v X
        by_cases hv : X < h.v
        · rw [if_pos ⟨hm, hv⟩] at hT
          have t3 : decide ((0 : Int) < cmpI h.v X) = true := by rw [hcg]; exact decide_eq_true hv
          clear hcg
          have hT := Lib.hid hT
          go_wp2_with (first | (refine wpList_loadg (by rfl) 26 (.tmp 21) (by rfl) _ (by rfl) _ L2.out ?_) | (refine wpList_loadg (by rfl) 26 (.tmp 5) (by rfl) _ (by rfl) _ L5.out ?_))
          refine CM.out.mono ?_
          rintro e w7 ⟨rfl, hb7⟩
          have I7 := I6.out.keep hb7
          have L7 := Lib.hid (ldN (hf2 (rg_below RG.out (Array.getElem?_eq_some_iff.1 (RG7.out)).1 hb7)))
          have ST := Lib.hid (st_n (Y := h.v) I7.bst)
          have I8 := Lib.hid (I7.put (by omega) (by have := G.out; omega) h.v)
          clear hb7 I7 I6 L2 L5 CM c1
          generalize cmpI h.v X = cm at *
          simp only [Nat.zero_add] at L7
          go_wp2_with (first | (refine wpList_loadg (by rfl) 26 (.tmp 27) (by rfl) _ (by rfl) _ L7.out ?_) | (refine wpList_st (by rfl) (.tmp 5) (.tmp 28) (by rfl) _ (by rfl) _ (by rfl) ST.out ?_))
          generalize World.setRow _ _ _ = W8 at *
          go_roundw
          case rel => exact ⟨i + 1, by go_num, by omega, by rw [hT.out]; exact I8⟩
          case measure => simp [intOf] <;> omega
        · rw [if_neg (fun e => hv e.2)] at hT
          have t3 : decide ((0 : Int) < cmpI h.v X) = false := by rw [hcg]; exact decide_eq_false hv
          clear hcg
          have hT := Lib.hid hT
          go_wp2_with (first | (refine wpList_loadg (by rfl) 26 (.tmp 21) (by rfl) _ (by rfl) _ L2.out ?_) | (refine wpList_loadg (by rfl) 26 (.tmp 5) (by rfl) _ (by rfl) _ L5.out ?_))
          refine CM.out.mono ?_
          rintro e w7 ⟨rfl, hb7⟩
          have I8 := Lib.hid (I6.out.keep hb7)
          clear hb7 I6 L2 L5 CM c1
          generalize cmpI h.v X = cm at *
          go_wp2_with fail
          go_roundw
          case rel => exact ⟨i + 1, by go_num, by omega, by rw [hT.out]; exact I8⟩
          case measure => simp [intOf] <;> omega
      · have hm' : h.m = false := by simpa using hm
        rw [if_neg (fun e => hm e.1)] at hT
        rw [hm'] at c1
        have hT := Lib.hid hT
        clear L2 L5 CM hm hm'
        go_wp2_with fail
        go_roundw
        case rel => exact ⟨i + 1, by go_num, by omega, by rw [hT.out]; exact I6⟩
        case measure => simp [intOf] <;> omega
    · obtain rfl : i = rs.length := by omega
      rw [List.take_length] at I
      have t2 : decide ((rs.length : Int) < (rs.length : Int)) = false := decide_eq_false (by omega)
      have L5 := Lib.hid (ldNB I.out.bst)
      obtain ⟨X, hX⟩ : ∃ X, X = argV (sel true) rs 0 := ⟨_, rfl⟩
      rw [← hX] at L5 I
      have hX := Lib.hid hX
      have hbt := row_but wr g4 (FC 5 (lb X)).toArray
      have ST := Lib.hid (st_n (Y := X) I.out.res)
      have SR := Lib.hid (setRow_heap _ _ _ (FC 5 (lb X)).toArray _ _ I.out.res)
      have SB := Lib.hid (show Below w.heap.size w (wr.setRow g4 (FC 5 (lb X)).toArray) from below_row I.out.bel (by have := G.out; omega))
      clear I hbt
      go_wp2_with (first | (refine wpList_loadg (by rfl) 26 (.tmp 5) (by rfl) _ (by rfl) _ L5.out ?_) | (refine wpList_st (by rfl) (.tmp 4) (.tmp 30) (by rfl) _ (by rfl) _ (by rfl) ST.out ?_))
      exact bodyPost_ret (results_cell 4 26 ⟨g4, 0, none⟩ _ rfl rfl (lvN SR.out)) rfl ⟨by rw [hX.out], SB.out⟩
def verV (rs : List Ro) : Int := cmpI (argV (sel false) rs 0) (argV (sel true) rs 0)
set_option maxHeartbeats 4000000 in
set_option maxRecDepth 100000 in
theorem verdict_calls (v : Value) (rs : List Ro) (w : World) (h : SL roC 15 w v rs) (ok : ∀ r ∈ rs, r.Ok) :
    Calls Tryd.prog 17 #[v] w fun e w' => e = .returned (.int .i64 (verV rs)) ∧ Below w.heap.size w w' := by
  have P1 := Lib.hid (arguedl_calls v rs w h ok)
  have P2 := Lib.hid (fun wx (hx : Below w.heap.size w wx) => arguedr_calls v rs wx (h.below hx) ok)
  have hl1 : argV (sel false) rs 0 < (2 ^ 64) ^ 5 := argV_lt (fun r hr => (sel_ok (ok r hr) false).1) (Nat.pow_pos (by decide))
  have hl2 : argV (sel true) rs 0 < (2 ^ 64) ^ 5 := argV_lt (fun r hr => (sel_ok (ok r hr) true).1) (Nat.pow_pos (by decide))
  have P3 := Lib.hid (fun wx => lcmp_calls _ _ wx hl1 hl2)
  have HV := Lib.hid (show verV rs = cmpI (argV (sel false) rs 0) (argV (sel true) rs 0) from rfl)
  generalize argV (sel false) rs 0 = X at *
  generalize argV (sel true) rs 0 = Y at *
  obtain ⟨_, hbd, A, c, rfl, hlc, hcm, _⟩ := h
  clear hl1 hl2 ok
  go_enter Tryd.func17, Tryd.ntmps17
  go_wp2_with fail
  refine P1.out.mono ?_
  rintro e w1 ⟨rfl, hb1⟩
  have hb2 : Below w1.heap.size w1 (w1.alloc (nB X)) := (Below.refl _ _).alloc (Nat.le_refl _) _
  have hg2 := heap_new w1 (nB X)
  have B2 := Lib.hid (below_up hb1 hb2)
  have L2 := Lib.hid (fun wx (hx : Below (w1.alloc (nB X)).heap.size (w1.alloc (nB X)) wx) => ldNB ((hx.block _ (Array.getElem?_eq_some_iff.1 hg2).1).trans hg2))
  have P2 := Lib.hid (fun wx (hx : Below (w1.alloc (nB X)).heap.size (w1.alloc (nB X)) wx) => P2.out wx (below_up B2.out hx))
  have P3 := Lib.hid (fun wx (_ : Below (w1.alloc (nB X)).heap.size (w1.alloc (nB X)) wx) => P3.out wx)
  clear hb1 hb2 hg2 P1
  unfold nB at B2 L2 P2 P3
  go_upto_region 2 with (refine wpList_store_last rfl 26 _ _ rfl _ (FC 5 (lb X)).toArray rfl rfl (IN5 _) (by rw [FC_size]; rfl) (FC_one _ _) ?_)
  generalize World.alloc w1 _ = W2 at *
  generalize cmpI X Y = cm at *
  go_wp2_with fail
  refine wp_region_quiet_below (by kernel_rfl) (by kernel_rfl) ?_
  repeat (first | go_big_quiet_skip | ((refine wpQuiet_load rfl 26 _ rfl _ rfl _ (rg_fact L2.out) ?_); simp only [Act.put, List.setIfInBounds_toArray, List.set_cons_zero, List.set_cons_succ]) | ((refine wpQuiet_call (by rfl) 38 _ (fun wx => call_run (by rfl) (by rfl) (enters_of Tryd.func38 (by kernel_rfl) rfl)) _ (rg_of P2.out) ?_); simp only [Act.put, List.setIfInBounds_toArray, List.set_cons_zero, List.set_cons_succ]) | ((refine wpQuiet_call (by rfl) 15 _ (fun wx => call_run (by rfl) (by rfl) (enters_of Tryd.func15 (by kernel_rfl) rfl)) _ (rg_of P3.out) ?_); simp only [Act.put, List.setIfInBounds_toArray, List.set_cons_zero, List.set_cons_succ]) | go_big_quiet_step (fail) | quiet_step (fail))
  refine wpQuiet_nil ?_
  rintro _ ⟨rp, rfl⟩
  have hb7 := below_regrown W2 rp.d rp.os
  generalize Sort.grow (redrawn W2 rp.d) rp.os = w7 at *
  go_wp2_with fail
  go_ret
  exact ⟨by rw [HV.out]; rfl, below_up B2.out hb7⟩
end Go.Proofs.YtihdeanfcbiflaaDoor.Wh
