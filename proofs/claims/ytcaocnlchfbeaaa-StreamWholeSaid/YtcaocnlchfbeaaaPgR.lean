/- The walks of the document's Get and Decode of a proof. -/
import Derived.Test.YtcaocnlchfbeaaaPg
import Derived.Test.YtcaocnlchfbeaaaTsR
import Derived.Test.YtcaocnlchfbeaaaBa
namespace Go.Proofs.Ytcaocnlchfbeaaa.Pf
open Go.RowKit Go.Proofs.Ytcaocnlchfbeaaa.Mk Go.Proofs.Ytcaocnlchfbeaaa.Op Go.Proofs.Ytcaocnlchfbeaaa.Hd Go.Proofs.Ytcaocnlchfbeaaa.St Go.Proofs.Ytcaocnlchfbeaaa.Cur Go.Proofs.Ytcaocnlchfbeaaa.Stp Go.Proofs.Ytcaocnlchfbeaaa.Tk
theorem RW.mono {B B' : Nat} {w : World} {v : Value} {ts : List Tr} (h : RW B w v ts) (hb : B' ≤ B) : RW B' w v ts :=
  ⟨own_mono h.row hb, fun t ht => ⟨(h.each t ht).1, own_mono (h.each t ht).2.1 hb, (h.each t ht).2.2⟩⟩
/-- what holds at a round's head -/
structure PJ (w : World) (c : C) (v : Value) (ts : List Tr) (wr : World) : Prop where
  cu : wr.heap[w.heap.size]? = some (cO c)
  res : wr.heap[w.heap.size + 1]? = some (cO ⟨[], 0⟩)
  rw_ : RW (w.heap.size + 2) wr v ts
  bel : Below w.heap.size w wr
theorem PJ.keep {w wr w' : World} {c : C} {v : Value} {ts : List Tr} (h : PJ w c v ts wr) (hb : Below wr.heap.size wr w') : PJ w c v ts w' :=
  ⟨(hb.block _ (Array.getElem?_eq_some_iff.1 h.cu).1).trans h.cu, (hb.block _ (Array.getElem?_eq_some_iff.1 h.res).1).trans h.res, h.rw_.below hb, below_up h.bel hb⟩
theorem PJ.row {w wr : World} {c c2 : C} {v : Value} {ts : List Tr} (h : PJ w c v ts wr) : PJ w c2 v ts (wr.setRow w.heap.size #[.string (ba c2.b), .int .i64 c2.e]) :=
  ⟨setRow_heap _ _ _ _ _ _ h.cu, (setRow_other _ _ _ _ (by omega)).trans h.res, h.rw_.but (But.rowS (S := fun x => x = w.heap.size) (But.refl _ _) rfl _) (fun i e => by omega), below_row h.bel (Nat.le_refl _)⟩
set_option maxHeartbeats 20000000 in
set_option maxRecDepth 100000 in
theorem rget_calls (c : C) (w : World) (hl : c.b.length ≤ 9223372036854775807) :
    Calls Try.prog 37 #[cV c] w fun r w' => ∃ v ts, r = .returned (.tuple #[v, cV (getP c).2]) ∧ RW w.heap.size w' v ts ∧ ts.map Tr.ho = (getP c).1 ∧ ts.length ≤ 1024 ∧ Below w.heap.size w w' := by
  have HN := Lib.hid (fun w => rnum_calls c top w hl)
  have hhd : headC c = ((numC c top).1, if 1024 < (numC c top).1 then failC (numC c top).2 4 else (numC c top).2) := rfl
  have hgp : getP c = if (stepsC (headC c).1 (headC c).2 []).2.e ≠ 0 then ([], (stepsC (headC c).1 (headC c).2 []).2) else stepsC (headC c).1 (headC c).2 [] := rfl
  have hmany := @head_many c
  have hhl := head_len c
  have hnm := num_le c top
  generalize getP c = z at *
  generalize headC c = y at *
  generalize numC c top = x at *
  obtain ⟨n, d⟩ := x
  obtain ⟨n2, d2⟩ := y
  simp only [Prod.mk.injEq] at hhd
  obtain ⟨rfl, hd2⟩ := hhd
  simp only at hgp hmany hhl hnm HN
  have HT : Hid (((top : Nat) : Int) = 18446744073709551615) := Lib.hid rfl
  rw [HT.out] at HN
  have HG := Lib.hid hgp
  have HM := Lib.hid hmany
  have hn64 : n2 < 18446744073709551616 := by unfold top at hnm; omega
  clear hgp hmany hnm
  have HF := Lib.hid (fun w => rfail_calls d 4 w)
  unfold cV cC at *
  go_enter Try.func37, Try.ntmps37
  go_wp2_with fail
  generalize hW : World.alloc (World.alloc w _) _ = W0
  have Z := Lib.hid (show PJ w c (.slice none 0 0) [] W0 from by
    rw [← hW]
    exact ⟨Tk.nwA w _ _, Tk.nwB w _ _, RW.nil _ _, ((Below.refl _ _).alloc (Nat.le_refl _) _).alloc (by simp) _⟩)
  clear hW
  go_wp2_with (first | (refine wpList_loadg (by rfl) 45 (.tmp 1) (by rfl) _ (by rfl) _ (Tk.ldC Z.out.cu) ?_))
  refine (HN.out _).mono ?_
  rintro r w1 ⟨rfl, hb1⟩
  have Z1 := Lib.hid (Z.out.keep hb1)
  have Z2 := Lib.hid (Z1.out.row (c2 := d))
  clear hb1 Z HN
  by_cases hm : 1024 < n2
  · have hd : d2 = failC d 4 := hd2.trans (if_pos hm)
    have hne := HM.out hm
    have HZ := Lib.hid (show z = if d2.e ≠ 0 then ([], d2) else ([], d2) from by
      have := HG.out
      rw [steps_stop (.inr hne)] at this
      exact this)
    have t1 : decide ((1024 : Int) < (n2 : Int)) = true := decide_eq_true (by omega)
    have t1' : decide (1024 < n2) = true := decide_eq_true hm
    have t2 : (0 : Int) < (n2 : Int) := by omega
    have t2' : 0 < n2 := by omega
    have t2'' : decide (0 < n2) = true := decide_eq_true t2'
    rw [← hd] at HF
    clear hm hd hd2 HM HG
    go_wp2_with (first | (refine wpList_store_row (by rfl) 45 _ _ (by rfl) _ #[.string (ba (d).b), .int .i64 (d).e] (by rfl) (by rfl) _ _ Z1.out.cu (Tk.IC2 _ _) rfl (Tk.oneC _ _) ?_) | (refine wpList_loadg (by rfl) 45 (.tmp 1) (by rfl) _ (by rfl) _ (Tk.ldC Z2.out.cu) ?_))
    refine (HF.out _).mono ?_
    rintro r w3 ⟨rfl, hb3⟩
    have Z3 := Lib.hid (Z2.out.keep hb3)
    have Z4 := Lib.hid (Z3.out.row (c2 := d2))
    clear hb3 Z1 Z2 HF
    go_wp2_with (first | (refine wpList_store_row (by rfl) 45 _ _ (by rfl) _ #[.string (ba (d2).b), .int .i64 (d2).e] (by rfl) (by rfl) _ _ Z3.out.cu (Tk.IC2 _ _) rfl (Tk.oneC _ _) ?_))
    clear Z3
    generalize World.setRow w3 w.heap.size _ = w4 at *
    go_loopw [5, 6] (fun s5 s6 wr => s5 = .slice none 0 0 ∧ s6 = .int .u64 0 ∧ wr = w4) (fun _ _ _ => 0)
    case atStart => exact ⟨rfl, rfl, rfl⟩
    case round =>
      obtain ⟨rfl, rfl, hww⟩ := hrel
      subst hww
      have I := Z4
      have cE := Lib.hid (show wr.cell? ⟨w.heap.size, 1, none⟩ = some (.int .i64 d2.e) by rw [cell_of_row _ _ _ _ _ _ I.out.cu]; rfl)
      have he : d2.e ≠ 0 := hne
      have t3 : (d2.e == 0) = false := by simpa using hne
      have cE := cE.out
      clear hne Z4
      have HZ := Lib.hid (HZ.out.trans (if_pos he))
      have t4 : (d2.e != 0) = true := by simpa using he
      clear he
      go_wp2_with fail
      have S_X0 : SQ [(w.heap.size, cO d2)] w wr.drew := ⟨KQ.cons I.out.cu (KQ.nil _), I.out.bel.drew⟩
      have K_X0 : wr.drew.heap[w.heap.size + 1]? = some (cO ⟨[], 0⟩) := I.out.res
      have HNE : Hid (∀ p ∈ [(w.heap.size, cO d2)], p.1 ≠ w.heap.size + 1) := Lib.hid (fun p hp => by simp at hp; rw [hp]; simp)
      clear I cE
      refine wp_region_held_drew (S := SQ [(w.heap.size, cO d2)] w) (by kernel_rfl) S_X0 (fun hHeld => ?_)
      generalize World.drew wr = X0 at *
      clear hHeld
      refine wpAnyH_take (i := 0) (oi := ⟨some 41, _, _, _, _, _⟩) (v := .agg #[.string (ba d2.b), .int .i64 d2.e]) rfl (by kernel_rfl) (by kernel_rfl) (by kernel_rfl) (fun _ _ _ h => h) (Or.inl ⟨by rfl, by intro wx hx; exact Tk.YC hx.a0⟩) (by assumption) ?_
      try simp only [Act.put, List.setIfInBounds_toArray, List.set_cons_zero, List.set_cons_succ]
      refine wpAnyH_take (i := 1) (oi := ⟨some 2, _, _, _, _, _⟩) (v := .slice none 0 0) rfl (by kernel_rfl) (by kernel_rfl) (by kernel_rfl) (fun _ _ _ h => h) (Or.inl ⟨by rfl, by intro wx _; go_simp⟩) (by assumption) ?_
      try simp only [Act.put, List.setIfInBounds_toArray, List.set_cons_zero, List.set_cons_succ]
      refine wpAnyH_ready (rs := [2]) (by kernel_rfl) (by simp) ?_
      refine AllReadyH.cons rfl (fun K hK => ?_) AllReadyH.nil
      · refine step_store rfl 45 _ _ rfl _ rfl (.agg #[.string (ba d2.b), .int .i64 d2.e]) rfl _ (run_storeAt_row (cells := #[.string (ba d2.b), .int .i64 d2.e]) K_X0 (Tk.IC2 _ _) rfl (Tk.oneC _ _)) ?_
        generalize hW1 : World.setRow X0 _ _ = V1
        have S_V1 := hW1 ▸ S_X0.row (by omega) HNE.out
        have K_V1 := hW1 ▸ setRow_heap _ _ _ _ _ _ K_X0
        try dsimp only
        refine hK.out (Act.put _ none _) _ S_V1 (fun _ => ?_)
        try simp only [Act.put, List.setIfInBounds_toArray, List.set_cons_zero, List.set_cons_succ]
        clear hK K
        refine wpAnyH_done (by kernel_rfl) ?_ _
        go_wp2_with fail
        exact bodyPost_ret (results_tmp_cell 2 3 45 ⟨w.heap.size + 1, 0, none⟩ _ rfl rfl (Tk.lvC K_V1)) rfl ⟨_, [], by rw [HZ.out]; rfl, RW.nil _ _, by rw [HZ.out]; rfl, by decide, S_V1.2⟩
  · obtain rfl : d2 = d := hd2.trans (if_neg hm)
    have t1 : decide ((1024 : Int) < (n2 : Int)) = false := decide_eq_false (by omega)
    have t1' : decide (1024 < n2) = false := decide_eq_false hm
    have hm2 : n2 ≤ 1024 := by omega
    clear hm hd2 HM HF
    go_wp2_with (first | (refine wpList_store_row (by rfl) 45 _ _ (by rfl) _ #[.string (ba (d2).b), .int .i64 (d2).e] (by rfl) (by rfl) _ _ Z1.out.cu (Tk.IC2 _ _) rfl (Tk.oneC _ _) ?_))
    clear Z1
    generalize World.setRow w1 w.heap.size _ = w2 at *
    go_loopw [5, 6] (fun s5 s6 wr => ∃ (k : Nat) (cc : C) (ts : List Tr) (v : Value), s6 = .int .u64 (k : Int) ∧ v = s5 ∧ k ≤ n2 ∧ ts.length ≤ k ∧ cc.b.length ≤ 9223372036854775807 ∧ Hid (stepsC n2 d2 [] = stepsC (n2 - k) cc (ts.map Tr.ho)) ∧ Hid (PJ w cc v ts wr)) (fun _ s6 _ => n2 - (intOf s6).toNat)
    case atStart => exact ⟨0, d2, [], _, rfl, rfl, by omega, by simp, by omega, Lib.hid rfl, Z2⟩
    case round =>
      clear Z2
      obtain ⟨k, cc, ts, v, rfl, rfl, hk, htk, hcl, HL, I⟩ := hrel
      have cE := Lib.hid (show wr.cell? ⟨w.heap.size, 1, none⟩ = some (.int .i64 cc.e) by rw [cell_of_row _ _ _ _ _ _ I.out.cu]; rfl)
      by_cases hgo : k < n2 ∧ cc.e = 0
      · obtain ⟨hk2, he0⟩ := hgo
        have HL2 := Lib.hid (show stepsC n2 d2 [] = stepsC (n2 - (k + 1)) (stepC cc).2 (ts.map Tr.ho ++ [(stepC cc).1]) by rw [HL.out, show n2 - k = n2 - (k + 1) + 1 by omega, steps_go he0])
        have hsl := stepC_len cc
        have HT2 := Lib.hid (fun w' => rtakeStep_calls cc w' hcl)
        have hkk := stepC_ok cc
        unfold cV cC at HT2
        generalize stepC cc = x at *
        obtain ⟨⟨hd, o⟩, c2⟩ := x
        simp only at HL2 hsl HT2 hkk
        have KD := Lib.hid hkk
        have cE := cE.out
        rw [he0] at cE
        have t2 : decide (k < n2) = true := decide_eq_true hk2
        have t2' : decide ((k : Int) < (n2 : Int)) = true := decide_eq_true (by omega)
        clear HL hkk he0
        go_wp2_with (first | (refine wpList_loadg (by rfl) 45 (.tmp 1) (by rfl) _ (by rfl) _ (Tk.ldC I.out.cu) ?_))
        refine (HT2.out _).mono ?_
        rintro r w6 ⟨v6, rfl, ⟨sv, rfl, hso, h32, h63⟩, hb6⟩
        obtain ⟨A6, c6, rfl⟩ := own_slice hso
        have hbw : w.heap.size + 2 ≤ wr.heap.size := by have := lt_of I.out.res; omega
        have I6 := Lib.hid (I.out.keep hb6)
        have hz6 : w.heap.size + 2 ≤ w6.heap.size := Nat.le_trans hbw hb6.size
        have HO := Lib.hid (And.intro (own_mono hso hbw) (And.intro h32 h63))
        have IS3 := Lib.hid (ISt KD.out o (.slice A6 o.p.length c6))
        have RS3 := Lib.hid (rsz hd0_ok KD.out op0 o (.slice none 0 0) (.slice A6 o.p.length c6))
        have OS3 := Lib.hid (one_sc (h := hd) o A6 o.p.length c6)
        clear hso h32 h63 hb6 I HT2 cE
        go_upto_region 9 with (first | (refine wpList_store_row (by rfl) 43 _ _ (by rfl) w6.heap.size (sc hd o (.slice A6 o.p.length c6)).toArray (by rfl) (by rfl) _ _ (Tk.nwA w6 _ _) IS3.out RS3.out OS3.out ?_) | (refine wpList_store_row (by rfl) 45 _ _ (by rfl) (w6.heap.size + 1) #[.string (ba c2.b), .int .i64 c2.e] (by rfl) (by rfl) _ _ ((setRow_other _ _ _ _ (by omega)).trans (Tk.nwB w6 _ _)) (Tk.IC2 _ _) rfl (Tk.oneC _ _) ?_))
        generalize hW8 : World.setRow (World.setRow _ _ _) _ _ = W8
        have P8 := Lib.hid (show PJ w cc v ts W8 ∧ W8.heap[w6.heap.size]? = some (sB hd o (.slice A6 o.p.length c6)) ∧ W8.heap[w6.heap.size + 1]? = some (cO c2) ∧ W8.ownsRow (w.heap.size + 2) 35 32 (.slice A6 o.p.length c6) o.p.length (o.p.flatMap hc) from by
          rw [← hW8]
          have hba : Below w6.heap.size w6 ((((w6.alloc (sB hd0 op0 (.slice none 0 0))).alloc (cO ⟨[], 0⟩)).setRow w6.heap.size (sc hd o (.slice A6 o.p.length c6)).toArray).setRow (w6.heap.size + 1) #[.string (ba c2.b), .int .i64 c2.e]) := below_row (below_row (((Below.refl _ w6).alloc (Nat.le_refl _) _).alloc (by simp) _) (Nat.le_refl _)) (by omega)
          exact ⟨I6.out.keep hba, (setRow_other _ _ _ _ (by omega)).trans (setRow_heap _ _ _ _ _ _ (Tk.nwA w6 _ _)), setRow_heap _ _ _ _ _ _ ((setRow_other _ _ _ _ (by omega)).trans (Tk.nwB w6 _ _)), own_but HO.out.1 (But.of_below (S := fun _ => False) hba) (fun _ e => e.elim)⟩)
        have H6 := Lib.hid HO.out.2
        clear hW8 I6 IS3 RS3 OS3 HO
        go_upto_region 10 with (first | (refine wpList_loadg (by rfl) 45 (.tmp 8) (by rfl) _ (by rfl) _ (Tk.ldC P8.out.2.2.1) ?_) | (refine wpList_store_row (by rfl) 45 _ _ (by rfl) _ #[.string (ba (c2).b), .int .i64 (c2).e] (by rfl) (by rfl) _ _ P8.out.1.cu (Tk.IC2 _ _) rfl (Tk.oneC _ _) ?_))
        have P9 := Lib.hid (show PJ w c2 v ts (W8.setRow w.heap.size #[.string (ba c2.b), .int .i64 c2.e]) ∧ (W8.setRow w.heap.size #[.string (ba c2.b), .int .i64 c2.e]).heap[w6.heap.size]? = some (sB hd o (.slice A6 o.p.length c6)) ∧ (W8.setRow w.heap.size #[.string (ba c2.b), .int .i64 c2.e]).ownsRow (w.heap.size + 2) 35 32 (.slice A6 o.p.length c6) o.p.length (o.p.flatMap hc) from
          ⟨P8.out.1.row, (setRow_other _ _ _ _ (by omega)).trans P8.out.2.1, own_but P8.out.2.2.2 (But.rowS (S := fun x => x = w.heap.size) (But.refl _ _) rfl _) (fun i e => by omega)⟩)
        clear P8
        generalize World.setRow W8 w.heap.size #[.string (ba c2.b), .int .i64 c2.e] = W9 at *
        obtain ⟨i0, hi, hz0, hz1, hz2⟩ := info_parts IStp
        have hsz : (sc hd o (.slice A6 o.p.length c6)).toArray.size = 69 := by rw [List.size_toArray, sc_len KD.out]
        have HSL := Lib.hid (sc_len KD.out o (.slice A6 o.p.length c6))
        have HON := Lib.hid (fun u (hu : u ∈ sc hd o (.slice A6 o.p.length c6)) => Array.all_eq_true_iff_forall_mem.1 (one_sc (h := hd) o A6 o.p.length c6) u (by simpa using hu))
        have hbs : w.heap.size + 2 ≤ W9.heap.size := by have := lt_of P9.out.1.res; omega
        have I7 := Lib.hid (P9.out.1.keep ((Below.refl _ W9).alloc (Nat.le_refl _) (.cells (sc hd o (.slice A6 o.p.length c6)).toArray 43)))
        have HO7 := Lib.hid (own_but (P9.out.2.2) (But.of_below (S := fun _ => False) ((Below.refl _ W9).alloc (Nat.le_refl _) (.cells (sc hd o (.slice A6 o.p.length c6)).toArray 43))) (fun _ e => e.elim))
        have LS := Lib.hid (ldSt KD.out P9.out.2.1)
        have HI := Lib.hid (And.intro hi (And.intro hz0 (And.intro hz1 hz2)))
        clear hi hz0 hz1 hz2
        go_wp2_with (first | (refine wpList_loadg (by rfl) 43 (.tmp 7) (by rfl) _ (by rfl) _ LS.out ?_) | (refine wpList_buildOne (by rfl) 23 43 69 (.tmp 35) (by rfl) (sc hd o (.slice A6 o.p.length c6)).toArray _ _ (by rfl) hsz IStp USs (by decide) (by decide) ?_) | (at_builtin; refine wpList_append_lies _ rfl (.tmp 34) (.tmp 36) 23 rfl (w.heap.size + 2) 43 i0 _ 69 120 USs HI.out.1 HI.out.2.1 HI.out.2.2.1 HI.out.2.2.2 zStp (by decide) _ _ _ rfl I7.out.rw_.row ⟨W9.heap.size, 0, none⟩ 1 1 (sc hd o (.slice A6 o.p.length c6)) rfl HSL.out (World.news_of_block (heap_new _ _)) HON.out (by decide) (by simp only [maxLen]; omega) (by omega) (by simp; omega) _ rfl ?_))
        intro gx capx W10 own gro _ _
        have hrow : ∀ x, x < w.heap.size + 2 → some x ≠ v.ownBlock := fun x hx e => own_lo2 I7.out.rw_.row hx e.symm
        have P10 := Lib.hid (show PJ w c2 (.slice (some ⟨gx, 0, none⟩) (ts.length + 1) capx) (ts ++ [⟨hd, o, .slice A6 o.p.length c6⟩]) W10 from ⟨(gro.block _ (lt_of I7.out.cu) (hrow _ (by omega))).trans I7.out.cu, (gro.block _ (lt_of I7.out.res) (hrow _ (by omega))).trans I7.out.res, RW.app I7.out.rw_ gro own ⟨KD.out, HO7.out, H6.out.1, H6.out.2⟩, I7.out.bel.grown gro I7.out.bel.size (fun i e => by
          rcases Nat.lt_or_ge i (w.heap.size + 2) with h | h
          · exact absurd e.symm (hrow i h)
          · omega)⟩)
        clear own gro I7 HO7 hrow P9
        go_wp2_with fail
        go_roundw
        case rel => exact ⟨k + 1, c2, ts ++ [⟨hd, o, .slice A6 o.p.length c6⟩], _, by go_num, rfl, by omega, by simp; omega, by omega, Lib.hid (by rw [HL2.out]; simp [Tr.ho]), Lib.hid (by simpa using P10.out)⟩
        case measure => simp [intOf] <;> omega
      · have HZ := Lib.hid (show z = if cc.e ≠ 0 then ([], cc) else (ts.map Tr.ho, cc) from by
          have := HG.out
          rw [HL.out, steps_stop (by omega)] at this
          exact this)
        have hcond : (decide (k < n2) = false) ∨ (decide (k < n2) = true ∧ (cc.e == 0) = false) := by
          by_cases e1 : k < n2
          · refine .inr ⟨decide_eq_true e1, ?_⟩
            rw [beq_eq_false_iff_ne]
            exact fun e2 => hgo ⟨e1, e2⟩
          · exact .inl (decide_eq_false e1)
        clear hgo HL HG
        rcases hcond with t2 | ⟨t2, t3⟩
        · have t2' : decide ((k : Int) < (n2 : Int)) = false := decide_eq_false (by have := of_decide_eq_false t2; omega)
          have cE := cE.out
          by_cases he : cc.e = 0
          · skip
            have HZ := Lib.hid (HZ.out.trans (if_neg (by simpa using he)))
            have t4 : (cc.e != 0) = false := by rw [he]; rfl
            clear he
            go_wp2_with fail
            have S_X0 : SQ [(w.heap.size, cO cc)] w wr.drew := ⟨KQ.cons I.out.cu (KQ.nil _), I.out.bel.drew⟩
            have K_X0 : wr.drew.heap[w.heap.size + 1]? = some (cO ⟨[], 0⟩) := I.out.res
            have O_X0 : RW (w.heap.size + 2) wr.drew v ts := I.out.rw_.below (Below.refl _ _).drew
            have HNE : Hid (∀ p ∈ [(w.heap.size, cO cc)], p.1 ≠ w.heap.size + 1) := Lib.hid (fun p hp => by simp at hp; rw [hp]; simp)
            clear I cE
            refine wp_region_held_drew (S := SQ [(w.heap.size, cO cc)] w) (by kernel_rfl) S_X0 (fun hHeld => ?_)
            generalize World.drew wr = X0 at *
            clear hHeld
            refine wpAnyH_take (i := 0) (oi := ⟨some 42, _, _, _, _, _⟩) (v := v) rfl (by kernel_rfl) (by kernel_rfl) (by kernel_rfl) (fun _ _ _ h => h) (Or.inl ⟨by rfl, by intro wx _; go_simp⟩) (by assumption) ?_
            try simp only [Act.put, List.setIfInBounds_toArray, List.set_cons_zero, List.set_cons_succ]
            refine wpAnyH_take (i := 1) (oi := ⟨some 43, _, _, _, _, _⟩) (v := .agg #[.string (ba cc.b), .int .i64 cc.e]) rfl (by kernel_rfl) (by kernel_rfl) (by kernel_rfl) (fun _ _ _ h => h) (Or.inl ⟨by rfl, by intro wx hx; exact Tk.YC hx.a0⟩) (by assumption) ?_
            try simp only [Act.put, List.setIfInBounds_toArray, List.set_cons_zero, List.set_cons_succ]
            refine wpAnyH_take (i := 2) (oi := ⟨some 2, _, _, _, _, _⟩) (v := v) rfl (by kernel_rfl) (by kernel_rfl) (by kernel_rfl) (fun _ _ _ h => h) (Or.inl ⟨by rfl, by intro wx _; go_simp⟩) (by assumption) ?_
            try simp only [Act.put, List.setIfInBounds_toArray, List.set_cons_zero, List.set_cons_succ]
            refine wpAnyH_ready (rs := [3]) (by kernel_rfl) (by simp) ?_
            refine AllReadyH.cons rfl (fun K hK => ?_) AllReadyH.nil
            · refine step_store rfl 45 _ _ rfl _ rfl (.agg #[.string (ba cc.b), .int .i64 cc.e]) rfl _ (run_storeAt_row (cells := #[.string (ba cc.b), .int .i64 cc.e]) K_X0 (Tk.IC2 _ _) rfl (Tk.oneC _ _)) ?_
              generalize hW1 : World.setRow X0 _ _ = V1
              have S_V1 := hW1 ▸ S_X0.row (by omega) HNE.out
              have K_V1 := hW1 ▸ setRow_heap _ _ _ _ _ _ K_X0
              have O_V1 := hW1 ▸ O_X0.but (But.rowS (S := fun x => x = w.heap.size + 1) (But.refl _ _) rfl _) (fun i e => by omega)
              try dsimp only
              refine hK.out (Act.put _ none _) _ S_V1 (fun _ => ?_)
              try simp only [Act.put, List.setIfInBounds_toArray, List.set_cons_zero, List.set_cons_succ]
              clear hK K
              refine wpAnyH_done (by kernel_rfl) ?_ _
              go_wp2_with fail
              exact bodyPost_ret (results_tmp_cell 2 3 45 ⟨w.heap.size + 1, 0, none⟩ _ rfl rfl (Tk.lvC K_V1)) rfl ⟨_, ts, by rw [HZ.out]; rfl, O_V1.mono (by omega), by rw [HZ.out], by omega, S_V1.2⟩
          · skip
            have HZ := Lib.hid (HZ.out.trans (if_pos he))
            have t4 : (cc.e != 0) = true := by simpa using he
            clear he
            go_wp2_with fail
            have S_X0 : SQ [(w.heap.size, cO cc)] w wr.drew := ⟨KQ.cons I.out.cu (KQ.nil _), I.out.bel.drew⟩
            have K_X0 : wr.drew.heap[w.heap.size + 1]? = some (cO ⟨[], 0⟩) := I.out.res
            have HNE : Hid (∀ p ∈ [(w.heap.size, cO cc)], p.1 ≠ w.heap.size + 1) := Lib.hid (fun p hp => by simp at hp; rw [hp]; simp)
            clear I cE
            refine wp_region_held_drew (S := SQ [(w.heap.size, cO cc)] w) (by kernel_rfl) S_X0 (fun hHeld => ?_)
            generalize World.drew wr = X0 at *
            clear hHeld
            refine wpAnyH_take (i := 0) (oi := ⟨some 41, _, _, _, _, _⟩) (v := .agg #[.string (ba cc.b), .int .i64 cc.e]) rfl (by kernel_rfl) (by kernel_rfl) (by kernel_rfl) (fun _ _ _ h => h) (Or.inl ⟨by rfl, by intro wx hx; exact Tk.YC hx.a0⟩) (by assumption) ?_
            try simp only [Act.put, List.setIfInBounds_toArray, List.set_cons_zero, List.set_cons_succ]
            refine wpAnyH_take (i := 1) (oi := ⟨some 2, _, _, _, _, _⟩) (v := .slice none 0 0) rfl (by kernel_rfl) (by kernel_rfl) (by kernel_rfl) (fun _ _ _ h => h) (Or.inl ⟨by rfl, by intro wx _; go_simp⟩) (by assumption) ?_
            try simp only [Act.put, List.setIfInBounds_toArray, List.set_cons_zero, List.set_cons_succ]
            refine wpAnyH_ready (rs := [2]) (by kernel_rfl) (by simp) ?_
            refine AllReadyH.cons rfl (fun K hK => ?_) AllReadyH.nil
            · refine step_store rfl 45 _ _ rfl _ rfl (.agg #[.string (ba cc.b), .int .i64 cc.e]) rfl _ (run_storeAt_row (cells := #[.string (ba cc.b), .int .i64 cc.e]) K_X0 (Tk.IC2 _ _) rfl (Tk.oneC _ _)) ?_
              generalize hW1 : World.setRow X0 _ _ = V1
              have S_V1 := hW1 ▸ S_X0.row (by omega) HNE.out
              have K_V1 := hW1 ▸ setRow_heap _ _ _ _ _ _ K_X0
              try dsimp only
              refine hK.out (Act.put _ none _) _ S_V1 (fun _ => ?_)
              try simp only [Act.put, List.setIfInBounds_toArray, List.set_cons_zero, List.set_cons_succ]
              clear hK K
              refine wpAnyH_done (by kernel_rfl) ?_ _
              go_wp2_with fail
              exact bodyPost_ret (results_tmp_cell 2 3 45 ⟨w.heap.size + 1, 0, none⟩ _ rfl rfl (Tk.lvC K_V1)) rfl ⟨_, [], by rw [HZ.out]; rfl, RW.nil _ _, by rw [HZ.out]; rfl, by decide, S_V1.2⟩
        · have t2' : decide ((k : Int) < (n2 : Int)) = true := decide_eq_true (by have := of_decide_eq_true t2; omega)
          have cE := cE.out
          have he : cc.e ≠ 0 := fun e => by rw [e] at t3; cases t3
          have HZ := Lib.hid (HZ.out.trans (if_pos he))
          have t4 : (cc.e != 0) = true := by simpa using he
          clear he
          go_wp2_with fail
          have S_X0 : SQ [(w.heap.size, cO cc)] w wr.drew := ⟨KQ.cons I.out.cu (KQ.nil _), I.out.bel.drew⟩
          have K_X0 : wr.drew.heap[w.heap.size + 1]? = some (cO ⟨[], 0⟩) := I.out.res
          have HNE : Hid (∀ p ∈ [(w.heap.size, cO cc)], p.1 ≠ w.heap.size + 1) := Lib.hid (fun p hp => by simp at hp; rw [hp]; simp)
          clear I cE
          refine wp_region_held_drew (S := SQ [(w.heap.size, cO cc)] w) (by kernel_rfl) S_X0 (fun hHeld => ?_)
          generalize World.drew wr = X0 at *
          clear hHeld
          refine wpAnyH_take (i := 0) (oi := ⟨some 41, _, _, _, _, _⟩) (v := .agg #[.string (ba cc.b), .int .i64 cc.e]) rfl (by kernel_rfl) (by kernel_rfl) (by kernel_rfl) (fun _ _ _ h => h) (Or.inl ⟨by rfl, by intro wx hx; exact Tk.YC hx.a0⟩) (by assumption) ?_
          try simp only [Act.put, List.setIfInBounds_toArray, List.set_cons_zero, List.set_cons_succ]
          refine wpAnyH_take (i := 1) (oi := ⟨some 2, _, _, _, _, _⟩) (v := .slice none 0 0) rfl (by kernel_rfl) (by kernel_rfl) (by kernel_rfl) (fun _ _ _ h => h) (Or.inl ⟨by rfl, by intro wx _; go_simp⟩) (by assumption) ?_
          try simp only [Act.put, List.setIfInBounds_toArray, List.set_cons_zero, List.set_cons_succ]
          refine wpAnyH_ready (rs := [2]) (by kernel_rfl) (by simp) ?_
          refine AllReadyH.cons rfl (fun K hK => ?_) AllReadyH.nil
          · refine step_store rfl 45 _ _ rfl _ rfl (.agg #[.string (ba cc.b), .int .i64 cc.e]) rfl _ (run_storeAt_row (cells := #[.string (ba cc.b), .int .i64 cc.e]) K_X0 (Tk.IC2 _ _) rfl (Tk.oneC _ _)) ?_
            generalize hW1 : World.setRow X0 _ _ = V1
            have S_V1 := hW1 ▸ S_X0.row (by omega) HNE.out
            have K_V1 := hW1 ▸ setRow_heap _ _ _ _ _ _ K_X0
            try dsimp only
            refine hK.out (Act.put _ none _) _ S_V1 (fun _ => ?_)
            try simp only [Act.put, List.setIfInBounds_toArray, List.set_cons_zero, List.set_cons_succ]
            clear hK K
            refine wpAnyH_done (by kernel_rfl) ?_ _
            go_wp2_with fail
            exact bodyPost_ret (results_tmp_cell 2 3 45 ⟨w.heap.size + 1, 0, none⟩ _ rfl rfl (Tk.lvC K_V1)) rfl ⟨_, [], by rw [HZ.out]; rfl, RW.nil _ _, by rw [HZ.out]; rfl, by decide, S_V1.2⟩
end Go.Proofs.Ytcaocnlchfbeaaa.Pf
