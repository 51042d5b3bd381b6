/- The walk of chapter 29's law StepBack. -/
import Derived.Test.YtcaocnlchfbeaaaTsL
import Derived.Test.YtcaocnlchfbeaaaTbMath
namespace Go.Proofs.Ytcaocnlchfbeaaa.Tk
open Go.RowKit Go.Proofs.Ytcaocnlchfbeaaa.Mk Go.Proofs.Ytcaocnlchfbeaaa.Op Go.Proofs.Ytcaocnlchfbeaaa.Hd Go.Proofs.Ytcaocnlchfbeaaa.St Go.Proofs.Ytcaocnlchfbeaaa.Cur Go.Proofs.Ytcaocnlchfbeaaa.Stp
theorem stepB_size (h : Hd) (o : Opn) (kh : h.Ok) (ok : OOk o) : (stepB h o).1.length ≤ 2176 := by
  have h1 := openB_len o ok
  have h2 := h.b_len kh
  unfold stepB
  split
  · simp
  · simp only [List.length_append]; omega
theorem build_St0 {o : Oper} {a : Act} {w : World} (ho : o.op = .build 43 #[]) : (execOp a.eval o).run Try.prog w = .ok (.value (.agg (sc hd0 op0 (.slice none 0 0)).toArray)) w := by
  unfold execOp
  simp only [ho]
  kernel_rfl
theorem sv00 (w : World) : SV w (.agg (sc hd0 op0 (.slice none 0 0)).toArray) hd0 op0 := ⟨_, rfl, SL.nil _ _ _⟩
theorem pre_extract (s : ByteArray) (l m : List UInt8) (h : bs s = l ++ m) : s.extract 0 l.length = ba l := by
  apply ByteArray.ext
  apply Array.ext'
  have : s.data.toList = l ++ m := h
  simp [ba, this]
set_option maxHeartbeats 20000000 in
set_option maxRecDepth 100000 in
theorem lawBack_calls (h : Hd) (o : Opn) (v : Value) (t b : ByteArray) (w : World) (hv : SV w v h o) (kh : h.Ok) (ok : OOk o) (ht : t.size ≤ 140737488351232) (hbs : b.size ≤ 140737488351232) :
    Calls Try.prog 5 #[v, .string t, .string b] w fun e w' => e = .returned (.bool true) ∧ Below w.heap.size w w' := by
  obtain ⟨sv, rfl, hsv⟩ := hv
  have hB : Below w.heap.size w (w.alloc (sB h o sv)) := (Below.refl _ _).alloc (Nat.le_refl _) _
  have Z0 : SK w.heap.size h o sv (w.alloc (sB h o sv)) := heap_new w _
  have hsv2 := hsv.below hB
  have hsv3 := hsv2
  obtain ⟨_, _, A, ca, rfl, _⟩ := hsv3
  have HB := Lib.hid hB
  have hsz0 : w.heap.size < (w.alloc (sB h o (.slice A o.p.length ca))).heap.size := by simp
  clear hsv hB
  generalize hW : w.alloc (sB h o (.slice A o.p.length ca)) = W0 at *
  have P1 := Lib.hid (fun wx (hx : Below W0.heap.size W0 wx) => step_calls h o _ wx ⟨_, rfl, hsv2.below hx⟩ kh ok)
  have P2 := Lib.hid (fun wx v (hx : Below W0.heap.size W0 wx) (hv : SV wx v h o) => ssame_calls h h o o _ _ wx hv ⟨_, rfl, hsv2.below hx⟩ kh kh)
  rw [sameS_self] at P2
  have L1 := Lib.hid (Z0.load kh)
  have LA := Lib.hid (Z0.path kh)
  have Z := Lib.hid Z0
  have KH := Lib.hid kh
  have hpl := stepB_size h o kh ok
  have hput := fun l (e : stepB h o = (l, 0)) => step_put (bs t) e kh ok
  clear hsv2 Z0 kh ok
  unfold sB at hW
  subst hW
  by_cases h1 : 100 < o.p.length
  · generalize o.p.length = na at *
    generalize (sc h o (.slice A na ca)).toArray = CA at *
    go_enter Try.func5, Try.ntmps5
    go_wp2_with (refine wpList_loadg (by rfl) 39 (.tmp 15) (by rfl) _ (by rfl) _ LA.out ?_)
    refine (Stp.awake_calls _).mono ?_
    rintro r w1 ⟨rfl, hb1⟩
    have hfin := Lib.hid (HB.out.trans (hb1.mono HB.out.size))
    clear hb1
    go_wp2_with fail
    go_ret
    exact ⟨rfl, hfin.out⟩
  · have d1 : decide ((100 : Int) < (o.p.length : Int)) = false := by simp; omega
    generalize stepB h o = x at *
    obtain ⟨l, e⟩ := x
    simp only at P1 hpl hput
    have Hput := Lib.hid hput
    have Hpl := Lib.hid hpl
    clear h1 hput hpl
    go_enter Try.func5, Try.ntmps5
    go_wp2_with (first | (refine wpList_loadg (by rfl) 39 (.tmp 15) (by rfl) _ (by rfl) _ LA.out ?_) | (refine wpList_loadg (by rfl) 43 (.tmp 3) (by rfl) _ (by rfl) _ L1.out ?_))
    generalize w.alloc (.cells (sc h o (.slice A o.p.length ca)).toArray 43) = W0 at *
    refine (P1.out _ (Below.refl _ _)).mono ?_
    rintro r w1 ⟨rfl, hb1⟩
    have B1 := Lib.hid hb1
    clear hb1
    go_upto_if 26 with fail
    go_cut [] (fun wx => Hid (Below w.heap.size w wx))
    case first =>
      by_cases he : e = 0
      · subst he
        have hst := Hput.out l rfl
        have z1 : (ba l).size ≤ 2176 := Hpl.out
        go_wp2_with fail
        refine (read_calls _ _).mono ?_
        rintro r w2 ⟨rfl, hu2, hb2⟩
        rw [bs_append, bs_ba] at hu2
        have HS := Lib.hid (fun W (hW : CU w1.heap.size ⟨l ++ bs t, 0⟩ W) => takeStep_calls w1.heap.size ⟨l ++ bs t, 0⟩ W hW (by have := Hpl.out; rw [List.length_append, bs_len]; omega))
        rw [hst] at HS
        simp only at HS
        have hle : W0.heap.size ≤ w1.heap.size := B1.out.size
        have S_X0 : SQ [(w.heap.size, sB h o (.slice A o.p.length ca))] W0 w2.drew := ⟨KQ.cons ((hb2.block _ (Nat.lt_of_lt_of_le hsz0 hle)).trans ((B1.out.block _ hsz0).trans Z.out)) (KQ.nil _), (below_up B1.out hb2).drew⟩
        have C_X0 : CU w1.heap.size ⟨l ++ bs t, 0⟩ w2.drew := hu2
        have HN : Hid (∀ x ∈ [(w.heap.size, sB h o (.slice A o.p.length ca))], x.1 ≠ w1.heap.size) := Lib.hid (fun x hx => by simp at hx; rw [hx]; simp; omega)
        clear hu2 hb2 hst z1 L1 LA P1 Z hsz0
        generalize w1.heap.size = b1 at *
        clear B1
        go_wp2_with fail
        refine wp_region_held_drew (S := SQ [(w.heap.size, sB h o (.slice A o.p.length ca))] W0) (by kernel_rfl) S_X0 (fun hHeld => ?_)
        generalize World.drew w2 = X0 at *
        clear hHeld
        refine wpAnyH_take (i := 0) (oi := ⟨some 31, _, _, _, _, _⟩) (v := .pointer (some ⟨b1, 0, none⟩)) rfl (by kernel_rfl) (by kernel_rfl) (by kernel_rfl) (fun _ _ _ h => h) (Or.inl ⟨by kernel_rfl, by intro wx _; go_simp⟩) (by assumption) ?_
        try simp only [Act.put, List.setIfInBounds_toArray, List.set_cons_zero, List.set_cons_succ]
        refine wpAnyH_take (i := 2) (oi := ⟨some 33, _, _, _, _, _⟩) (v := .agg (sc h o (.slice A o.p.length ca)).toArray) rfl (by kernel_rfl) (by kernel_rfl) (by kernel_rfl) (fun _ _ _ h => h) (Or.inl ⟨by kernel_rfl, by intro wx hx; exact YSt KH.out hx.a0⟩) (by assumption) ?_
        try simp only [Act.put, List.setIfInBounds_toArray, List.set_cons_zero, List.set_cons_succ]
        refine wpAnyH_ready (rs := [1]) (by kernel_rfl) (by simp) ?_
        refine AllReadyH.cons rfl (fun K hK => ?_) AllReadyH.nil
        · rw [if_pos (by kernel_rfl)]
          refine wp_callS _ _ (by go_simp) (HS.out _ C_X0) ?_
          rintro e V1 ⟨v1, rfl, hv1, hu1, hw1⟩
          refine ⟨_, rfl, ?_⟩
          have S_V1 := SQ.cw S_X0 hw1 hle HN.out
          have C_V1 := hu1
          try dsimp only
          refine hK.out (Act.put _ (some 32) _) _ S_V1 (fun _ => ?_)
          simp only [Act.put, List.setIfInBounds_toArray, List.set_cons_zero, List.set_cons_succ]
          clear hK K
          refine wpAnyH_ready (rs := [3]) (by kernel_rfl) (by simp) ?_
          refine AllReadyH.cons rfl (fun K hK => ?_) AllReadyH.nil
          · rw [if_pos (by kernel_rfl)]
            refine wp_callS _ _ (by go_simp) (P2.out V1 _ S_V1.2 hv1.sv) ?_
            rintro e V2 ⟨rfl, hb2⟩
            refine ⟨_, rfl, ?_⟩
            have S_V2 := S_V1.keep hb2
            have C_V2 := C_V1.keep hb2
            try dsimp only
            refine hK.out (Act.put _ (some 34) _) _ S_V2 (fun _ => ?_)
            simp only [Act.put, List.setIfInBounds_toArray, List.set_cons_zero, List.set_cons_succ]
            clear hK K
            refine wpAnyH_take (i := 4) (oi := ⟨some 35, _, _, _, _, _⟩) (v := .bool false) rfl (by kernel_rfl) (by kernel_rfl) (by kernel_rfl) (fun _ _ _ h => h) (Or.inl ⟨by kernel_rfl, by intro wx _; go_simp⟩) (by assumption) ?_
            try simp only [Act.put, List.setIfInBounds_toArray, List.set_cons_zero, List.set_cons_succ]
            refine wpAnyH_take (i := 5) (oi := ⟨some 36, _, _, _, _, _⟩) (v := .bool false) rfl (by kernel_rfl) (by kernel_rfl) (by kernel_rfl) (fun _ _ _ h => h) (Or.inl ⟨by kernel_rfl, by intro wx _; go_simp⟩) (by assumption) ?_
            try simp only [Act.put, List.setIfInBounds_toArray, List.set_cons_zero, List.set_cons_succ]
            refine wpAnyH_take (i := 6) (oi := ⟨some 37, _, _, _, _, _⟩) (v := .pointer (some ⟨b1, 0, none⟩)) rfl (by kernel_rfl) (by kernel_rfl) (by kernel_rfl) (fun _ _ _ h => h) (Or.inl ⟨by kernel_rfl, by intro wx _; go_simp⟩) (by assumption) ?_
            try simp only [Act.put, List.setIfInBounds_toArray, List.set_cons_zero, List.set_cons_succ]
            refine wpAnyH_ready (rs := [7]) (by kernel_rfl) (by simp) ?_
            refine AllReadyH.cons rfl (fun K hK => ?_) AllReadyH.nil
            · rw [if_pos (by kernel_rfl)]
              refine wp_callS _ _ (by go_simp) (err_calls _ ⟨bs t, 0⟩ V2 C_V2) ?_
              rintro e w9 ⟨rfl, hw9⟩
              refine ⟨_, rfl, ?_⟩
              rw [hw9]
              clear hw9 w9
              refine hK.out (Act.put _ (some 38) _) _ S_V2 (fun _ => ?_)
              simp only [Act.put, List.setIfInBounds_toArray, List.set_cons_zero, List.set_cons_succ]
              clear hK K
              refine wpAnyH_take (i := 8) (oi := ⟨some 39, _, _, _, _, _⟩) (v := .bool false) rfl (by kernel_rfl) (by kernel_rfl) (by kernel_rfl) (fun _ _ _ h => h) (Or.inl ⟨by kernel_rfl, by intro wx _; go_simp⟩) (by assumption) ?_
              try simp only [Act.put, List.setIfInBounds_toArray, List.set_cons_zero, List.set_cons_succ]
              refine wpAnyH_take (i := 9) (oi := ⟨some 40, _, _, _, _, _⟩) (v := .bool false) rfl (by kernel_rfl) (by kernel_rfl) (by kernel_rfl) (fun _ _ _ h => h) (Or.inl ⟨by kernel_rfl, by intro wx _; go_simp⟩) (by assumption) ?_
              try simp only [Act.put, List.setIfInBounds_toArray, List.set_cons_zero, List.set_cons_succ]
              refine wpAnyH_take (i := 10) (oi := ⟨some 41, _, _, _, _, _⟩) (v := .bool false) rfl (by kernel_rfl) (by kernel_rfl) (by kernel_rfl) (fun _ _ _ h => h) (Or.inl ⟨by kernel_rfl, by intro wx _; go_simp⟩) (by assumption) ?_
              try simp only [Act.put, List.setIfInBounds_toArray, List.set_cons_zero, List.set_cons_succ]
              refine wpAnyH_take (i := 11) (oi := ⟨some 42, _, _, _, _, _⟩) (v := .pointer (some ⟨b1, 0, none⟩)) rfl (by kernel_rfl) (by kernel_rfl) (by kernel_rfl) (fun _ _ _ h => h) (Or.inl ⟨by kernel_rfl, by intro wx _; go_simp⟩) (by assumption) ?_
              try simp only [Act.put, List.setIfInBounds_toArray, List.set_cons_zero, List.set_cons_succ]
              refine wpAnyH_take (i := 13) (oi := ⟨some 44, _, _, _, _, _⟩) (v := .string t) rfl (by kernel_rfl) (by kernel_rfl) (by kernel_rfl) (fun _ _ _ h => h) (Or.inl ⟨by kernel_rfl, by intro wx _; go_simp⟩) (by assumption) ?_
              try simp only [Act.put, List.setIfInBounds_toArray, List.set_cons_zero, List.set_cons_succ]
              refine wpAnyH_take (i := 14) (oi := ⟨some 45, _, _, _, _, _⟩) (v := .int .i64 (t.size : Int)) rfl (by kernel_rfl) (by kernel_rfl) (by kernel_rfl) (fun _ _ _ h => h) (Or.inl ⟨by kernel_rfl, by intro wx _; go_simp⟩) (by assumption) ?_
              try simp only [Act.put, List.setIfInBounds_toArray, List.set_cons_zero, List.set_cons_succ]
              refine wpAnyH_ready (rs := [12]) (by kernel_rfl) (by simp) ?_
              refine AllReadyH.cons rfl (fun K hK => ?_) AllReadyH.nil
              · rw [if_pos (by kernel_rfl)]
                refine wp_callS _ _ (by go_simp) (left_calls _ ⟨bs t, 0⟩ V2 C_V2) ?_
                rintro e w9 ⟨rfl, hw9⟩
                refine ⟨_, rfl, ?_⟩
                rw [hw9, bs_len]
                clear hw9 w9
                refine hK.out (Act.put _ (some 43) _) _ S_V2 (fun _ => ?_)
                simp only [Act.put, List.setIfInBounds_toArray, List.set_cons_zero, List.set_cons_succ]
                clear hK K
                refine wpAnyH_take (i := 15) (oi := ⟨some 46, _, _, _, _, _⟩) (v := .bool false) rfl (by kernel_rfl) (by kernel_rfl) (by kernel_rfl) (fun _ _ _ h => h) (Or.inl ⟨by kernel_rfl, by intro wx _; go_simp⟩) (by assumption) ?_
                try simp only [Act.put, List.setIfInBounds_toArray, List.set_cons_zero, List.set_cons_succ]
                refine wpAnyH_take (i := 16) (oi := ⟨some 47, _, _, _, _, _⟩) (v := .bool false) rfl (by kernel_rfl) (by kernel_rfl) (by kernel_rfl) (fun _ _ _ h => h) (Or.inl ⟨by kernel_rfl, by intro wx _; go_simp⟩) (by assumption) ?_
                try simp only [Act.put, List.setIfInBounds_toArray, List.set_cons_zero, List.set_cons_succ]
                refine wpAnyH_done (by kernel_rfl) ?_ _
                clear HN
                go_wp2_with fail
                go_meet
                exact Lib.hid (HB.out.trans (S_V2.2.mono HB.out.size))
      · have t1 : (e == 0) = false := by simpa using he
        clear he
        go_wp2_with fail
        go_meet
        exact Lib.hid (HB.out.trans (B1.out.mono HB.out.size))
    case rest =>
      clear P1 P2 L1 LA Z Hput Hpl hsz0
      rename World => wx
      have hl : (bs b).length ≤ 9223372036854775807 := by rw [bs_len]; omega
      have HK := step_ok ⟨bs b, 0⟩
      have HS := Lib.hid (fun W (hW : CU wx.heap.size ⟨bs b, 0⟩ W) => takeStep_calls wx.heap.size ⟨bs b, 0⟩ W hW hl)
      have hbd : ∀ h' o' d', stepC ⟨bs b, 0⟩ = ((h', o'), d') → d'.e ≠ 0 → h' = hd0 ∧ o' = op0 := fun _ _ _ => step_bad
      have hbk : ∀ h' o' d', stepC ⟨bs b, 0⟩ = ((h', o'), d') → d'.e = 0 → OOk o' ∧ ∃ l', stepB h' o' = (l', 0) ∧ bs b = l' ++ d'.b := fun _ _ _ => step_back
      have hsl := step_len ⟨bs b, 0⟩
      generalize stepC ⟨bs b, 0⟩ = x at *
      obtain ⟨⟨hd, q⟩, d⟩ := x
      obtain ⟨db, de⟩ := d
      simp only at HS HK hsl
      have HBD := Lib.hid (hbd _ _ _ rfl)
      have HBK := Lib.hid (hbk _ _ _ rfl)
      have KD := Lib.hid HK
      have HB2 := Lib.hid hcut.out
      clear hbd hbk hl HK hcut
      go_wp2_with fail
      refine (read_calls _ _).mono ?_
      rintro r w2 ⟨rfl, hu2, hb2⟩
      have S2 := Lib.hid (below_up HB2.out hb2)
      have U2 := Lib.hid hu2
      have hgb : w.heap.size ≤ wx.heap.size := HB2.out.size
      clear hu2 hb2
      go_wp2_with fail
      refine (HS.out _ U2.out).mono ?_
      rintro r w3 ⟨v3, rfl, ⟨sv3, rfl, hso, h32, h63⟩, hu3, hw3⟩
      obtain ⟨A3, cp, rfl⟩ := own_slice hso
      have S3 := Lib.hid (show Below w.heap.size w w3 from S2.out.trans (hw3.below S2.out.size hgb))
      have U3 := Lib.hid hu3
      have O3 := Lib.hid hso
      have H3 := Lib.hid (And.intro h32 h63)
      have hlt3 : wx.heap.size < w3.heap.size := hu3.lt
      have IS3 := Lib.hid (ISt KD.out q (.slice A3 q.p.length cp))
      have RS3 := Lib.hid (rsz hd0_ok KD.out op0 q (.slice none 0 0) (.slice A3 q.p.length cp))
      have OS3 := Lib.hid (one_sc (h := hd) q A3 q.p.length cp)
      clear hu3 hw3 hso h32 h63 HS U2 S2
      go_wp2_with (refine wpList_store_row rfl 43 _ _ rfl w3.heap.size (sc hd q (.slice A3 q.p.length cp)).toArray rfl rfl _ _ (heap_new _ _) IS3.out RS3.out OS3.out ?_)
      generalize hW4 : World.setRow _ _ _ = W4
      have Z4 := Lib.hid (show CU wx.heap.size ⟨db, de⟩ W4 ∧ Below w.heap.size w W4 ∧ W4.heap[w3.heap.size]? = some (sB hd q (.slice A3 q.p.length cp)) ∧ SV W4 (.agg (sc hd q (.slice A3 q.p.length cp)).toArray) hd q from by
        have hba : Below w3.heap.size w3 (w3.alloc (sB hd0 op0 (.slice none 0 0))) := (Below.refl _ _).alloc (Nat.le_refl _) _
        rw [← hW4]
        refine ⟨CU.row (U3.out.keep hba) (by omega) _, below_row (below_up S3.out hba) (S3.out.size), setRow_heap _ _ _ _ _ _ (heap_new _ _), ?_⟩
        exact (SVn.sv ⟨_, rfl, own_bel O3.out (below_row hba (Nat.le_refl _)), H3.out.1, H3.out.2⟩))
      obtain ⟨g, hg⟩ : ∃ g, g = w3.heap.size := ⟨_, rfl⟩
      rw [← hg] at Z4 ⊢
      clear hW4 hg S3 U3 O3 H3 IS3 RS3 OS3 hlt3
      go_wp2_with fail
      refine (err_calls _ ⟨db, de⟩ _ Z4.out.1).mono ?_
      rintro r w5 ⟨rfl, rfl⟩
      by_cases he : de = 0
      · obtain ⟨ok2, l2, hst, hbb⟩ := HBK.out he
        have hbl : l2.length + db.length = b.size := by
          have := congrArg List.length hbb
          rw [bs_len, List.length_append] at this
          omega
        have hex := pre_extract b l2 db hbb
        have P3 := step_calls hd q _ w5 Z4.out.2.2.2 KD.out ok2
        rw [hst] at P3
        have P3 := Lib.hid P3
        have LS := Lib.hid (ldSt KD.out Z4.out.2.2.1)
        subst he
        have hq : (b.size : Int) - (db.length : Int) = (l2.length : Int) := by omega
        have hle : l2.length ≤ b.size := by omega
        have hle2 : (l2.length : Int) ≤ (b.size : Int) := by omega
        have hz : (ba l2).size = l2.length := rfl
        clear HBD HBK hst hbb ok2
        go_wp2_with (refine wpList_loadg (by rfl) 43 (.tmp 11) (by rfl) _ (by rfl) _ LS.out ?_)
        refine P3.out.mono ?_
        rintro r w6 ⟨rfl, hb6⟩
        have B6 := Lib.hid (below_up Z4.out.2.1 hb6)
        have U6 := Lib.hid (Z4.out.1.keep hb6)
        clear hb6 P3 LS Z4
        go_wp2_with fail
        refine (left_calls _ ⟨db, 0⟩ _ U6.out).mono ?_
        rintro r w7 ⟨rfl, rfl⟩
        go_wp2_with fail
        refine (Stp.awake_calls _).mono ?_
        rintro r w8 ⟨rfl, hb8⟩
        have B8 := Lib.hid (below_up B6.out hb8)
        clear hb8 U6
        go_wp2_with fail
        go_ret
        exact ⟨rfl, B8.out⟩
      · obtain ⟨rfl, rfl⟩ := HBD.out he
        have t1 : (de == 0) = false := by simpa using he
        have t2 : (de != 0) = true := by simpa using he
        have LS := Lib.hid (ldSt KD.out Z4.out.2.2.1)
        have P4 := (ssame_calls hd0 hd0 op0 op0 _ _ w5 Z4.out.2.2.2 (sv00 w5) hd0_ok hd0_ok)
        rw [sameS_self] at P4
        have P4 := Lib.hid P4
        clear he HBD HBK
        go_wp2_with (first | (refine wpList_loadg (by rfl) 43 (.tmp 11) (by rfl) _ (by rfl) _ LS.out ?_) | (refine wpList_value (by rfl) _ (build_St0 (by rfl)) ?_))
        refine P4.out.mono ?_
        rintro r w6 ⟨rfl, hb6⟩
        have B6 := Lib.hid (below_up Z4.out.2.1 hb6)
        clear hb6 P4 LS Z4
        go_wp2_with fail
        refine (Stp.awake_calls _).mono ?_
        rintro r w8 ⟨rfl, hb8⟩
        have B8 := Lib.hid (below_up B6.out hb8)
        clear hb8
        go_wp2_with fail
        go_ret
        exact ⟨rfl, B8.out⟩
end Go.Proofs.Ytcaocnlchfbeaaa.Tk
