/- The walk of proof.Get. -/
import Derived.Test.YtcaocnlchfbeaaaSs
import Derived.Deep.AppendLies
namespace Go.Proofs.Ytcaocnlchfbeaaa.Pf
open Go.RowKit Go.Proofs.Ytcaocnlchfbeaaa.Mk Go.Proofs.Ytcaocnlchfbeaaa.Op Go.Proofs.Ytcaocnlchfbeaaa.Hd Go.Proofs.Ytcaocnlchfbeaaa.St Go.Proofs.Ytcaocnlchfbeaaa.Cur Go.Proofs.Ytcaocnlchfbeaaa.Stp Go.Proofs.Ytcaocnlchfbeaaa.Tk
theorem own_lo2 {w : World} {B : Nat} {e : TypeId} {sz : Nat} {v : Value} {n g : Nat} {xs : List Value} (h : w.ownsRow B e sz v n xs) (hg : g < B) : ¬ v.ownBlock = some g := by
  rcases h.2 with ⟨rfl, _⟩ | ⟨k, cap, cur, rfl, hk, _⟩
  · simp [Value.ownBlock]
  · simp only [Value.ownBlock, Option.some.injEq]; omega
theorem cu_ne {w : World} {B b : Nat} {c : C} {sz : Nat} {v : Value} {n : Nat} {xs : List Value} (hc : CU b c w) (h : w.ownsRow B 43 sz v n xs) : some b ≠ v.ownBlock := by
  rcases h.2 with ⟨rfl, _⟩ | ⟨k, cap, cur, rfl, _, hk, _⟩
  · simp [Value.ownBlock]
  · intro e
    obtain rfl : b = k := by simpa [Value.ownBlock] using e
    have h2 : w.heap[b]? = _ := hc
    rw [h2] at hk
    simp at hk
/-- what holds at a round's head -/
structure PI (b : Nat) (w : World) (c : C) (v : Value) (ts : List Tr) (wr : World) : Prop where
  cu : CU b c wr
  rw_ : RW w.heap.size wr v ts
  but : CW b w wr
theorem PI.keep {b : Nat} {w wr w' : World} {c : C} {v : Value} {ts : List Tr} (h : PI b w c v ts wr) (hb : Below wr.heap.size wr w') : PI b w c v ts w' :=
  ⟨h.cu.keep hb, h.rw_.below hb, h.but.trans (But.of_below (S := fun _ => False) hb) (fun _ _ e => e.elim)⟩
set_option maxHeartbeats 8000000 in
set_option maxRecDepth 100000 in
theorem get_calls (b : Nat) (c : C) (w : World) (h : CU b c w) (hl : c.b.length ≤ 9223372036854775807) :
    Calls Try.prog 36 #[.pointer (some ⟨b, 0, none⟩)] w fun r w' => ∃ v ts, r = .returned v ∧ RW w.heap.size w' v ts ∧ ts.map Tr.ho = (getP c).1 ∧ ts.length ≤ 1024 ∧ CU b (getP c).2 w' ∧ CW b w w' := by
  have hbl := h.lt
  have HN := Lib.hid (num_calls b c top w h hl)
  have hhd : headC c = ((numC c top).1, if 1024 < (numC c top).1 then failC (numC c top).2 4 else (numC c top).2) := rfl
  have hgp : getP c = if (stepsC (headC c).1 (headC c).2 []).2.e ≠ 0 then ([], (stepsC (headC c).1 (headC c).2 []).2) else stepsC (headC c).1 (headC c).2 [] := rfl
  have hmany := @head_many c
  have hhl := head_len c
  have hnm := num_le c top
  generalize getP c = z at *
  generalize headC c = y at *
  generalize numC c top = x at *
  obtain ⟨n, d⟩ := x
  obtain ⟨n2, d2⟩ := y
  simp only [Prod.mk.injEq] at hhd
  obtain ⟨rfl, hd2⟩ := hhd
  simp only at hgp hmany hhl hnm HN
  have HT : Hid (((top : Nat) : Int) = 18446744073709551615) := Lib.hid rfl
  rw [HT.out] at HN
  have HG := Lib.hid hgp
  have HM := Lib.hid hmany
  have hn64 : n2 < 18446744073709551616 := by unfold top at hnm; omega
  clear hgp hmany hnm h
  go_enter Try.func36, Try.ntmps36
  go_wp2_with fail
  refine HN.out.mono ?_
  rintro r w1 ⟨rfl, hu1, hw1⟩
  have U1 := Lib.hid hu1
  have W1 := Lib.hid hw1
  clear hu1 hw1 HN
  by_cases hm : 1024 < n2
  · have hd : d2 = failC d 4 := hd2.trans (if_pos hm)
    have hne := HM.out hm
    have HZ := Lib.hid (show z = ([], d2) from by
      have := HG.out
      rw [steps_stop (.inr hne)] at this
      rw [this]
      simp only []
      rw [if_pos hne])
    have t1 : decide ((1024 : Int) < (n2 : Int)) = true := decide_eq_true (by omega)
    have t1' : decide (1024 < n2) = true := decide_eq_true hm
    have t2 : (0 : Int) < (n2 : Int) := by omega
    have t2' : 0 < n2 := by omega
    have t3 : (d2.e == 0) = false := by simpa using hne
    have t4 : (d2.e != 0) = true := by simpa using hne
    have HF := Lib.hid (fail_calls b d 4 w1 U1.out)
    rw [← hd] at HF
    clear hm hd hd2 HM HG hne
    go_wp2_with fail
    refine HF.out.mono ?_
    rintro r w2 ⟨rfl, hu2, hw2⟩
    have U2 := Lib.hid hu2
    have W2 := Lib.hid (W1.out.trans hw2 (fun _ _ e => e))
    clear hu2 hw2 HF
    go_wp2_with fail
    go_loopw [3, 4] (fun s3 s4 wr => s3 = .int .u64 (n2 : Int) ∧ s4 = .slice none 0 0 ∧ wr = w2) (fun _ _ _ => 0)
    case atStart => exact ⟨rfl, rfl, rfl⟩
    case round =>
      obtain ⟨rfl, rfl, rfl⟩ := hrel
      go_wp2_with fail
      refine (err_calls b d2 _ U2.out).mono ?_
      rintro r w5 ⟨rfl, rfl⟩
      go_wp2_with fail
      refine (err_calls b d2 _ U2.out).mono ?_
      rintro r w5 ⟨rfl, rfl⟩
      go_wp2_with fail
      go_ret
      exact ⟨_, [], rfl, RW.nil _ _, by rw [HZ.out]; rfl, by decide, by rw [HZ.out]; exact U2.out, W2.out⟩
  · obtain rfl : d2 = d := hd2.trans (if_neg hm)
    have hm2 : n2 ≤ 1024 := by omega
    have t1 : decide ((1024 : Int) < (n2 : Int)) = false := decide_eq_false (by omega)
    have t1' : decide (1024 < n2) = false := decide_eq_false hm
    clear hm hd2 HM
    go_wp2_with fail
    go_loopw [3, 4] (fun s3 s4 wr => ∃ (k : Nat) (cc : C) (ts : List Tr) (v : Value), s3 = .int .u64 (k : Int) ∧ v = s4 ∧ k + ts.length ≤ n2 ∧ cc.b.length ≤ 9223372036854775807 ∧ Hid (stepsC n2 d2 [] = stepsC k cc (ts.map Tr.ho)) ∧ Hid (PI b w cc v ts wr)) (fun s3 _ _ => (intOf s3).toNat)
    case atStart => exact ⟨n2, d2, [], _, rfl, rfl, by simp, by omega, Lib.hid rfl, Lib.hid ⟨U1.out, RW.nil _ _, W1.out⟩⟩
    case round =>
      obtain ⟨k, cc, ts, v, rfl, rfl, hk, hcl, HL, I⟩ := hrel
      have HE := Lib.hid (fun w' (h : CU b cc w') => err_calls b cc w' h)
      by_cases hgo : k ≠ 0 ∧ cc.e = 0
      · obtain ⟨k', rfl⟩ : ∃ k', k = k' + 1 := ⟨k - 1, by omega⟩
        have he0 := hgo.2
        have HL2 := Lib.hid (HL.out.trans (steps_go he0))
        have hsl := stepC_len cc
        have HT2 := Lib.hid (fun w' (h : CU b cc w') => takeStep_calls b cc w' h hcl)
        have hkk := stepC_ok cc
        generalize stepC cc = x at *
        obtain ⟨⟨hd, o⟩, c2⟩ := x
        simp only at HL2 hsl HT2 hkk
        have KD := Lib.hid hkk
        clear HL hgo hkk
        rw [he0] at HE
        have t2 : (0 : Int) < ((k' + 1 : Nat) : Int) := by omega
        clear he0
        go_wp2_with fail
        refine (HE.out _ I.out.cu).mono ?_
        rintro r w5 ⟨rfl, rfl⟩
        go_wp2_with fail
        refine (HT2.out _ I.out.cu).mono ?_
        rintro r w6 ⟨v6, rfl, ⟨sv, rfl, hso, h32, h63⟩, hu6, hw6⟩
        obtain ⟨A6, c6, rfl⟩ := own_slice hso
        have hbw : w.heap.size ≤ w5.heap.size := I.out.but.size
        have I6 := Lib.hid (show PI b w c2 v ts w6 from ⟨hu6, I.out.rw_.but hw6 (fun i e => by omega), I.out.but.trans hw6 (fun _ _ e => e)⟩)
        have HO := Lib.hid (And.intro (own_mono hso hbw) (And.intro h32 h63))
        clear hso h32 h63 hu6 hw6 I HT2 HE
        obtain ⟨i0, hi, hz0, hz1, hz2⟩ := info_parts IStp
        have hsz : (sc hd o (.slice A6 o.p.length c6)).toArray.size = 69 := by rw [List.size_toArray, sc_len KD.out]
        have HSL := Lib.hid (sc_len KD.out o (.slice A6 o.p.length c6))
        have HON := Lib.hid (fun u (hu : u ∈ sc hd o (.slice A6 o.p.length c6)) => Array.all_eq_true_iff_forall_mem.1 (one_sc (h := hd) o A6 o.p.length c6) u (by simpa using hu))
        have hbs := I6.out.but.size
        have I7 := Lib.hid (I6.out.keep ((Below.refl _ w6).alloc (Nat.le_refl _) (.cells (sc hd o (.slice A6 o.p.length c6)).toArray 43)))
        have HO7 := Lib.hid (own_but (HO.out.1) (But.of_below (S := fun _ => False) ((Below.refl _ w6).alloc (Nat.le_refl _) (.cells (sc hd o (.slice A6 o.p.length c6)).toArray 43))) (fun _ e => e.elim))
        have HI := Lib.hid (And.intro hi (And.intro hz0 (And.intro hz1 hz2)))
        clear hi hz0 hz1 hz2
        go_wp2_with (first | (refine wpList_buildOne (by rfl) 23 43 69 (.tmp 22) (by rfl) (sc hd o (.slice A6 o.p.length c6)).toArray _ _ (by rfl) hsz IStp USs (by decide) (by decide) ?_) | (at_builtin; refine wpList_append_lies _ rfl (.tmp 20) (.tmp 23) 23 rfl w.heap.size 43 i0 _ 69 120 USs HI.out.1 HI.out.2.1 HI.out.2.2.1 HI.out.2.2.2 zStp (by decide) _ _ _ rfl I7.out.rw_.row ⟨w6.heap.size, 0, none⟩ 1 1 (sc hd o (.slice A6 o.p.length c6)) rfl HSL.out (World.news_of_block (heap_new _ _)) HON.out (by decide) (by simp only [maxLen]; omega) (by omega) (by simp; omega) _ rfl ?_))
        intro gx capx W10 own gro _ _
        have P10 := Lib.hid (show PI b w c2 (.slice (some ⟨gx, 0, none⟩) (ts.length + 1) capx) (ts ++ [⟨hd, o, .slice A6 o.p.length c6⟩]) W10 from ⟨(gro.block b (by have := I7.out.cu.lt; omega) (cu_ne I7.out.cu I7.out.rw_.row)).trans I7.out.cu, RW.app I7.out.rw_ gro own ⟨KD.out, HO7.out, HO.out.2.1, HO.out.2.2⟩, I7.out.but.grown gro (fun i hi e => absurd e (own_lo2 I7.out.rw_.row hi))⟩)
        clear own gro I6 I7 HO HO7
        go_wp2_with fail
        go_roundw
        case rel => exact ⟨k', c2, ts ++ [⟨hd, o, .slice A6 o.p.length c6⟩], _, by go_num, rfl, by simp; omega, by omega, Lib.hid (by rw [HL2.out]; simp [Tr.ho]), Lib.hid (by simpa using P10.out)⟩
        case measure => simp [intOf] <;> omega
      · have HZ := Lib.hid (show z = if cc.e ≠ 0 then ([], cc) else (ts.map Tr.ho, cc) from by
          have := HG.out
          rw [HL.out, steps_stop (by omega)] at this
          exact this)
        have hcond : k = 0 ∨ (k ≠ 0 ∧ (cc.e == 0) = false) := by
          by_cases e1 : k = 0
          · exact .inl e1
          · refine .inr ⟨e1, ?_⟩
            rw [beq_eq_false_iff_ne]
            exact fun e2 => hgo ⟨e1, e2⟩
        clear hgo HL HG
        have hend : ∀ (x : Bool), x = x := fun _ => rfl
        rcases hcond with rfl | ⟨hk0, t3⟩
        · by_cases he : cc.e = 0
          · have t4 : (cc.e != 0) = false := by rw [he]; rfl
            have HZ := Lib.hid (HZ.out.trans (if_neg (by simpa using he)))
            clear he
            go_wp2_with fail
            refine (HE.out _ I.out.cu).mono ?_
            rintro r w5 ⟨rfl, rfl⟩
            go_wp2_with fail
            go_ret
            exact ⟨_, ts, rfl, I.out.rw_, by rw [HZ.out], by omega, by rw [HZ.out]; exact I.out.cu, I.out.but⟩
          · have t4 : (cc.e != 0) = true := by simpa using he
            have HZ := Lib.hid (HZ.out.trans (if_pos he))
            clear he
            go_wp2_with fail
            refine (HE.out _ I.out.cu).mono ?_
            rintro r w5 ⟨rfl, rfl⟩
            go_wp2_with fail
            go_ret
            exact ⟨_, [], rfl, RW.nil _ _, by rw [HZ.out]; rfl, by decide, by rw [HZ.out]; exact I.out.cu, I.out.but⟩
        · have t2 : (0 : Int) < (k : Int) := by omega
          have t4 : (cc.e != 0) = true := by rw [bne, t3]; rfl
          have HZ := Lib.hid (HZ.out.trans (if_pos (by intro e; rw [e] at t3; cases t3)))
          go_wp2_with fail
          refine (HE.out _ I.out.cu).mono ?_
          rintro r w5 ⟨rfl, rfl⟩
          go_wp2_with fail
          refine (HE.out _ I.out.cu).mono ?_
          rintro r w5 ⟨rfl, rfl⟩
          go_wp2_with fail
          go_ret
          exact ⟨_, [], rfl, RW.nil _ _, by rw [HZ.out]; rfl, by decide, by rw [HZ.out]; exact I.out.cu, I.out.but⟩
end Go.Proofs.Ytcaocnlchfbeaaa.Pf
