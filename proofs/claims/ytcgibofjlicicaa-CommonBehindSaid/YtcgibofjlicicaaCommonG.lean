/- The walk of the law CommonBehind: whatever two lists of ids it is given, it answers true. -/
import Derived.Test.YtcgibofjlicicaaCommonMath
import Derived.Test.YtcgibofjlicicaaCommonD
namespace Go.Proofs.Ytcgibofjlicicaa.Common
open Go.RowKit Go.Proofs.Ytcgibofjlicicaa.Mk
set_option maxRecDepth 100000 in
set_option maxHeartbeats 4000000 in
theorem lawBehind_calls (a b : List H) (va vb : Value) (w : World) (ha : SL hc 32 w va a) (hb : SL hc 32 w vb b) :
    Calls Try.prog 4 #[va, vb] w fun e w' => e = .returned (.bool true) ∧ Below w.heap.size w w' := by
  have ha0 := ha
  have hb0 := hb
  obtain ⟨hlena, hbda, A, ca, rfl, hlca, hcma, hrda⟩ := ha
  obtain ⟨hlenb, hbdb, B, cb, rfl, hlcb, hcmb, hrdb⟩ := hb
  have Ha := Lib.hid ha0
  have Hb := Lib.hid hb0
  have Hla := Lib.hid hlena
  have Hlb := Lib.hid hlenb
  have Hra := Lib.hid hrda
  have Hrb := Lib.hid hrdb
  clear ha0 hb0 hlena hlenb hrda hrdb
  by_cases c1 : 60 < a.length
  · go_enter Try.func4, Try.ntmps4
    go_wp2_with (go_at_call 18; refine (awake_calls _).mono ?_; rintro e w1 ⟨rfl, hb1⟩)
    go_ret
    exact ⟨rfl, hb1⟩
  · by_cases c2 : 60 < b.length
    · go_enter Try.func4, Try.ntmps4
      go_wp2_with (go_at_call 18; refine (awake_calls _).mono ?_; rintro e w1 ⟨rfl, hb1⟩)
      go_ret
      exact ⟨rfl, hb1⟩
    · go_enter Try.func4, Try.ntmps4
      go_wp2_with fail
      refine (all_calls a b _ _ _ Ha.out Hb.out (by omega)).mono ?_
      rintro e w1 ⟨vq, rfl, hq, hb1⟩
      have Hq := Lib.hid hq
      obtain ⟨hlq, hbdq, Q, cq, rfl, hlcq, hcmq, hrdq⟩ := hq
      have Hrq := Lib.hid hrdq
      have Hlq := Lib.hid hlq
      have hql := all_len a b
      clear hrdq hlq
      have Hca := Lib.hid (cnt_all a b)
      have Hcz := Lib.hid (cnt_zero a b)
      have Hcy := Lib.hid (cnt_yes a b)
      have Hcn := Lib.hid (cnt_no a b)
      have Hcg := Lib.hid (cnt_get a b)
      have Hcl := Lib.hid (cnt_lt a b)
      go_wp2_with fail
      go_loopw [6, 7] (fun s6 s7 wr => ∃ (n i : Nat), i ≤ a.length ∧ n ≤ i ∧ s7 = .int .i64 i ∧ s6 = .int .i64 n ∧ Hid (cnt a b i = n) ∧ Below w.heap.size w wr ∧ Below w1.heap.size w1 wr) (fun _ i _ => a.length - (intOf i).toNat)
      case atStart => exact ⟨0, 0, Nat.zero_le _, Nat.zero_le _, rfl, rfl, Lib.hid Hcz.out, hb1, Below.refl _ _⟩
      case round =>
        obtain ⟨n, i, hi, hni, rfl, rfl, hf, hbw, hbw1⟩ := hrel
        by_cases hlt : i < a.length
        · obtain ⟨b0, o, hA, hrd2⟩ := Hra.out (by omega)
          subst hA
          have hr1 := range_below (hrd2 i a[i] (by simp)) hbw
          have hl1 : a[i].length = 32 := by rw [← hc_len]; exact Hla.out a[i] (by simp)
          have hy := Lib.hid (Hcy.out i hlt)
          have hn := Lib.hid (Hcn.out i hlt)
          have hg := Lib.hid (Hcg.out i hlt)
          have hl := Lib.hid (Hcl.out i hlt)
          clear hrd2
          have i1 := IHl hl1
          have H1 := Lib.hid hl1
          generalize a[i] = x at *
          clear hl1
          have hcall := Lib.hid (fun (wx : World) (hh : SL hc 32 wx (.slice B b.length cb) b) => stands_calls b x _ wx hh H1.out)
          cases hst : standsB b x
          all_goals
            have Hst := Lib.hid hst
            rw [hst] at hcall
            clear hst
            go_wp2_with (first | (refine wpList_load_mid rfl 30 _ rfl b0 (o + i * 32) rfl (hc x) _ (by assumption) UH rfl (by assumption) ?_) | (go_at_call 22; refine (hcall.out _ (Hb.out.below hbw)).mono ?_; rintro e w2 ⟨rfl, hb2⟩))
          · go_roundw
            case rel => exact ⟨n, i + 1, by omega, by omega, by go_num, rfl, Lib.hid ((hn.out Hst.out).trans hf.out), below_up hbw hb2, below_up hbw1 hb2⟩
            case measure => simp [intOf] <;> omega
          · have hbw2 := below_up hbw hb2
            have hb12 := below_up hbw1 hb2
            have hnl : n < (allL a b).length := by have := hl.out Hst.out; rw [hf.out] at this; exact this
            obtain ⟨bq, oq, hQ, hrq2⟩ := Hrq.out (by omega)
            subst hQ
            have hrx : (allL a b)[n]? = some x := by rw [← hf.out]; exact hg.out Hst.out
            have hr3 := range_below (hrq2 n x hrx) hb12
            have hr4 := range_below hr1 hb2
            clear hrx hrq2
            have e1 := neH H1.out H1.out
            rw [beq_self_eq_true] at e1
            have L1 : ∀ wx, Below w2.heap.size w2 wx → (Instr.loadAt 30 (.pointer (some ⟨bq, oq + n * 32, none⟩))).run Try.prog wx = .ok (.agg (hc x).toArray) wx := fun wx hbx =>
              run_loadAt_mid wx bq _ 30 (hc x) _ (range_below hr3 hbx) UH rfl (IHl H1.out)
            have L2 : ∀ wx, Below w2.heap.size w2 wx → (Instr.loadAt 30 (.pointer (some ⟨b0, o + i * 32, none⟩))).run Try.prog wx = .ok (.agg (hc x).toArray) wx := fun wx hbx =>
              run_loadAt_mid wx b0 _ 30 (hc x) _ (range_below hr4 hbx) UH rfl (IHl H1.out)
            clear hr3 hr4 hr1 i1
            have hgd : decide ((allL a b).length ≤ n) = false := by simpa using hnl
            have hgd2 : decide (((allL a b).length : Int) ≤ (n : Int)) = false := by simpa using hnl
            refine wp_region_quiet_below (by kernel_rfl) (by kernel_rfl) ?_
            repeat (first | (refine wpQuiet_load rfl 30 _ rfl _ rfl _ (rg_fact L1) ?_) | (refine wpQuiet_load rfl 30 _ rfl _ rfl _ (rg_fact L2) ?_) | go_big_quiet_step (fail) | quiet_step (fail))
            refine wpQuiet_nil ?_
            rintro _ ⟨rp, rfl⟩
            have hb3 := below_regrown w2 rp.d rp.os
            generalize Sort.grow (redrawn w2 rp.d) rp.os = w3 at *
            clear L1 L2 hgd hgd2
            go_wp2_with fail
            go_roundw
            case rel => exact ⟨n + 1, i + 1, by omega, by omega, by go_num, by go_num, Lib.hid (by rw [hy.out Hst.out, hf.out]), below_up hbw2 hb3, below_up hb12 hb3⟩
            case measure => simp [intOf] <;> omega
        · obtain rfl : i = a.length := by omega
          have hnq : n = (allL a b).length := by rw [← hf.out]; exact Hca.out
          have Hn := Lib.hid hnq
          have hnq1 : n ≤ (allL a b).length := by omega
          have hnq2 : (allL a b).length ≤ n := by omega
          clear hnq
          go_wp2_with fail
          refine (last_calls a b _ _ _ (Ha.out.below hbw) (Hb.out.below hbw)).mono ?_
          rintro e w2 ⟨rfl, hb2⟩
          have hbw2 := below_up hbw hb2
          have hb12 := below_up hbw1 hb2
          obtain ⟨I, K, hIK, hI1, hI2, hK1, hK2, hI3, hK3, hbeh, hbeh2⟩ := last_facts a b
          rw [lastP_of a b hIK]
          have t1 : ((n : Int) != ((allL a b).length : Int)) = false := by simp; omega
          have Hbeh := Lib.hid hbeh
          have Hbeh2 := Lib.hid hbeh2
          have HK3 := Lib.hid hK3
          clear hbeh hbeh2 hK3 hIK
          have key : ∀ q : Bool, ((n : Int) == 0) = q → decide (I < 0) = q → decide (K < 0) = q → True := fun _ _ _ _ => trivial
          have t2 : ((n : Int) == 0) = decide (I < 0) := by rw [Bool.eq_iff_iff]; simp; omega
          have t3 : decide (K < 0) = decide (I < 0) := by have := HK3.out; rw [Bool.eq_iff_iff]; simp; omega
          clear hI3 key
          generalize hg : decide (I < 0) = q at t2 t3
          have hg2 : (q != q) = false := by simp
          go_wp2_with fail
          clear t1 t2 t3 hg hg2 hf hni hnq1 hnq2 hlt
          go_loopw [10] (fun s10 wr2 => ∃ j : Nat, I < j ∧ j ≤ a.length ∧ s10 = .int .i64 j ∧ Below w2.heap.size w2 wr2) (fun j _ => a.length - (intOf j).toNat)
          case atStart => exact ⟨(I + 1).toNat, by omega, by omega, by congr 1; omega, Below.refl _ _⟩
          case round =>
            obtain ⟨j, hj1, hj2, rfl, hb3⟩ := hrel
            have hbw3 := below_up hbw2 hb3
            by_cases hlt : j < a.length
            · obtain ⟨b0, o, hA, hrd2⟩ := Hra.out (by omega)
              subst hA
              have hr1 := range_below (hrd2 j a[j] (by simp)) hbw3
              have hl1 : a[j].length = 32 := by rw [← hc_len]; exact Hla.out a[j] (by simp)
              have hst : standsB b a[j] = false := (stands_not b a[j]).2 (Hbeh.out j a[j] hj1 (by simp))
              clear hrd2
              have i1 := IHl hl1
              have H1 := Lib.hid hl1
              generalize a[j] = x at *
              clear hl1
              have hcall := Lib.hid (fun (wx : World) (hh : SL hc 32 wx (.slice B b.length cb) b) => stands_calls b x _ wx hh H1.out)
              rw [hst] at hcall
              clear hst
              go_wp2_with (first | (refine wpList_load_mid rfl 30 _ rfl b0 (o + j * 32) rfl (hc x) _ (by assumption) UH rfl (by assumption) ?_) | (go_at_call 22; refine (hcall.out _ (Hb.out.below hbw3)).mono ?_; rintro e w4 ⟨rfl, hb4⟩))
              go_roundw
              case rel => exact ⟨j + 1, by omega, by omega, by go_num, below_up hb3 hb4⟩
              case measure => simp [intOf] <;> omega
            · have hb13 := below_up hb12 hb3
              go_wp2_with fail
              refine (once_calls a _ _ (Ha.out.below hbw3)).mono ?_
              rintro e w4 ⟨rfl, hb4⟩
              have hbw4 := below_up hbw3 hb4
              have hb14 := below_up hb13 hb4
              cases hoa : onceN a a.length
              · clear hoa
                go_wp2_with fail
                refine (awake_calls _).mono ?_
                rintro e w5 ⟨rfl, hb5⟩
                go_wp2_with fail
                go_ret
                exact ⟨rfl, below_up hbw4 hb5⟩
              · clear hoa
                go_wp2_with fail
                refine (once_calls b _ _ (Hb.out.below hbw4)).mono ?_
                rintro e w5 ⟨rfl, hb5⟩
                have hbw5 := below_up hbw4 hb5
                have hb15 := below_up hb14 hb5
                cases hob : onceN b b.length
                · clear hob
                  go_wp2_with fail
                  refine (awake_calls _).mono ?_
                  rintro e w6 ⟨rfl, hb6⟩
                  go_wp2_with fail
                  go_ret
                  exact ⟨rfl, below_up hbw5 hb6⟩
                · have Hob := Lib.hid hob
                  clear hob
                  go_wp2_with fail
                  refine (all_calls b a _ _ _ (Hb.out.below hbw5) (Ha.out.below hbw5) (by omega)).mono ?_
                  rintro e w6 ⟨vq2, rfl, hq2, hb6⟩
                  have hbw6 := below_up hbw5 hb6
                  have hb16 := below_up hb15 hb6
                  have Hq2 := Lib.hid hq2
                  clear hq2
                  go_wp2_with fail
                  refine (ordered_calls (allL a b) (allL b a) _ _ _ (Hq.out.below hb16) Hq2.out).mono ?_
                  rintro e w7 ⟨rfl, hb7⟩
                  have hbw7 := below_up hbw6 hb7
                  cases hor : (allL a b == allL b a)
                  · clear hor
                    go_wp2_with fail
                    refine (awake_calls _).mono ?_
                    rintro e w8 ⟨rfl, hb8⟩
                    go_wp2_with fail
                    go_ret
                    exact ⟨rfl, below_up hbw7 hb8⟩
                  · have Hor := Lib.hid hor
                    clear hor
                    go_wp2_with fail
                    clear hj1 hj2 hlt
                    go_loopw [11] (fun s11 wr2 => ∃ j : Nat, K < j ∧ j ≤ b.length ∧ s11 = .int .i64 j ∧ Below w7.heap.size w7 wr2) (fun j _ => b.length - (intOf j).toNat)
                    case atStart => exact ⟨(K + 1).toNat, by omega, by omega, by congr 1; omega, Below.refl _ _⟩
                    case round =>
                      obtain ⟨j, hj1, hj2, rfl, hb8⟩ := hrel
                      have hbw8 := below_up hbw7 hb8
                      by_cases hlt : j < b.length
                      · obtain ⟨b0, o, hB, hrd2⟩ := Hrb.out (by omega)
                        subst hB
                        have hr1 := range_below (hrd2 j b[j] (by simp)) hbw8
                        have hl1 : b[j].length = 32 := by rw [← hc_len]; exact Hlb.out b[j] (by simp)
                        have hst : standsB a b[j] = false := (stands_not a b[j]).2 (Hbeh2.out Hob.out Hor.out j b[j] hj1 (by simp))
                        clear hrd2
                        have i1 := IHl hl1
                        have H1 := Lib.hid hl1
                        generalize b[j] = x at *
                        clear hl1
                        have hcall := Lib.hid (fun (wx : World) (hh : SL hc 32 wx (.slice A a.length ca) a) => stands_calls a x _ wx hh H1.out)
                        rw [hst] at hcall
                        clear hst
                        go_wp2_with (first | (refine wpList_load_mid rfl 30 _ rfl b0 (o + j * 32) rfl (hc x) _ (by assumption) UH rfl (by assumption) ?_) | (go_at_call 22; refine (hcall.out _ (Ha.out.below hbw8)).mono ?_; rintro e w9 ⟨rfl, hb9⟩))
                        go_roundw
                        case rel => exact ⟨j + 1, by omega, by omega, by go_num, below_up hb8 hb9⟩
                        case measure => simp [intOf] <;> omega
                      · go_wp2_with fail
                        refine (awake_calls _).mono ?_
                        rintro e w9 ⟨rfl, hb9⟩
                        go_wp2_with fail
                        go_ret
                        exact ⟨rfl, below_up hbw8 hb9⟩
end Go.Proofs.Ytcgibofjlicicaa.Common
