/- The walk of the document's opening's bytes. -/
import Derived.Test.YtgdlhcopgfgmaaaSt
import Derived.Test.YtgdlhcopgfgmaaaWdR
namespace Go.Proofs.Ytgdlhcopgfgmaaa.St
open Go.RowKit Go.Proofs.Ytgdlhcopgfgmaaa.Mk Go.Proofs.Ytgdlhcopgfgmaaa.Op
open Go.Proofs.Ytgdlhcopgfgmaaa.Cur (UH UB IHl IHa)
open Go.Proofs.Ytgdlhcopgfgmaaa.Shape (depthI)
theorem flat_take (p : HL) (k : Nat) (h : k < p.length) : (p.take (k + 1)).flatten = (p.take k).flatten ++ p[k] := by
  rw [List.take_succ_eq_append_getElem h, List.flatten_append]
  simp
theorem flat_take_le (p : HL) (k : Nat) (h : ∀ x ∈ p, x.length = 32) : (p.take k).flatten.length ≤ p.length * 32 := by
  rw [flat_len _ (fun x hx => h x (List.mem_of_mem_take hx)), List.length_take]
  exact Nat.mul_le_mul_right _ (Nat.min_le_right _ _)
set_option maxHeartbeats 8000000 in
set_option maxRecDepth 100000 in
theorem ropening_calls (o : Opn) (v : Value) (w : World) (h : OV w v o) (ok : OOk o) :
    Calls Try.prog 36 #[v] w fun e w' => e = .returned (.tuple #[.string (ba (openB o).1), .int .i64 (openB o).2]) ∧ Below w.heap.size w w' := by
  obtain ⟨sv, rfl, hs⟩ := h
  have hB : Below w.heap.size w (w.alloc (.cells (oc o.i o.c sv) 64)) := (Below.refl _ _).alloc (Nat.le_refl _) _
  have Z := heap_new w (.cells (oc o.i o.c sv) 64)
  have hs0 := hs.below hB
  have HM := Lib.hid (fun wx (hx : Below (w.alloc (.cells (oc o.i o.c sv) 64)).heap.size (w.alloc (.cells (oc o.i o.c sv) 64)) wx) => rmay_calls o (.agg (oc o.i o.c sv)) wx ⟨sv, rfl, hs0.below hx⟩ ok.1 ok.2.1)
  have HZ := Lib.hid (fun wx (hx : Below (w.alloc (.cells (oc o.i o.c sv) 64)).heap.size (w.alloc (.cells (oc o.i o.c sv) 64)) wx) => three ((hx.block _ (by simp)).trans Z))
  have HB := Lib.hid hB
  have hop : openB o = if noneO o = true then (Num.putL 0, 0) else if mayI o ≠ 0 then ([], mayI o) else (Num.putL o.c.toNat ++ Num.putL o.i.toNat ++ o.p.flatten, 0) := rfl
  have hno := noneO_iff o
  have hm0 := may0 (o := o)
  have Hm0 := Lib.hid hm0
  have h32 := ok.2.2
  obtain ⟨hl32, hbd, A, cap, rfl, hlc, hcm, hex⟩ := hs0
  have Hex := Lib.hid hex
  have H32 := Lib.hid h32
  clear hs hex hl32 h32 Z hB hm0
  by_cases hq : noneO o = true
  · have Hr := Lib.hid (show openB o = (Num.putL 0, 0) from hop.trans (if_pos hq))
    obtain ⟨e1, e2, e3⟩ := hno.1 hq
    obtain ⟨i, c, p⟩ := o
    simp only at e1 e2 e3
    subst e1 e2 e3
    clear hop hno hq
    unfold oc at *
    go_enter Try.func36, Try.ntmps36
    go_wp2_with fail
    refine (Num.rput_calls 0 _ (by decide)).mono ?_
    rintro e w2 ⟨rfl, hb2⟩
    have hfin := Lib.hid (HB.out.trans (hb2.mono HB.out.size))
    clear hb2
    go_wp2_with fail
    go_ret2
    exact ⟨ret_se (by rw [Hr.out]) (by rw [Hr.out]), hfin.out⟩
  · have hq2 : openB o = if mayI o ≠ 0 then ([], mayI o) else (Num.putL o.c.toNat ++ Num.putL o.i.toNat ++ o.p.flatten, 0) := hop.trans (if_neg hq)
    have HM0 := Lib.hid (HM.out _ (Below.refl _ _))
    by_cases h1 : o.c = 0
    · have he : mayI o ≠ 0 := fun e => by have := (Hm0.out e).1; omega
      have Hr := Lib.hid (hq2.trans (if_pos he))
      have t0 : (mayI o != 0) = true := by simpa using he
      by_cases h2 : o.i = 0
      · have h3 : o.p ≠ [] := fun e => hq (hno.2 ⟨h2, h1, e⟩)
        have t3 : ((o.p.length : Int) == 0) = false := by simp; exact h3
        have t1 : (o.c == 0) = true := by simpa using h1
        have t2 : (o.i == 0) = true := by simpa using h2
        clear hop hno hq hq2 he h1 h2 h3
        generalize mayI o = e0 at *
        unfold oc at *
        go_enter Try.func36, Try.ntmps36
        go_wp2_with fail
        refine HM0.out.mono ?_
        rintro e w2 ⟨rfl, hb2⟩
        have hfin := Lib.hid (HB.out.trans (hb2.mono HB.out.size))
        clear hb2
        go_wp2_with fail
        go_ret2
        exact ⟨ret_se (by rw [Hr.out]; try rfl) (by rw [Hr.out]), hfin.out⟩
      · have t1 : (o.c == 0) = true := by simpa using h1
        have t2 : (o.i == 0) = false := by simpa using h2
        clear hop hno hq hq2 he h1 h2
        generalize mayI o = e0 at *
        unfold oc at *
        go_enter Try.func36, Try.ntmps36
        go_wp2_with fail
        refine HM0.out.mono ?_
        rintro e w2 ⟨rfl, hb2⟩
        have hfin := Lib.hid (HB.out.trans (hb2.mono HB.out.size))
        clear hb2
        go_wp2_with fail
        go_ret2
        exact ⟨ret_se (by rw [Hr.out]; try rfl) (by rw [Hr.out]), hfin.out⟩
    · have t1 : (o.c == 0) = false := by simpa using h1
      by_cases he : mayI o = 0
      · have Hr := Lib.hid (hq2.trans (if_neg (by simpa using he)))
        obtain ⟨m1, m2, m3, m4, m5⟩ := Hm0.out he
        have hd := depth_le o.c o.i m2
        rw [he] at HM0
        obtain ⟨cn, hcn⟩ := Int.eq_ofNat_of_zero_le (show 0 ≤ o.c by omega)
        obtain ⟨ip, hip⟩ := Int.eq_ofNat_of_zero_le m3
        have lc := Num.putL_len10 cn (by omega)
        have li := Num.putL_len10 ip (by omega)
        have hpl : o.p.length ≤ 63 := by omega
        have w64c : IntKind.u64.wrap o.c = o.c := by rw [IntKind.wrap_u64]; omega
        have w64i : IntKind.u64.wrap o.i = o.i := by rw [IntKind.wrap_u64]; omega
        have PC := Lib.hid (fun w => Num.rput_calls cn w (by omega))
        have PI := Lib.hid (fun w => Num.rput_calls ip w (by omega))
        rw [← hcn] at PC
        rw [← hip] at PI
        have Hcn := Lib.hid hcn
        have Hip := Lib.hid hip
        have HFT := Lib.hid (fun k => flat_take_le o.p k H32.out)
        have HFS := Lib.hid (fun k hk => flat_take o.p k hk)
        clear hop hno hq hq2 he h1 hcn hip m5 hd
        unfold oc at *
        go_enter Try.func36, Try.ntmps36
        obtain ⟨c0, c1, c2⟩ := HZ.out _ (Below.refl _ _)
        go_wp2_with fail
        generalize w.alloc (.cells #[.int .i64 o.i, .int .i64 o.c, .slice A o.p.length cap] 64) = W0 at *
        refine HM0.out.mono ?_
        rintro e w2 ⟨rfl, hb2⟩
        have B2 := Lib.hid hb2
        clear hb2 c0 c1 c2
        go_wp2_with fail
        have L1 := Lib.hid (show ∀ wx, Below w2.heap.size w2 wx → (Instr.loadAt 3 (.pointer (some ⟨w.heap.size, 1, none⟩))).run Try.prog wx = .ok (.int .i64 o.c) wx from fun wx hbx => run_load_i (HZ.out wx (below_up B2.out hbx)).2.1)
        have L0 := Lib.hid (show ∀ wx, Below w2.heap.size w2 wx → (Instr.loadAt 3 (.pointer (some ⟨w.heap.size, 0, none⟩))).run Try.prog wx = .ok (.int .i64 o.i) wx from fun wx hbx => run_load_i (HZ.out wx (below_up B2.out hbx)).1)
        have hadd : ¬ 9223372036854775807 < (ba (Num.putL cn)).size + (ba (Num.putL ip)).size := by rw [ba_size, ba_size]; omega
        refine wp_region_quiet_below (by kernel_rfl) (by kernel_rfl) ?_
        repeat (first | (refine wpQuiet_load rfl 3 _ rfl _ rfl _ (rg_fact L1.out) ?_) | (refine wpQuiet_load rfl 3 _ rfl _ rfl _ (rg_fact L0.out) ?_) | ((refine wpQuiet_call rfl _ _ ?_ _ (rg_of (fun wx _ => PC.out wx)) ?_); focus (intro wx; go_simp; done)) | ((refine wpQuiet_call rfl _ _ ?_ _ (rg_of (fun wx _ => PI.out wx)) ?_); focus (intro wx; go_simp; done)) | go_big_quiet_step (fail) | quiet_step (fail))
        refine wpQuiet_nil ?_
        rintro _ ⟨rp, rfl⟩
        have hb3 := below_regrown w2 rp.d rp.os
        generalize Sort.grow (redrawn w2 rp.d) rp.os = w3 at *
        have B3 := Lib.hid (below_up B2.out hb3)
        clear hb3 hadd
        go_wp2_with fail
        rw [ba_append]
        go_loopw [5, 6] (fun s5 s6 wr => ∃ k : Nat, k ≤ o.p.length ∧ s6 = .int .i64 k ∧ s5 = .string (ba (Num.putL cn ++ Num.putL ip ++ (o.p.take k).flatten)) ∧ Below W0.heap.size W0 wr) (fun _ s6 _ => o.p.length - (intOf s6).toNat)
        case atStart => exact ⟨0, by omega, rfl, by simp, B3.out⟩
        case round =>
          obtain ⟨k, hk, rfl, rfl, hbw⟩ := hrel
          obtain ⟨c0, c1, c2⟩ := HZ.out wr hbw
          by_cases hkl : k < o.p.length
          · obtain ⟨b0, o0, rfl, hx⟩ := Hex.out (by omega)
            have hr0 := Lib.hid (range_below (hx k o.p[k] (List.getElem?_eq_getElem hkl)) hbw)
            have hx32 := H32.out o.p[k] (List.getElem_mem hkl)
            have hft := HFT.out k
            have Hfs := Lib.hid (HFS.out k hkl)
            clear hx
            generalize o.p[k] = x at *
            have I32 := Lib.hid (IHl hx32)
            have RW := Lib.hid (fun w => Wd.raw03_calls x w hx32)
            have hsum : (ba (Num.putL cn ++ Num.putL ip ++ (o.p.take k).flatten)).size + (ba x).size ≤ 9223372036854775807 := by rw [ba_size, ba_size]; simp only [List.length_append]; omega
            have Hnew := Lib.hid (show ba (Num.putL cn ++ Num.putL ip ++ (o.p.take k).flatten) ++ ba x = ba (Num.putL cn ++ Num.putL ip ++ (o.p.take (k + 1)).flatten) by rw [Hfs.out, ba_append]; simp)
            have i1 : ¬ (k : Int) < 0 := by omega
            clear hx32 hft
            generalize ba (Num.putL cn ++ Num.putL ip ++ (o.p.take k).flatten) = S at *
            generalize ba x = X at *
            go_wp2_with (refine wpList_load_mid rfl 24 _ rfl b0 (o0 + k * 32) rfl (hc x) _ hr0.out UH rfl I32.out ?_)
            refine (RW.out _).mono ?_
            rintro e w4 ⟨rfl, hb4⟩
            have B4 := Lib.hid (below_up hbw hb4)
            clear hb4 c0 c1 c2
            go_wp2_with fail
            go_roundw
            case rel => exact ⟨k + 1, by omega, by go_num, by rw [Hnew.out], B4.out⟩
            case measure => simp [intOf] <;> omega
          · obtain rfl : k = o.p.length := by omega
            go_wp2_with fail
            go_ret2
            exact ⟨ret_se (by rw [Hr.out, Hcn.out, Hip.out, List.take_length]; simp) (by rw [Hr.out]), HB.out.trans (hbw.mono HB.out.size)⟩
      · have Hr := Lib.hid (hq2.trans (if_pos he))
        have t0 : (mayI o != 0) = true := by simpa using he
        clear hop hno hq hq2 he h1
        generalize mayI o = e0 at *
        unfold oc at *
        go_enter Try.func36, Try.ntmps36
        go_wp2_with fail
        refine HM0.out.mono ?_
        rintro e w2 ⟨rfl, hb2⟩
        have hfin := Lib.hid (HB.out.trans (hb2.mono HB.out.size))
        clear hb2
        go_wp2_with fail
        go_ret2
        exact ⟨ret_se (by rw [Hr.out]; try rfl) (by rw [Hr.out]), hfin.out⟩
end Go.Proofs.Ytgdlhcopgfgmaaa.St
