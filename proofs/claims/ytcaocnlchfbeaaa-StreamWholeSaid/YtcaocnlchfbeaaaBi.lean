import Derived.Test.YtcaocnlchfbeaaaBh
import Derived.Test.YtcaocnlchfbeaaaBf
import Derived.Test.YtcaocnlchfbeaaaBc
import Derived.Test.YtcaocnlchfbeaaaBg
/- The walks of an opening's bytes. -/
namespace Go.Proofs.Ytcaocnlchfbeaaa.St
open Go.RowKit Go.Proofs.Ytcaocnlchfbeaaa.Mk Go.Proofs.Ytcaocnlchfbeaaa.Op Go.Proofs.Ytcaocnlchfbeaaa.Buf
open Go.Proofs.Ytcaocnlchfbeaaa.Shape (depthI)
set_option maxHeartbeats 1000000 in
set_option maxRecDepth 100000 in
theorem bhash_nil (v : Value) (A : Option Addr) (c : Nat) (w : World) :
    Calls Try.prog 100 #[v, .slice A 0 c] w fun e w' => e = .returned (.tuple #[]) ∧ w' = w := by
  go_enter Try.func100, Try.ntmps100
  go_wp2_with fail
  go_loop [8] (fun s8 => s8 = .int .i64 0) (fun _ => 0)
  case atStart => rfl
  case round =>
    obtain rfl := hrel
    go_wp2_with fail
    go_end0
    exact ⟨rfl, rfl⟩
/-- the path is put, nil or not -/
theorem bpath_calls (B : Nat) (bb : Nat) (r : Option Nat) (l : List UInt8) (sv : Value) (p : HL) (w W0 : World) (h : QB B (some bb) r l w) (hB : W0.heap.size ≤ B) (hs0 : SL hc 32 W0 sv p) (hw : Below W0.heap.size W0 w) (hlen : l.length + p.length * 32 ≤ 140737488355328) :
    Calls Try.prog 100 #[qv (some bb), sv] w fun e w' => e = .returned (.tuple #[]) ∧ ∃ r', QB B (some bb) r' (l ++ p.flatten) w' ∧ QW (some bb) r r' w w' := by
  by_cases hp : p = []
  · subst hp
    obtain ⟨_, _, A, c, rfl, _⟩ := hs0
    refine (bhash_nil (qv (some bb)) A c w).mono ?_
    rintro e w' ⟨rfl, rfl⟩
    exact ⟨rfl, r, by simpa using h, QW.refl _ _ _⟩
  · refine bhash_calls B (some bb) r l sv p w h (hs0.below hw) hlen ?_
    intro A n c hsv b o hA
    obtain ⟨hl32', _, A', c', he, _, _, hex⟩ := hs0
    rw [hsv] at he
    cases he
    obtain ⟨b2, o2, hA2, hx⟩ := hex (List.length_pos_iff.2 hp)
    rw [hA] at hA2
    cases hA2
    have hb : b < W0.heap.size := by
      obtain ⟨x, p', rfl⟩ : ∃ x p', p = x :: p' := by cases p with | nil => exact absurd rfl hp | cons x p' => exact ⟨x, p', rfl⟩
      have hx0 := hx 0 x rfl
      have hl32 : (hc x).length = 32 := hl32' x (by simp)
      obtain ⟨u, hu⟩ : ∃ u, (hc x)[0]? = some u := ⟨_, List.getElem?_eq_getElem (by omega)⟩
      exact block_lt_of_cell (hx0 0 u hu)
    have hb2 := (QB.base h).2
    refine ⟨fun e => ?_, fun e => ?_⟩
    · have := (hb2 b (.inl e.symm)).1; omega
    · have := (hb2 b (.inr e.symm)).1; omega
/-- three cells of an opening as the walk reads them -/
theorem three {w : World} {g : Nat} {i c : Int} {sv : Value} (h : w.heap[g]? = some (.cells (oc i c sv) 41 (0, 0))) :
    w.cell? ⟨g, 0, none⟩ = some (.int .i64 i) ∧ w.cell? ⟨g, 1, none⟩ = some (.int .i64 c) ∧ w.cell? ⟨g, 2, none⟩ = some sv :=
  ⟨by rw [cell_of_row _ _ _ _ _ _ h]; rfl, by rw [cell_of_row _ _ _ _ _ _ h]; rfl, by rw [cell_of_row _ _ _ _ _ _ h]; rfl⟩
theorem ret_se {a b : ByteArray} {x y : Int} (h : a = b) (k : x = y) : Ending.returned (.tuple #[.string a, .int .i64 x]) = .returned (.tuple #[.string b, .int .i64 y]) := by rw [h, k]
set_option maxHeartbeats 4000000 in
set_option maxRecDepth 100000 in
theorem opening_calls (o : Opn) (v : Value) (w : World) (h : OV w v o) (ok : OOk o) :
    Calls Try.prog 69 #[v] w fun e w' => e = .returned (.tuple #[.string (ba (openB o).1), .int .i64 (openB o).2]) ∧ Below w.heap.size w w' := by
  obtain ⟨sv, rfl, hs⟩ := h
  have hB : Below w.heap.size w (w.alloc (.cells (oc o.i o.c sv) 41)) := (Below.refl _ _).alloc (Nat.le_refl _) _
  have Z := heap_new w (.cells (oc o.i o.c sv) 41)
  have hs0 := hs.below hB
  have HN := Lib.hid (fun wx (hx : Below (w.alloc (.cells (oc o.i o.c sv) 41)).heap.size (w.alloc (.cells (oc o.i o.c sv) 41)) wx) => none_calls o (.agg (oc o.i o.c sv)) wx ⟨sv, rfl, hs0.below hx⟩)
  have HM := Lib.hid (fun wx (hx : Below (w.alloc (.cells (oc o.i o.c sv) 41)).heap.size (w.alloc (.cells (oc o.i o.c sv) 41)) wx) => may_calls o (.agg (oc o.i o.c sv)) wx ⟨sv, rfl, hs0.below hx⟩ ok.1 ok.2.1)
  have HZ := Lib.hid (fun wx (hx : Below (w.alloc (.cells (oc o.i o.c sv) 41)).heap.size (w.alloc (.cells (oc o.i o.c sv) 41)) wx) => three ((hx.block _ (by simp)).trans Z))
  have Hs0 := Lib.hid hs0
  have HB := Lib.hid hB
  have Hok := Lib.hid ok
  have hop : openB o = if noneO o = true then (Num.putL 0, 0) else if mayI o ≠ 0 then ([], mayI o) else (Num.putL o.c.toNat ++ Num.putL o.i.toNat ++ o.p.flatten, 0) := rfl
  have Hop := Lib.hid hop
  have hm0 := may0 (o := o)
  have Hm0 := Lib.hid hm0
  generalize noneO o = q at *
  generalize mayI o = e0 at *
  clear hs hs0 Z hB ok hop hm0
  unfold oc at *
  go_enter Try.func69, Try.ntmps69
  go_wp2_with fail
  generalize w.alloc (.cells #[.int .i64 o.i, .int .i64 o.c, sv] 41) = W0 at *
  refine (new_calls W0).mono ?_
  rintro e w1 ⟨rfl, hq1, hb1⟩
  generalize hvb : qv (some W0.heap.size) = vb at *
  have Hvb := Lib.hid hvb
  obtain ⟨c0, c1, c2⟩ := HZ.out w1 hb1
  have Q1 := Lib.hid hq1
  have B1 := Lib.hid hb1
  clear hvb hq1 hb1
  go_wp2_with fail
  refine (HN.out _ B1.out).mono ?_
  rintro e w2 ⟨rfl, hb2⟩
  have Q2 := Lib.hid (Q1.out.keepB hb2)
  have B2 := Lib.hid (below_up B1.out hb2)
  clear hb2 c0 c1 c2 Q1 B1
  cases q with
  | true =>
    have Hr := Lib.hid (show openB o = (Num.putL 0, 0) from Hop.out.trans (if_pos rfl))
    have DN := Lib.hid (bnum_calls W0.heap.size _ none [] 0 w2 Q2.out (by decide) (by simp))
    rw [Hvb.out] at DN
    go_wp2_with fail
    refine DN.out.mono ?_
    rintro e w3 ⟨rfl, r3, hq3, hw3⟩
    have B3 := Lib.hid (B2.out.trans (hw3.below Q2.out))
    have DB := Lib.hid (bytes_calls W0.heap.size _ r3 _ w3 hq3)
    rw [Hvb.out, if_neg (by simp)] at DB
    have Q3 := Lib.hid hq3
    clear hq3 hw3
    go_wp2_with fail
    refine DB.out.mono ?_
    rintro e w4 ⟨rfl, hq4, hw4⟩
    have B4 := Lib.hid (B3.out.trans (hw4.below Q3.out))
    clear hq4 hw4
    go_wp2_with fail
    go_ret2
    exact ⟨ret_se (by rw [Hr.out]; try rfl) (by rw [Hr.out]), HB.out.trans (B4.out.mono HB.out.size)⟩
  | false =>
    obtain ⟨c0, c1, c2⟩ := HZ.out w2 B2.out
    go_wp2_with fail
    refine (HM.out _ B2.out).mono ?_
    rintro e w3 ⟨rfl, hb3⟩
    have Q3 := Lib.hid (Q2.out.keepB hb3)
    have B3 := Lib.hid (below_up B2.out hb3)
    clear hb3 c0 c1 c2
    by_cases he : e0 = 0
    · subst he
      obtain ⟨m1, m2, m3, m4, m5⟩ := Hm0.out rfl
      have hd := depth_le o.c o.i m2
      have Hr := Lib.hid (show openB o = (Num.putL o.c.toNat ++ Num.putL o.i.toNat ++ o.p.flatten, 0) from Hop.out.trans ((if_neg (by simp)).trans (if_neg (by simp))))
      obtain ⟨cn, hcn⟩ := Int.eq_ofNat_of_zero_le (show 0 ≤ o.c by omega)
      obtain ⟨ip, hip⟩ := Int.eq_ofNat_of_zero_le m3
      have lc := Num.putL_len10 cn (by omega)
      have li := Num.putL_len10 ip (by omega)
      have DN := Lib.hid (bnum_calls W0.heap.size _ none [] cn w3 Q3.out (by omega) (by simp))
      rw [Hvb.out, ← hcn] at DN
      have hpl : o.p.length ≤ 63 := by omega
      have w64c : IntKind.u64.wrap o.c = o.c := by rw [IntKind.wrap_u64]; omega
      have w64i : IntKind.u64.wrap o.i = o.i := by rw [IntKind.wrap_u64]; omega
      have Hcn := Lib.hid hcn
      have Hip := Lib.hid hip
      obtain ⟨c0, c1, c2⟩ := HZ.out w3 B3.out
      clear hcn hip m5 hd
      go_wp2_with fail
      refine DN.out.mono ?_
      rintro e w4 ⟨rfl, r4, hq4, hw4⟩
      have B4 := Lib.hid (B3.out.trans (hw4.below Q3.out))
      have DI := Lib.hid (bnum_calls W0.heap.size _ r4 _ ip w4 hq4 (by have := Hip.out; omega) (by simp; omega))
      rw [Hvb.out, ← Hip.out] at DI
      have Q4 := Lib.hid hq4
      clear hq4 hw4 c0 c1 c2
      obtain ⟨c0, c1, c2⟩ := HZ.out w4 B4.out
      go_wp2_with fail
      refine DI.out.mono ?_
      rintro e w5 ⟨rfl, r5, hq5, hw5⟩
      have B5 := Lib.hid (B4.out.trans (hw5.below Q4.out))
      have DP := Lib.hid (bpath_calls W0.heap.size W0.heap.size r5 _ sv o.p w5 W0 hq5 (Nat.le_refl _) Hs0.out B5.out (by simp; omega))
      rw [Hvb.out] at DP
      have Q5 := Lib.hid hq5
      clear hq5 hw5 c0 c1 c2
      obtain ⟨c0, c1, c2⟩ := HZ.out w5 B5.out
      go_wp2_with fail
      refine DP.out.mono ?_
      rintro e w6 ⟨rfl, r6, hq6, hw6⟩
      have B6 := Lib.hid (B5.out.trans (hw6.below Q5.out))
      have DB := Lib.hid (bytes_calls W0.heap.size _ r6 _ w6 hq6)
      rw [Hvb.out, if_neg (by simp)] at DB
      have Q6 := Lib.hid hq6
      clear hq6 hw6 c0 c1 c2
      go_wp2_with fail
      refine DB.out.mono ?_
      rintro e w7 ⟨rfl, hq7, hw7⟩
      have B7 := Lib.hid (B6.out.trans (hw7.below Q6.out))
      clear hq7 hw7
      go_wp2_with fail
      go_ret2
      exact ⟨ret_se (by rw [Hr.out, Hcn.out, Hip.out]; simp) (by rw [Hr.out]), HB.out.trans (B7.out.mono HB.out.size)⟩
    · have Hr := Lib.hid (show openB o = ([], e0) from Hop.out.trans ((if_neg (by simp)).trans (if_pos he)))
      have t1 : (e0 != 0) = true := by simpa using he
      clear he
      go_wp2_with fail
      go_ret2
      exact ⟨ret_se (by rw [Hr.out]; try rfl) (by rw [Hr.out]), HB.out.trans (B3.out.mono HB.out.size)⟩
end Go.Proofs.Ytcaocnlchfbeaaa.St

/- The walk of the document's opening's bytes. -/
namespace Go.Proofs.Ytcaocnlchfbeaaa.St
open Go.RowKit Go.Proofs.Ytcaocnlchfbeaaa.Mk Go.Proofs.Ytcaocnlchfbeaaa.Op
open Go.Proofs.Ytcaocnlchfbeaaa.Cur (UH UB IHl IHa)
open Go.Proofs.Ytcaocnlchfbeaaa.Shape (depthI)
theorem flat_take (p : HL) (k : Nat) (h : k < p.length) : (p.take (k + 1)).flatten = (p.take k).flatten ++ p[k] := by
  rw [List.take_succ_eq_append_getElem h, List.flatten_append]
  simp
theorem flat_take_le (p : HL) (k : Nat) (h : ∀ x ∈ p, x.length = 32) : (p.take k).flatten.length ≤ p.length * 32 := by
  rw [flat_len _ (fun x hx => h x (List.mem_of_mem_take hx)), List.length_take]
  exact Nat.mul_le_mul_right _ (Nat.min_le_right _ _)
set_option maxHeartbeats 8000000 in
set_option maxRecDepth 100000 in
theorem ropening_calls (o : Opn) (v : Value) (w : World) (h : OV w v o) (ok : OOk o) :
    Calls Try.prog 85 #[v] w fun e w' => e = .returned (.tuple #[.string (ba (openB o).1), .int .i64 (openB o).2]) ∧ Below w.heap.size w w' := by
  obtain ⟨sv, rfl, hs⟩ := h
  have hB : Below w.heap.size w (w.alloc (.cells (oc o.i o.c sv) 41)) := (Below.refl _ _).alloc (Nat.le_refl _) _
  have Z := heap_new w (.cells (oc o.i o.c sv) 41)
  have hs0 := hs.below hB
  have HM := Lib.hid (fun wx (hx : Below (w.alloc (.cells (oc o.i o.c sv) 41)).heap.size (w.alloc (.cells (oc o.i o.c sv) 41)) wx) => rmay_calls o (.agg (oc o.i o.c sv)) wx ⟨sv, rfl, hs0.below hx⟩ ok.1 ok.2.1)
  have HZ := Lib.hid (fun wx (hx : Below (w.alloc (.cells (oc o.i o.c sv) 41)).heap.size (w.alloc (.cells (oc o.i o.c sv) 41)) wx) => three ((hx.block _ (by simp)).trans Z))
  have HB := Lib.hid hB
  have hop : openB o = if noneO o = true then (Num.putL 0, 0) else if mayI o ≠ 0 then ([], mayI o) else (Num.putL o.c.toNat ++ Num.putL o.i.toNat ++ o.p.flatten, 0) := rfl
  have hno := noneO_iff o
  have hm0 := may0 (o := o)
  have Hm0 := Lib.hid hm0
  have h32 := ok.2.2
  obtain ⟨hl32, hbd, A, cap, rfl, hlc, hcm, hex⟩ := hs0
  have Hex := Lib.hid hex
  have H32 := Lib.hid h32
  clear hs hex hl32 h32 Z hB hm0
  by_cases hq : noneO o = true
  · have Hr := Lib.hid (show openB o = (Num.putL 0, 0) from hop.trans (if_pos hq))
    obtain ⟨e1, e2, e3⟩ := hno.1 hq
    obtain ⟨i, c, p⟩ := o
    simp only at e1 e2 e3
    subst e1 e2 e3
    clear hop hno hq
    unfold oc at *
    go_enter Try.func85, Try.ntmps85
    go_wp2_with fail
    refine (Num.rput_calls 0 _ (by decide)).mono ?_
    rintro e w2 ⟨rfl, hb2⟩
    have hfin := Lib.hid (HB.out.trans (hb2.mono HB.out.size))
    clear hb2
    go_wp2_with fail
    go_ret2
    exact ⟨ret_se (by rw [Hr.out]) (by rw [Hr.out]), hfin.out⟩
  · have hq2 : openB o = if mayI o ≠ 0 then ([], mayI o) else (Num.putL o.c.toNat ++ Num.putL o.i.toNat ++ o.p.flatten, 0) := hop.trans (if_neg hq)
    have HM0 := Lib.hid (HM.out _ (Below.refl _ _))
    by_cases h1 : o.c = 0
    · have he : mayI o ≠ 0 := fun e => by have := (Hm0.out e).1; omega
      have Hr := Lib.hid (hq2.trans (if_pos he))
      have t0 : (mayI o != 0) = true := by simpa using he
      by_cases h2 : o.i = 0
      · have h3 : o.p ≠ [] := fun e => hq (hno.2 ⟨h2, h1, e⟩)
        have t3 : ((o.p.length : Int) == 0) = false := by simp; exact h3
        have t1 : (o.c == 0) = true := by simpa using h1
        have t2 : (o.i == 0) = true := by simpa using h2
        clear hop hno hq hq2 he h1 h2 h3
        generalize mayI o = e0 at *
        unfold oc at *
        go_enter Try.func85, Try.ntmps85
        go_wp2_with fail
        refine HM0.out.mono ?_
        rintro e w2 ⟨rfl, hb2⟩
        have hfin := Lib.hid (HB.out.trans (hb2.mono HB.out.size))
        clear hb2
        go_wp2_with fail
        go_ret2
        exact ⟨ret_se (by rw [Hr.out]; try rfl) (by rw [Hr.out]), hfin.out⟩
      · have t1 : (o.c == 0) = true := by simpa using h1
        have t2 : (o.i == 0) = false := by simpa using h2
        clear hop hno hq hq2 he h1 h2
        generalize mayI o = e0 at *
        unfold oc at *
        go_enter Try.func85, Try.ntmps85
        go_wp2_with fail
        refine HM0.out.mono ?_
        rintro e w2 ⟨rfl, hb2⟩
        have hfin := Lib.hid (HB.out.trans (hb2.mono HB.out.size))
        clear hb2
        go_wp2_with fail
        go_ret2
        exact ⟨ret_se (by rw [Hr.out]; try rfl) (by rw [Hr.out]), hfin.out⟩
    · have t1 : (o.c == 0) = false := by simpa using h1
      by_cases he : mayI o = 0
      · have Hr := Lib.hid (hq2.trans (if_neg (by simpa using he)))
        obtain ⟨m1, m2, m3, m4, m5⟩ := Hm0.out he
        have hd := depth_le o.c o.i m2
        rw [he] at HM0
        obtain ⟨cn, hcn⟩ := Int.eq_ofNat_of_zero_le (show 0 ≤ o.c by omega)
        obtain ⟨ip, hip⟩ := Int.eq_ofNat_of_zero_le m3
        have lc := Num.putL_len10 cn (by omega)
        have li := Num.putL_len10 ip (by omega)
        have hpl : o.p.length ≤ 63 := by omega
        have w64c : IntKind.u64.wrap o.c = o.c := by rw [IntKind.wrap_u64]; omega
        have w64i : IntKind.u64.wrap o.i = o.i := by rw [IntKind.wrap_u64]; omega
        have PC := Lib.hid (fun w => Num.rput_calls cn w (by omega))
        have PI := Lib.hid (fun w => Num.rput_calls ip w (by omega))
        rw [← hcn] at PC
        rw [← hip] at PI
        have Hcn := Lib.hid hcn
        have Hip := Lib.hid hip
        have HFT := Lib.hid (fun k => flat_take_le o.p k H32.out)
        have HFS := Lib.hid (fun k hk => flat_take o.p k hk)
        clear hop hno hq hq2 he h1 hcn hip m5 hd
        unfold oc at *
        go_enter Try.func85, Try.ntmps85
        obtain ⟨c0, c1, c2⟩ := HZ.out _ (Below.refl _ _)
        go_wp2_with fail
        generalize w.alloc (.cells #[.int .i64 o.i, .int .i64 o.c, .slice A o.p.length cap] 41) = W0 at *
        refine HM0.out.mono ?_
        rintro e w2 ⟨rfl, hb2⟩
        have B2 := Lib.hid hb2
        clear hb2 c0 c1 c2
        go_wp2_with fail
        have L1 := Lib.hid (show ∀ wx, Below w2.heap.size w2 wx → (Instr.loadAt 3 (.pointer (some ⟨w.heap.size, 1, none⟩))).run Try.prog wx = .ok (.int .i64 o.c) wx from fun wx hbx => run_load_i (HZ.out wx (below_up B2.out hbx)).2.1)
        have L0 := Lib.hid (show ∀ wx, Below w2.heap.size w2 wx → (Instr.loadAt 3 (.pointer (some ⟨w.heap.size, 0, none⟩))).run Try.prog wx = .ok (.int .i64 o.i) wx from fun wx hbx => run_load_i (HZ.out wx (below_up B2.out hbx)).1)
        have hadd : ¬ 9223372036854775807 < (ba (Num.putL cn)).size + (ba (Num.putL ip)).size := by rw [ba_size, ba_size]; omega
        refine wp_region_quiet_below (by kernel_rfl) (by kernel_rfl) ?_
        repeat (first | (refine wpQuiet_load rfl 3 _ rfl _ rfl _ (rg_fact L1.out) ?_) | (refine wpQuiet_load rfl 3 _ rfl _ rfl _ (rg_fact L0.out) ?_) | ((refine wpQuiet_call rfl _ _ ?_ _ (rg_of (fun wx _ => PC.out wx)) ?_); focus (intro wx; go_simp; done)) | ((refine wpQuiet_call rfl _ _ ?_ _ (rg_of (fun wx _ => PI.out wx)) ?_); focus (intro wx; go_simp; done)) | go_big_quiet_step (fail) | quiet_step (fail))
        refine wpQuiet_nil ?_
        rintro _ ⟨rp, rfl⟩
        have hb3 := below_regrown w2 rp.d rp.os
        generalize Sort.grow (redrawn w2 rp.d) rp.os = w3 at *
        have B3 := Lib.hid (below_up B2.out hb3)
        clear hb3 hadd
        go_wp2_with fail
        rw [ba_append]
        go_loopw [5, 6] (fun s5 s6 wr => ∃ k : Nat, k ≤ o.p.length ∧ s6 = .int .i64 k ∧ s5 = .string (ba (Num.putL cn ++ Num.putL ip ++ (o.p.take k).flatten)) ∧ Below W0.heap.size W0 wr) (fun _ s6 _ => o.p.length - (intOf s6).toNat)
        case atStart => exact ⟨0, by omega, rfl, by simp, B3.out⟩
        case round =>
          obtain ⟨k, hk, rfl, rfl, hbw⟩ := hrel
          obtain ⟨c0, c1, c2⟩ := HZ.out wr hbw
          by_cases hkl : k < o.p.length
          · obtain ⟨b0, o0, rfl, hx⟩ := Hex.out (by omega)
            have hr0 := Lib.hid (range_below (hx k o.p[k] (List.getElem?_eq_getElem hkl)) hbw)
            have hx32 := H32.out o.p[k] (List.getElem_mem hkl)
            have hft := HFT.out k
            have Hfs := Lib.hid (HFS.out k hkl)
            clear hx
            generalize o.p[k] = x at *
            have I32 := Lib.hid (IHl hx32)
            have RW := Lib.hid (fun w => Wd.raw03_calls x w hx32)
            have hsum : (ba (Num.putL cn ++ Num.putL ip ++ (o.p.take k).flatten)).size + (ba x).size ≤ 9223372036854775807 := by rw [ba_size, ba_size]; simp only [List.length_append]; omega
            have Hnew := Lib.hid (show ba (Num.putL cn ++ Num.putL ip ++ (o.p.take k).flatten) ++ ba x = ba (Num.putL cn ++ Num.putL ip ++ (o.p.take (k + 1)).flatten) by rw [Hfs.out, ba_append]; simp)
            have i1 : ¬ (k : Int) < 0 := by omega
            clear hx32 hft
            generalize ba (Num.putL cn ++ Num.putL ip ++ (o.p.take k).flatten) = S at *
            generalize ba x = X at *
            go_wp2_with (refine wpList_load_mid rfl 35 _ rfl b0 (o0 + k * 32) rfl (hc x) _ hr0.out UH rfl I32.out ?_)
            refine (RW.out _).mono ?_
            rintro e w4 ⟨rfl, hb4⟩
            have B4 := Lib.hid (below_up hbw hb4)
            clear hb4 c0 c1 c2
            go_wp2_with fail
            go_roundw
            case rel => exact ⟨k + 1, by omega, by go_num, by rw [Hnew.out], B4.out⟩
            case measure => simp [intOf] <;> omega
          · obtain rfl : k = o.p.length := by omega
            go_wp2_with fail
            go_ret2
            exact ⟨ret_se (by rw [Hr.out, Hcn.out, Hip.out, List.take_length]; simp) (by rw [Hr.out]), HB.out.trans (hbw.mono HB.out.size)⟩
      · have Hr := Lib.hid (hq2.trans (if_pos he))
        have t0 : (mayI o != 0) = true := by simpa using he
        clear hop hno hq hq2 he h1
        generalize mayI o = e0 at *
        unfold oc at *
        go_enter Try.func85, Try.ntmps85
        go_wp2_with fail
        refine HM0.out.mono ?_
        rintro e w2 ⟨rfl, hb2⟩
        have hfin := Lib.hid (HB.out.trans (hb2.mono HB.out.size))
        clear hb2
        go_wp2_with fail
        go_ret2
        exact ⟨ret_se (by rw [Hr.out]; try rfl) (by rw [Hr.out]), hfin.out⟩
end Go.Proofs.Ytcaocnlchfbeaaa.St

/- The walks of a step's bytes. -/
namespace Go.Proofs.Ytcaocnlchfbeaaa.Stp
open Go.RowKit Go.Proofs.Ytcaocnlchfbeaaa.Mk Go.Proofs.Ytcaocnlchfbeaaa.Op Go.Proofs.Ytcaocnlchfbeaaa.Hd Go.Proofs.Ytcaocnlchfbeaaa.St
open Go.Proofs.Ytcaocnlchfbeaaa.Shape (depthI)
def sc (h : Hd) (o : Opn) (sv : Value) : List Value := h.c ++ [.int .i64 o.i, .int .i64 o.c, sv]
/-- a step's value -/
def SV (w : World) (v : Value) (h : Hd) (o : Opn) : Prop := ∃ sv, v = .agg (sc h o sv).toArray ∧ SL hc 32 w sv o.p
theorem SV.below {w w' : World} {v : Value} {h : Hd} {o : Opn} (k : SV w v h o) (hb : Below w.heap.size w w') : SV w' v h o := by
  obtain ⟨sv, e, s⟩ := k
  exact ⟨sv, e, s.below hb⟩
/-- a step's block -/
def SK (g : Nat) (h : Hd) (o : Opn) (sv : Value) (w : World) : Prop := w.heap[g]? = some (.cells (sc h o sv).toArray 43 (0, 0))
theorem SK.keep {g : Nat} {h : Hd} {o : Opn} {sv : Value} {w w' : World} (k : SK g h o sv w) (hb : Below w.heap.size w w') : SK g h o sv w' := (hb.block g (Array.getElem?_eq_some_iff.1 k).1).trans k
theorem SK.hd {g : Nat} {h : Hd} {o : Opn} {sv : Value} {w : World} (k : SK g h o sv w) : w.rangeAt g 0 h.c := fun j v hv => by
  rw [cell_of_row w g (0 + j) _ _ _ k, List.getElem?_toArray, Nat.zero_add]
  unfold sc
  rw [List.getElem?_append_left (List.getElem?_eq_some_iff.1 hv).1]
  exact hv
theorem SK.op {g : Nat} {h : Hd} {o : Opn} {sv : Value} {w : World} (k : SK g h o sv w) (ok : h.Ok) : w.rangeAt g 66 [.int .i64 o.i, .int .i64 o.c, sv] := fun j v hv => by
  rw [cell_of_row w g (66 + j) _ _ _ k, List.getElem?_toArray]
  unfold sc
  rw [List.getElem?_append_right (by rw [h.c_len ok]; omega), h.c_len ok, Nat.add_sub_cancel_left]
  exact hv
theorem UO : Try.prog.underlying 41 = some (.struct (Try.prog.fieldsOf 41)) := by kernel_rfl
theorem IO : (Try.prog.info? 41).map (·.size) = some 3 := by kernel_rfl
theorem IHc {h : Hd} (k : h.Ok) : (Try.prog.info? 38).map (·.size) = some h.c.length := by
  rw [IHd k, List.size_toArray]
theorem SK.loadO {g : Nat} {h : Hd} {o : Opn} {sv : Value} {w : World} (k : SK g h o sv w) (ok : h.Ok) : (Instr.loadAt 41 (.pointer (some ⟨g, 66, none⟩))).run Try.prog w = .ok (.agg (oc o.i o.c sv)) w :=
  run_loadAt_mid w g 66 _ _ _ (k.op ok) UO rfl IO
theorem SK.loadH {g : Nat} {h : Hd} {o : Opn} {sv : Value} {w : World} (k : SK g h o sv w) (ok : h.Ok) : (Instr.loadAt 38 (.pointer (some ⟨g, 0, none⟩))).run Try.prog w = .ok h.v w :=
  run_loadAt_mid w g 0 _ _ _ k.hd fieldsHd rfl (IHc ok)
/-- a step's bytes, and what is wrong with it -/
def stepB (h : Hd) (o : Opn) : List UInt8 × Int := if (openB o).2 ≠ 0 then ([], (openB o).2) else (h.b ++ (openB o).1, 0)
theorem openB_len (o : Opn) (ok : OOk o) : (openB o).1.length ≤ 2100 := by
  unfold openB
  split
  · have := Num.putL_len10 0 (by decide); simp only; omega
  split
  · simp
  · rename_i h
    obtain ⟨m1, m2, m3, m4, m5⟩ := may0 (by simpa using h)
    have hd := depth_le o.c o.i m2
    have l1 := Num.putL_len10 o.c.toNat (by omega)
    have l2 := Num.putL_len10 o.i.toNat (by omega)
    simp only [List.length_append, flat_len o.p ok.2.2]
    omega
set_option maxHeartbeats 4000000 in
set_option maxRecDepth 100000 in
theorem step_calls (h : Hd) (o : Opn) (v : Value) (w : World) (hv : SV w v h o) (kh : h.Ok) (ok : OOk o) :
    Calls Try.prog 28 #[v] w fun e w' => e = .returned (.tuple #[.string (ba (stepB h o).1), .int .i64 (stepB h o).2]) ∧ Below w.heap.size w w' := by
  obtain ⟨sv, rfl, hs⟩ := hv
  have hk0 : SK w.heap.size h o sv (w.alloc (.cells (sc h o sv).toArray 43)) := heap_new _ _
  have hB : Below w.heap.size w (w.alloc (.cells (sc h o sv).toArray 43)) := (Below.refl _ _).alloc (Nat.le_refl _) _
  have hs0 := hs.below hB
  have HB0 := Lib.hid hB
  have HO := Lib.hid (fun wx (hx : Below (w.alloc (.cells (sc h o sv).toArray 43)).heap.size (w.alloc (.cells (sc h o sv).toArray 43)) wx) => opening_calls o (.agg (oc o.i o.c sv)) wx ⟨sv, rfl, hs0.below hx⟩ ok)
  have HH := Lib.hid (fun wx => bytes_calls h wx kh)
  have hlen := openB_len o ok
  have Hr := Lib.hid (show stepB h o = if (openB o).2 ≠ 0 then ([], (openB o).2) else (h.b ++ (openB o).1, 0) from rfl)
  have Kh := Lib.hid kh
  have K0 := Lib.hid hk0
  have hsz := b_size h kh
  have hadd : ¬ 9223372036854775807 < (ba h.b).size + (ba (openB o).1).size := by rw [hsz, ba_size]; omega
  have LO := Lib.hid (fun wx (hb : Below (w.alloc (.cells (sc h o sv).toArray 43)).heap.size (w.alloc (.cells (sc h o sv).toArray 43)) wx) => (hk0.keep hb).loadO kh)
  clear hs hs0 kh hB hk0 hlen hsz
  go_enter Try.func28, Try.ntmps28
  go_wp2_with (refine wpList_loadg (by rfl) 41 (.tmp 7) (by rfl) _ (by rfl) _ (LO.out _ (Below.refl _ _)) ?_)
  generalize w.alloc (.cells (sc h o sv).toArray 43) = W at *
  refine (HO.out _ (Below.refl _ _)).mono ?_
  rintro r w1 ⟨rfl, hb1⟩
  have B1 := Lib.hid hb1
  clear hb1 LO
  by_cases he : (openB o).2 = 0
  · have t0 : ((openB o).2 != 0) = false := by rw [he]; rfl
    have Hr1 := Lib.hid (Hr.out.trans (if_neg (by simpa using he)))
    have L1 := Lib.hid (show ∀ wx, Below w1.heap.size w1 wx → (Instr.loadAt 38 (.pointer (some ⟨w.heap.size, 0, none⟩))).run Try.prog wx = .ok h.v wx from fun wx hbx => (K0.out.keep (below_up B1.out hbx)).loadH Kh.out)
    clear he
    go_wp2_with (refine wpList_loadg (by rfl) 38 (.tmp 15) (by rfl) _ (by rfl) _ (L1.out _ (Below.refl _ _)) ?_)
    refine (HH.out _).mono ?_
    rintro r w2 ⟨rfl, hb2⟩
    have hfin := Lib.hid (HB0.out.trans ((below_up B1.out hb2).mono HB0.out.size))
    clear hb2
    go_wp2_with fail
    go_ret2
    exact ⟨ret_se (by rw [Hr1.out, ba_append]) (by rw [Hr1.out]), hfin.out⟩
  · have t0 : ((openB o).2 != 0) = true := by simpa using he
    have Hr1 := Lib.hid (Hr.out.trans (if_pos he))
    have hfin := Lib.hid (HB0.out.trans (B1.out.mono HB0.out.size))
    clear he
    go_wp2_with fail
    go_ret2
    exact ⟨ret_se (by rw [Hr1.out]; try rfl) (by rw [Hr1.out]), hfin.out⟩
set_option maxHeartbeats 4000000 in
set_option maxRecDepth 100000 in
theorem rstep_calls (h : Hd) (o : Opn) (v : Value) (w : World) (hv : SV w v h o) (kh : h.Ok) (ok : OOk o) :
    Calls Try.prog 77 #[v] w fun e w' => e = .returned (.tuple #[.string (ba (stepB h o).1), .int .i64 (stepB h o).2]) ∧ Below w.heap.size w w' := by
  obtain ⟨sv, rfl, hs⟩ := hv
  have hk0 : SK w.heap.size h o sv (w.alloc (.cells (sc h o sv).toArray 43)) := heap_new _ _
  have hB : Below w.heap.size w (w.alloc (.cells (sc h o sv).toArray 43)) := (Below.refl _ _).alloc (Nat.le_refl _) _
  have hs0 := hs.below hB
  have HB0 := Lib.hid hB
  have HO := Lib.hid (fun wx (hx : Below (w.alloc (.cells (sc h o sv).toArray 43)).heap.size (w.alloc (.cells (sc h o sv).toArray 43)) wx) => ropening_calls o (.agg (oc o.i o.c sv)) wx ⟨sv, rfl, hs0.below hx⟩ ok)
  have HH := Lib.hid (fun wx => rbytes_calls h wx kh)
  have hlen := openB_len o ok
  have Hr := Lib.hid (show stepB h o = if (openB o).2 ≠ 0 then ([], (openB o).2) else (h.b ++ (openB o).1, 0) from rfl)
  have Kh := Lib.hid kh
  have K0 := Lib.hid hk0
  have hsz := b_size h kh
  have hadd : ¬ 9223372036854775807 < (ba h.b).size + (ba (openB o).1).size := by rw [hsz, ba_size]; omega
  have LO := Lib.hid (fun wx (hb : Below (w.alloc (.cells (sc h o sv).toArray 43)).heap.size (w.alloc (.cells (sc h o sv).toArray 43)) wx) => (hk0.keep hb).loadO kh)
  clear hs hs0 kh hB hk0 hlen hsz
  go_enter Try.func77, Try.ntmps77
  go_wp2_with (refine wpList_loadg (by rfl) 41 (.tmp 7) (by rfl) _ (by rfl) _ (LO.out _ (Below.refl _ _)) ?_)
  generalize w.alloc (.cells (sc h o sv).toArray 43) = W at *
  refine (HO.out _ (Below.refl _ _)).mono ?_
  rintro r w1 ⟨rfl, hb1⟩
  have B1 := Lib.hid hb1
  clear hb1 LO
  by_cases he : (openB o).2 = 0
  · have t0 : ((openB o).2 != 0) = false := by rw [he]; rfl
    have Hr1 := Lib.hid (Hr.out.trans (if_neg (by simpa using he)))
    have L1 := Lib.hid (show ∀ wx, Below w1.heap.size w1 wx → (Instr.loadAt 38 (.pointer (some ⟨w.heap.size, 0, none⟩))).run Try.prog wx = .ok h.v wx from fun wx hbx => (K0.out.keep (below_up B1.out hbx)).loadH Kh.out)
    clear he
    go_wp2_with (refine wpList_loadg (by rfl) 38 (.tmp 15) (by rfl) _ (by rfl) _ (L1.out _ (Below.refl _ _)) ?_)
    refine (HH.out _).mono ?_
    rintro r w2 ⟨rfl, hb2⟩
    have hfin := Lib.hid (HB0.out.trans ((below_up B1.out hb2).mono HB0.out.size))
    clear hb2
    go_wp2_with fail
    go_ret2
    exact ⟨ret_se (by rw [Hr1.out, ba_append]) (by rw [Hr1.out]), hfin.out⟩
  · have t0 : ((openB o).2 != 0) = true := by simpa using he
    have Hr1 := Lib.hid (Hr.out.trans (if_pos he))
    have hfin := Lib.hid (HB0.out.trans (B1.out.mono HB0.out.size))
    clear he
    go_wp2_with fail
    go_ret2
    exact ⟨ret_se (by rw [Hr1.out]; try rfl) (by rw [Hr1.out]), hfin.out⟩
end Go.Proofs.Ytcaocnlchfbeaaa.Stp

/- The walks of steps: whether two are the same. -/
namespace Go.Proofs.Ytcaocnlchfbeaaa.Stp
open Go.RowKit Go.Proofs.Ytcaocnlchfbeaaa.Mk Go.Proofs.Ytcaocnlchfbeaaa.Op Go.Proofs.Ytcaocnlchfbeaaa.Hd Go.Proofs.Ytcaocnlchfbeaaa.St
open Go.Proofs.Ytcaocnlchfbeaaa.Cur (heap_new1 heap_new2 below2)
def sameS (h g : Hd) (a b : Opn) : Bool := h.eqb g && sameO a b
theorem sameS_self (h : Hd) (a : Opn) : sameS h h a a = true := by
  unfold sameS sameO
  rw [eqb_refl]
  simp
set_option maxHeartbeats 4000000 in
set_option maxRecDepth 100000 in
theorem ssame_calls (h g : Hd) (a b : Opn) (va vb : Value) (w : World) (ha : SV w va h a) (hb : SV w vb g b) (kh : h.Ok) (kg : g.Ok) :
    Calls Try.prog 29 #[va, vb] w fun e w' => e = .returned (.bool (sameS h g a b)) ∧ Below w.heap.size w w' := by
  obtain ⟨sa, rfl, hsa⟩ := ha
  obtain ⟨sb, rfl, hsb⟩ := hb
  have hB := below2 w (.cells (sc h a sa).toArray 43) (.cells (sc g b sb).toArray 43)
  have Z0 : SK w.heap.size h a sa ((w.alloc (.cells (sc h a sa).toArray 43)).alloc (.cells (sc g b sb).toArray 43)) := heap_new1 w (.cells (sc h a sa).toArray 43) (.cells (sc g b sb).toArray 43)
  have Z1 : SK (w.heap.size + 1) g b sb ((w.alloc (.cells (sc h a sa).toArray 43)).alloc (.cells (sc g b sb).toArray 43)) := heap_new2 w (.cells (sc h a sa).toArray 43) (.cells (sc g b sb).toArray 43)
  have HS := Lib.hid (same_calls a b (.agg (oc a.i a.c sa)) (.agg (oc b.i b.c sb)) _ ⟨sa, rfl, hsa.below hB⟩ ⟨sb, rfl, hsb.below hB⟩)
  have HB := Lib.hid hB
  have LO1 := Lib.hid (Z0.loadO kh)
  have LO2 := Lib.hid (Z1.loadO kg)
  have LH1 := Lib.hid (Z0.loadH kh)
  have LH2 := Lib.hid (Z1.loadH kg)
  have HQ := Lib.hid (fun w => eqHd kh kg w)
  have HR := Lib.hid (show sameS h g a b = (h.eqb g && sameO a b) from rfl)
  clear hsa hsb hB Z0 Z1 kh kg
  cases he : h.eqb g
  all_goals
    rw [he] at HQ HR
    clear he
    go_enter Try.func29, Try.ntmps29
    go_wp2_with (first | (refine wpList_loadg (by rfl) 38 (.tmp 5) (by rfl) _ (by rfl) _ LH1.out ?_) | (refine wpList_loadg (by rfl) 38 (.tmp 7) (by rfl) _ (by rfl) _ LH2.out ?_) | (refine wpList_loadg (by rfl) 41 (.tmp 11) (by rfl) _ (by rfl) _ LO1.out ?_) | (refine wpList_loadg (by rfl) 41 (.tmp 13) (by rfl) _ (by rfl) _ LO2.out ?_) | (refine wpList_value (by rfl) (.bool _) (run_bin (x := .tmp 6) (y := .tmp 8) (by rfl) (by rfl) (by rfl) (eqGuardHd (h := h) (g := g) _) (HQ.out _)) ?_))
  · go_ret
    exact ⟨ret_bool (by rw [HR.out]; rfl), HB.out⟩
  · refine HS.out.mono ?_
    rintro r w1 ⟨rfl, hb1⟩
    have hfin := Lib.hid (HB.out.trans (hb1.mono HB.out.size))
    clear hb1
    go_wp2_with fail
    go_ret
    exact ⟨ret_bool (by rw [HR.out]; rfl), hfin.out⟩
set_option maxHeartbeats 4000000 in
set_option maxRecDepth 100000 in
theorem rssame_calls (h g : Hd) (a b : Opn) (va vb : Value) (w : World) (ha : SV w va h a) (hb : SV w vb g b) (kh : h.Ok) (kg : g.Ok) :
    Calls Try.prog 21 #[va, vb] w fun e w' => e = .returned (.bool (sameS h g a b)) ∧ Below w.heap.size w w' := by
  obtain ⟨sa, rfl, hsa⟩ := ha
  obtain ⟨sb, rfl, hsb⟩ := hb
  have hB := below2 w (.cells (sc h a sa).toArray 43) (.cells (sc g b sb).toArray 43)
  have Z0 : SK w.heap.size h a sa ((w.alloc (.cells (sc h a sa).toArray 43)).alloc (.cells (sc g b sb).toArray 43)) := heap_new1 w (.cells (sc h a sa).toArray 43) (.cells (sc g b sb).toArray 43)
  have Z1 : SK (w.heap.size + 1) g b sb ((w.alloc (.cells (sc h a sa).toArray 43)).alloc (.cells (sc g b sb).toArray 43)) := heap_new2 w (.cells (sc h a sa).toArray 43) (.cells (sc g b sb).toArray 43)
  have HS := Lib.hid (rsame_calls a b (.agg (oc a.i a.c sa)) (.agg (oc b.i b.c sb)) _ ⟨sa, rfl, hsa.below hB⟩ ⟨sb, rfl, hsb.below hB⟩)
  have HB := Lib.hid hB
  have LO1 := Lib.hid (Z0.loadO kh)
  have LO2 := Lib.hid (Z1.loadO kg)
  have LH1 := Lib.hid (Z0.loadH kh)
  have LH2 := Lib.hid (Z1.loadH kg)
  have HQ := Lib.hid (fun w => eqHd kh kg w)
  have HR := Lib.hid (show sameS h g a b = (h.eqb g && sameO a b) from rfl)
  clear hsa hsb hB Z0 Z1 kh kg
  cases he : h.eqb g
  all_goals
    rw [he] at HQ HR
    clear he
    go_enter Try.func21, Try.ntmps21
    go_wp2_with (first | (refine wpList_loadg (by rfl) 38 (.tmp 5) (by rfl) _ (by rfl) _ LH1.out ?_) | (refine wpList_loadg (by rfl) 38 (.tmp 7) (by rfl) _ (by rfl) _ LH2.out ?_) | (refine wpList_loadg (by rfl) 41 (.tmp 11) (by rfl) _ (by rfl) _ LO1.out ?_) | (refine wpList_loadg (by rfl) 41 (.tmp 13) (by rfl) _ (by rfl) _ LO2.out ?_) | (refine wpList_value (by rfl) (.bool _) (run_bin (x := .tmp 6) (y := .tmp 8) (by rfl) (by rfl) (by rfl) (eqGuardHd (h := h) (g := g) _) (HQ.out _)) ?_))
  · go_ret
    exact ⟨ret_bool (by rw [HR.out]; rfl), HB.out⟩
  · refine HS.out.mono ?_
    rintro r w1 ⟨rfl, hb1⟩
    have hfin := Lib.hid (HB.out.trans (hb1.mono HB.out.size))
    clear hb1
    go_wp2_with fail
    go_ret
    exact ⟨ret_bool (by rw [HR.out]; rfl), hfin.out⟩
end Go.Proofs.Ytcaocnlchfbeaaa.Stp

/- The walk of chapter 29's awake. -/
namespace Go.Proofs.Ytcaocnlchfbeaaa.Stp
open Go.RowKit Go.Proofs.Ytcaocnlchfbeaaa.Mk Go.Proofs.Ytcaocnlchfbeaaa.Op Go.Proofs.Ytcaocnlchfbeaaa.Hd Go.Proofs.Ytcaocnlchfbeaaa.St
open Go.Proofs.Ytcaocnlchfbeaaa.Shape (depthI sidesI)
def opA : Opn := ⟨0, 2, [zH]⟩
theorem op0_ok : OOk op0 := ⟨by decide, by decide, by simp [op0]⟩
theorem opA_ok : OOk opA := ⟨by decide, by decide, by simp [opA, zH_len]⟩
theorem depth2 : depthI 2 0 = 1 := by
  have : sidesI 2 0 = [false] := by
    rw [Shape.sidesI_left 2 0 (by omega) (by omega) (by decide), Shape.sidesI_one _ _ (by decide)]; rfl
  unfold depthI
  rw [if_pos (by decide), this]
  rfl
theorem openA : (openB opA).2 = 0 ∧ (openB opA).1.length = 34 := by
  have hn : ¬ noneO opA = true := fun h => absurd ((noneO_iff opA).1 h).2.1 (by decide)
  have hm : mayI opA = 0 := by
    unfold mayI
    rw [if_neg (by decide), if_neg (by rw [show opA.c = 2 from rfl, show opA.i = 0 from rfl, depth2]; decide)]
  unfold openB
  rw [if_neg hn, if_neg (by rw [hm]; decide)]
  refine ⟨rfl, ?_⟩
  rw [show opA.c.toNat = 2 from rfl, show opA.i.toNat = 0 from rfl, Num.putL_one 2 (by decide), Num.putL_one 0 (by decide)]
  simp [opA, zH_len]
theorem step0 : (stepB hd0 op0).2 = 0 ∧ (stepB hd0 op0).1.length = 77 := by
  have hn : noneO op0 = true := (noneO_iff op0).2 ⟨rfl, rfl, rfl⟩
  have ho : openB op0 = (Num.putL 0, 0) := by unfold openB; rw [if_pos hn]
  unfold stepB
  rw [ho, if_neg (by decide)]
  refine ⟨rfl, ?_⟩
  rw [List.length_append, hd0.b_len hd0_ok, Num.putL_one 0 (by decide)]
  rfl
def nilS : Value := .slice none 0 0
theorem build_St {o : Oper} {a : Act} {w : World} (ho : o.op = .build 43 #[]) : (execOp a.eval o).run Try.prog w = .ok (.value (.agg (sc hd0 op0 nilS).toArray)) w := by
  unfold execOp
  simp only [ho]
  kernel_rfl
theorem build_Ha {o : Oper} {a : Act} {w : World} (ho : o.op = .build 35 #[]) : (execOp a.eval o).run Try.prog w = .ok (.value (.agg (hc zH).toArray)) w := by
  unfold execOp
  simp only [ho]
  kernel_rfl
theorem sv0 (w : World) : SV w (.agg (sc hd0 op0 nilS).toArray) hd0 op0 := ⟨_, rfl, SL.nil _ _ _⟩
set_option maxHeartbeats 4000000 in
set_option maxRecDepth 100000 in
theorem awake_calls (w : World) : Calls Try.prog 27 #[] w fun e w' => e = .returned (.bool true) ∧ Below w.heap.size w w' := by
  have H0 := Lib.hid (step_calls hd0 op0 _ w (sv0 w) hd0_ok op0_ok)
  have HA := Lib.hid (fun v w h => opening_calls opA v w h opA_ok)
  rw [step0.1] at H0
  rw [openA.1] at HA
  have h1 : (ba (stepB hd0 op0).1).size = 77 := by rw [ba_size, step0.2]
  have h2 : (ba (openB opA).1).size = 34 := by rw [ba_size, openA.2]
  generalize ba (stepB hd0 op0).1 = s1 at *
  generalize ba (openB opA).1 = s2 at *
  have hi : (Try.prog.info? 35).map (fun i => (i.zero, i.size, i.bytes)) = some (some (.agg (hc zH).toArray), 32, 32) := by kernel_rfl
  have us : Try.prog.underlying 39 = some (.slice 35) := by kernel_rfl
  have Hi := Lib.hid hi
  have Us := Lib.hid us
  clear hi us
  go_enter Try.func27, Try.ntmps27
  go_wp2_with (refine wpList_value (by rfl) (.agg (sc hd0 op0 nilS).toArray) (build_St (by rfl)) ?_)
  refine H0.out.mono ?_
  rintro r w1 ⟨rfl, hb1⟩
  have B1 := Lib.hid hb1
  clear hb1
  go_wp2_with (first | (refine wpList_value (by rfl) (.agg (hc zH).toArray) (build_Ha (by rfl)) ?_) | (refine wpList_buildOne rfl 39 35 32 _ rfl (hc zH).toArray _ 32 rfl (by simp [hc_len, zH_len]) Hi.out Us.out (by decide) (by decide) ?_))
  have hs : SL hc 32 (w1.alloc (.cells (hc zH).toArray 35)) (.slice (some ⟨w1.heap.size, 0, none⟩) 1 1) [zH] := by
    refine ⟨fun x hx => ?_, by decide, some ⟨w1.heap.size, 0, none⟩, 1, rfl, by decide, by decide, fun _ => ⟨w1.heap.size, 0, rfl, ?_⟩⟩
    · simp only [List.mem_singleton] at hx
      rw [hx, hc_len, zH_len]
    · intro k x hk
      cases k with
      | zero =>
        obtain rfl : zH = x := by simpa using hk
        intro j u hj
        exact range_row (heap_alloc_last w1 _) j u hj
      | succ k => simp at hk
  refine (HA.out _ _ ⟨_, rfl, hs⟩).mono ?_
  rintro r w2 ⟨rfl, hb2⟩
  have hfin := Lib.hid (B1.out.trans (((Below.refl w1.heap.size w1).alloc (Nat.le_refl _) _ |>.trans (hb2.mono (by simp))).mono B1.out.size))
  clear hb2 hs
  go_wp2_with fail
  go_ret
  exact ⟨rfl, hfin.out⟩
end Go.Proofs.Ytcaocnlchfbeaaa.Stp

/- The walk of chapter 29's law StepPuts. -/
namespace Go.Proofs.Ytcaocnlchfbeaaa.Stp
open Go.RowKit Go.Proofs.Ytcaocnlchfbeaaa.Mk Go.Proofs.Ytcaocnlchfbeaaa.Op Go.Proofs.Ytcaocnlchfbeaaa.Hd Go.Proofs.Ytcaocnlchfbeaaa.St
open Go.Proofs.Ytcaocnlchfbeaaa.Cur (heap_new1 heap_new2 below2)
theorem US : Try.prog.underlying 43 = some (.struct (Try.prog.fieldsOf 43)) := by kernel_rfl
theorem IS0 : (Try.prog.info? 43).map (·.size) = some 69 := by kernel_rfl
theorem sc_len (h : Hd) (o : Opn) (sv : Value) (k : h.Ok) : (sc h o sv).length = 69 := by
  unfold sc
  rw [List.length_append, h.c_len k]
  rfl
theorem IS {h : Hd} (k : h.Ok) (o : Opn) (sv : Value) : (Try.prog.info? 43).map (·.size) = some (sc h o sv).length := by rw [IS0, sc_len h o sv k]
theorem SK.all {g : Nat} {h : Hd} {o : Opn} {sv : Value} {w : World} (k : SK g h o sv w) : w.rangeAt g 0 (sc h o sv) := fun j v hv => by
  rw [cell_of_row w g (0 + j) _ _ _ k, List.getElem?_toArray, Nat.zero_add]
  exact hv
theorem SK.load {g : Nat} {h : Hd} {o : Opn} {sv : Value} {w : World} (k : SK g h o sv w) (ok : h.Ok) : (Instr.loadAt 43 (.pointer (some ⟨g, 0, none⟩))).run Try.prog w = .ok (.agg (sc h o sv).toArray) w :=
  run_loadAt_mid w g 0 _ _ _ k.all US rfl (IS ok o sv)
theorem SK.path {g : Nat} {h : Hd} {o : Opn} {sv : Value} {w : World} (k : SK g h o sv w) (ok : h.Ok) : (Instr.loadAt 39 (.pointer (some ⟨g, 68, none⟩))).run Try.prog w = .ok sv w :=
  run_load_hs (k.op ok 2 sv rfl)
end Go.Proofs.Ytcaocnlchfbeaaa.Stp
