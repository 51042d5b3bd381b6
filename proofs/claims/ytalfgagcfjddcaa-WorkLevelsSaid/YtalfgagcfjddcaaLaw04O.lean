/- The walk of chapter 4's law WideOf. -/
import Derived.Test.YtalfgagcfjddcaaLaw04
namespace Go.Proofs.Ytalfgagcfjddcaa.L4
open Go.RowKit Go.Proofs.Ytalfgagcfjddcaa.Mk Go.Proofs.Ytalfgagcfjddcaa.Ul Go.Proofs.Ytalfgagcfjddcaa.Wd Go.Proofs.Ytalfgagcfjddcaa.Wi Go.Proofs.Ytalfgagcfjddcaa.R4 Go.Proofs.Ytalfgagcfjddcaa.Hf
def HH (h : List UInt8) (g : Nat) (w : World) : Prop := w.heap[g]? = some (.cells (hc h).toArray 23 (0, 0))
theorem HH.keep {h : List UInt8} {g : Nat} {w w2 : World} (k : HH h g w) (hb : Below w.heap.size w w2) : HH h g w2 := (hb.block _ (Array.getElem?_eq_some_iff.1 k).1).trans k
theorem HH.at {h : List UInt8} {g : Nat} {w : World} (k : HH h g w) (hl : h.length = 32) : (Instr.loadAt 23 (.pointer (some ⟨g, 0, none⟩))).run Try.prog w = .ok (hv h) w := by
  simp only [Instr.loadAt, Instr.sureAddr, Sem.run_bind, Sem.run_pure, Result.andThen_ok, run_loadVar_row w g _ 23 _ _ _ k UH rfl (IHa hl)]
  rfl
def OfL (h : List UInt8) (g0 g1 b : Nat) (w wr : World) : Prop := HH h g0 wr ∧ FB g1 4 (lb (beN h)) 37 wr ∧ BR wr b 0 (beN h) ∧ Below w.heap.size w wr
set_option maxHeartbeats 4000000 in
set_option maxRecDepth 100000 in
theorem lawOf_calls (h : List UInt8) (w : World) (hl : h.length = 32) : Calls Try.prog 6 #[hv h] w fun e w' => e = .returned (.bool true) ∧ Below w.heap.size w w' := by
  have HL := Lib.hid hl
  have HO := Lib.hid (fun w => of_calls h w HL.out)
  have HP := Lib.hid (fun w => rof_calls h w HL.out)
  have HA := Lib.hid (fun w => awake_calls w)
  clear hl
  unfold hv at *
  go_enter Try.func6, Try.ntmps6
  have Q1 := Lib.hid (show HH h w.heap.size (w.alloc (.cells (hc h).toArray 23)) from nw1 _ _)
  have B1 := Lib.hid (bl1 w (.cells (hc h).toArray 23))
  go_wp2_with (first | (refine wpList_load_row (by rfl) 23 (.tmp 1) (by rfl) _ (by rfl) _ _ _ _ Q1.out UH rfl (IHa HL.out) ?_))
  refine (HO.out _).mono ?_
  rintro e w1 ⟨rfl, hb1⟩
  unfold UV
  have Q2 := Lib.hid (show HH h w.heap.size (w1.alloc (.cells (FC 4 (lb (beN h))).toArray 37)) from (Q1.out.keep hb1).keep (bl1 _ _))
  have G2 := Lib.hid (show FB w1.heap.size 4 (lb (beN h)) 37 (w1.alloc (.cells (FC 4 (lb (beN h))).toArray 37)) from nw1 _ _)
  have B2 := Lib.hid (below_up (below_up B1.out hb1) (bl1 w1 (.cells (FC 4 (lb (beN h))).toArray 37)))
  clear hb1 Q1 B1
  go_wp2_with (first | (refine wpList_store_last rfl 37 _ _ rfl _ (FC 4 (lb (beN h))).toArray rfl rfl (IN4 _) (by rw [FC_size]; rfl) (FC_one _ _) ?_) | (refine wpList_load_row (by rfl) 23 (.tmp 1) (by rfl) _ (by rfl) _ _ _ _ Q2.out UH rfl (IHa HL.out) ?_))
  refine (HP.out _).mono ?_
  rintro e w2 ⟨b, c, rfl, r2, _, hb2⟩
  have S2 := Lib.hid (show OfL h w.heap.size w1.heap.size b w w2 from ⟨Q2.out.keep hb2, G2.out.keep hb2, r2, below_up B2.out hb2⟩)
  clear hb2 Q2 G2 B2 r2
  go_wp2_with fail
  go_loopw [5] (fun s5 wr => ∃ i : Nat, i ≤ 256 ∧ s5 = .int .i64 i ∧ Hid (OfL h w.heap.size w1.heap.size b w wr)) (fun s5 _ => 256 - (intOf s5).toNat)
  case atStart => exact ⟨0, by omega, rfl, S2⟩
  case round =>
    obtain ⟨i, hi, rfl, hq⟩ := hrel
    by_cases hil : i < 256
    · have c1 := hq.out.2.1.cell (i := i / 64) (by omega)
      have c2 := hq.out.2.2.1 i hil
      have hbit := lb_bit (beN h) i
      rw [Nat.zero_add] at c2
      have i1 : ¬ (i : Int) < 0 := by omega
      have i2 : (i : Int) < 256 := by omega
      generalize lb (beN h) (i / 64) = a at *
      generalize (beN h).testBit i = z at *
      cases z
      · simp only [Bool.false_eq_true, if_false] at hbit
        go_wp2_with fail
        go_quiet (fail)
        go_wp2_with fail
        go_roundw
        case rel => exact ⟨i + 1, by omega, by go_num, Lib.hid ⟨hq.out.1, hq.out.2.1, hq.out.2.2.1, bdN hq.out.2.2.2 _⟩⟩
        case measure => simp [intOf] <;> omega
      · simp only [if_true] at hbit
        go_wp2_with fail
        go_quiet (fail)
        go_wp2_with fail
        go_roundw
        case rel => exact ⟨i + 1, by omega, by go_num, Lib.hid ⟨hq.out.1, hq.out.2.1, hq.out.2.2.1, bdN hq.out.2.2.2 _⟩⟩
        case measure => simp [intOf] <;> omega
    · obtain rfl : i = 256 := by omega
      have hq' := hq.out
      obtain ⟨q1, q2, _, q4⟩ := hq'
      have HB4 := Lib.hid q4
      have hbb : beL 32 (beN h) = h := by rw [← HL.out]; exact beL_beN h
      have L0 : ∀ wx, Below wr.heap.size wr wx → (Instr.loadAt 23 (.pointer (some ⟨w.heap.size, 0, none⟩))).run Try.prog wx = .ok (hv h) wx := fun wx hb => (q1.keep hb).at HL.out
      have L1 : ∀ wx, Below wr.heap.size wr wx → (Instr.loadAt 37 (.pointer (some ⟨w1.heap.size, 0, none⟩))).run Try.prog wx = .ok (.agg (FC 4 (lb (beN h))).toArray) wx := fun wx hb => ldAt4 (q2.keep hb)
      have P1 : ∀ wx, Below wr.heap.size wr wx → Calls Try.prog 25 #[.agg (FC 4 (lb (beN h))).toArray] wx fun e w' => e = .returned (hv h) ∧ Below wx.heap.size wx w' := fun wx _ => by
        have := hash_calls (beN h) wx
        rw [hbb] at this
        exact this
      have P2 : ∀ wx, Below wr.heap.size wr wx → Calls Try.prog 26 #[] wx fun e w' => e = .returned (.bool true) ∧ Below wx.heap.size wx w' := fun wx _ => HA.out wx
      have hE : ∀ wx, (binOp .eql 23 (hv h) (hv h)).run Try.prog wx = .ok (.bool true) wx := fun wx => eqHr HL.out wx
      have hG : ∀ wx a b, (eqGuard .eql 23 a b (hv h) (hv h)).run Try.prog wx = .ok () wx := fun wx a b => eqHg wx a b
      clear q1 q2 q4 hbb hq
      generalize lb (beN h) = f at *
      go_wp2_with fail
      refine wp_region_quiet_below (by kernel_rfl) (by kernel_rfl) ?_
      repeat (first | (refine wpQuiet_load rfl 23 _ rfl _ rfl _ (rg_fact L0) ?_) | (refine wpQuiet_load rfl 37 _ rfl _ rfl _ (rg_fact L1) ?_) | ((refine wpQuiet_call rfl 25 _ ?_ _ (rg_of P1) ?_); focus (intro wx; go_simp; done)) | ((refine wpQuiet_call rfl 26 _ ?_ _ (rg_of P2) ?_); focus (intro wx; go_simp; done)) | (refine wpQuiet_value rfl _ (rg_fact (fun wx hb => run_bin (x := .tmp 30) (y := .tmp 31) (by rfl) (by rfl) (by rfl) (hG wx _ _) (hE wx))) ?_) | go_big_quiet_step (fail) | quiet_step (fail))
      refine wpQuiet_nil ?_
      rintro _ ⟨rp, rfl⟩
      have hb5 := below_regrown wr rp.d rp.os
      generalize Sort.grow (redrawn wr rp.d) rp.os = w5 at *
      have hfin := Lib.hid (below_up HB4.out hb5)
      clear L0 L1 P1 P2 hE hG hb5
      go_wp2_with fail
      go_ret
      exact ⟨rfl, hfin.out⟩
end Go.Proofs.Ytalfgagcfjddcaa.L4
