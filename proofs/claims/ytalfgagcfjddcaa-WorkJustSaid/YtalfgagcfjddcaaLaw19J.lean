/- The walks of chapter 19's laws. -/
import Derived.Test.YtalfgagcfjddcaaAw19
namespace Go.Proofs.Ytalfgagcfjddcaa.Wk
open Go.RowKit Go.Proofs.Ytalfgagcfjddcaa.Mk Go.Proofs.Ytalfgagcfjddcaa.Ul Go.Proofs.Ytalfgagcfjddcaa.Wd Go.Proofs.Ytalfgagcfjddcaa.Wi Go.Proofs.Ytalfgagcfjddcaa.R4 Go.Proofs.Ytalfgagcfjddcaa.Hf Go.Proofs.Ytalfgagcfjddcaa.L4
set_option maxHeartbeats 8000000 in
set_option maxRecDepth 100000 in
theorem lawJust_calls (h k : List UInt8) (n : Int) (w : World) (hl : h.length = 32) (kl : k.length = 32) : Calls Try.prog 5 #[hv h, hv k, .int .i64 n] w fun e w' => e = .returned (.bool true) ∧ Below w.heap.size w w' := by
  have S0 := Lib.hid (SQ.new2 w (oH h) (oH k))
  have HL := Lib.hid hl
  have KL := Lib.hid kl
  have A1 := Lib.hid (fun w => level_calls h k w hl kl)
  have A2 := Lib.hid (fun w => ok_calls h k w hl kl)
  have HA := Lib.hid (fun w => awake_calls w)
  have hbd := lvI_bd (beN h) (beN k)
  have hok := okB_lv (beN h) (beN k)
  have HJ := Lib.hid (fun j (hj : j < 256) => okB_just (x := beN h) (t := beN k) hj)
  generalize okB (beN h) (beN k) = b at *
  generalize hlv : lvI (beN h) (beN k) = l at *
  obtain ⟨hb1, hb2⟩ := hbd
  have i1 : ¬ l < -1 := by omega
  have i2 : ¬ 255 < l := by omega
  have i3 : decide (l < -1) = false := decide_eq_false i1
  have i4 : decide (255 < l) = false := decide_eq_false i2
  clear hl kl hlv
  unfold hv
  go_enter Try.func5, Try.ntmps5
  go_wp2_with (first | (refine wpList_load_row (by rfl) 23 (.tmp 3) (by rfl) _ (by rfl) _ _ _ _ S0.out.a1 UH rfl (IHa HL.out) ?_) | (refine wpList_load_row (by rfl) 23 (.tmp 4) (by rfl) _ (by rfl) _ _ _ _ S0.out.a0 UH rfl (IHa KL.out) ?_))
  refine (A1.out _).mono ?_
  rintro e w1 ⟨rfl, hb1⟩
  have S1 := Lib.hid (SQ.keep S0.out hb1)
  clear hb1 S0
  go_wp2_with (first | (refine wpList_loadg (by rfl) 23 (.tmp 3) (by rfl) _ (by rfl) _ (HH.at S1.out.a1 HL.out) ?_) | (refine wpList_loadg (by rfl) 23 (.tmp 4) (by rfl) _ (by rfl) _ (HH.at S1.out.a0 KL.out) ?_))
  refine (A2.out _).mono ?_
  rintro e w2 ⟨rfl, hb2⟩
  have S2 := Lib.hid (S1.out.keep hb2)
  clear hb2 S1
  by_cases hr : 0 ≤ n ∧ n ≤ 255
  · obtain ⟨r1, r2⟩ := hr
    have j1 : ¬ n < 0 := by omega
    have j2 : ¬ 255 < n := by omega
    obtain ⟨m, rfl⟩ := Int.eq_ofNat_of_zero_le r1
    have hj := HJ.out m (by omega)
    have L0 : ∀ wx, Below w2.heap.size w2 wx → (Instr.loadAt 23 (.pointer (some ⟨w.heap.size, 0, none⟩))).run Try.prog wx = .ok (hv h) wx := fun wx hb => HH.at (S2.out.keep hb).a1 HL.out
    have L1 : ∀ wx, Below w2.heap.size w2 wx → (Instr.loadAt 23 (.pointer (some ⟨w.heap.size + 1, 0, none⟩))).run Try.prog wx = .ok (hv k) wx := fun wx hb => HH.at (S2.out.keep hb).a0 KL.out
    have P1 : ∀ wx, Below w2.heap.size w2 wx → Calls Try.prog 20 #[hv k, .int .i64 (m : Int)] wx fun e w' => e = .returned (hv (beL 32 (beN k / 2 ^ m))) ∧ Below wx.heap.size wx w' := fun wx _ => by
      have := most_calls k m wx KL.out
      rwa [shrI_nat] at this
    have P2 : ∀ wx, Below w2.heap.size w2 wx → Calls Try.prog 15 #[hv h, hv (beL 32 (beN k / 2 ^ m))] wx fun e w' => e = .returned (.bool (decide ((m : Int) ≤ l))) ∧ Below wx.heap.size wx w' := fun wx _ => by
      have := ok_calls h (beL 32 (beN k / 2 ^ m)) wx HL.out (beL_len _ _)
      rwa [beN_beL32 (Nat.lt_of_le_of_lt (Nat.div_le_self _ _) ((lim _).1 (beN32 KL.out))), hj] at this
    have P3 : ∀ wx, Below w2.heap.size w2 wx → Calls Try.prog 19 #[] wx fun e w' => e = .returned (.bool true) ∧ Below wx.heap.size wx w' := fun wx _ => HA.out wx
    clear hj
    generalize beL 32 (beN k / 2 ^ m) = y at *
    go_wp2_with fail
    refine wp_region_quiet_below (by kernel_rfl) (by kernel_rfl) ?_
    repeat (first | (refine wpQuiet_load rfl 23 _ rfl _ rfl _ (rg_fact L0) ?_) | (refine wpQuiet_load rfl 23 _ rfl _ rfl _ (rg_fact L1) ?_) | ((refine wpQuiet_call rfl 20 _ ?_ _ (rg_of P1) ?_); focus (intro wx; go_simp; done)) | ((refine wpQuiet_call rfl 15 _ ?_ _ (rg_of P2) ?_); focus (intro wx; go_simp; done)) | ((refine wpQuiet_call rfl 19 _ ?_ _ (rg_of P3) ?_); focus (intro wx; go_simp; done)) | go_big_quiet_step (fail) | quiet_step (fail))
    refine wpQuiet_nil ?_
    rintro _ ⟨rp, rfl⟩
    have hb5 := below_regrown w2 rp.d rp.os
    generalize Sort.grow (redrawn w2 rp.d) rp.os = w5 at *
    have hfin := Lib.hid (S2.out.keep hb5).2
    clear L0 L1 P1 P2 P3 hb5
    go_wp2_with fail
    go_ret
    exact ⟨rfl, hfin.out⟩
  · rcases (by omega : n < 0 ∨ (¬ n < 0 ∧ 255 < n)) with j1 | ⟨j1, j2⟩
    · go_wp2_with fail
      refine (HA.out _).mono ?_
      rintro e w3 ⟨rfl, hb3⟩
      have S3 := Lib.hid (S2.out.keep hb3)
      clear hb3
      go_wp2_with fail
      go_ret
      exact ⟨rfl, S3.out.2⟩
    · go_wp2_with fail
      refine (HA.out _).mono ?_
      rintro e w3 ⟨rfl, hb3⟩
      have S3 := Lib.hid (S2.out.keep hb3)
      clear hb3
      go_wp2_with fail
      go_ret
      exact ⟨rfl, S3.out.2⟩
end Go.Proofs.Ytalfgagcfjddcaa.Wk
