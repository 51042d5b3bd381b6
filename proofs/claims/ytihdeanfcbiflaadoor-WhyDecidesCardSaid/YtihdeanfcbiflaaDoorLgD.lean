/- The walk of a quotient by a number of 32 bits. -/
import Derived.Test.YtihdeanfcbiflaaDoorLgH
import Derived.Test.YtihdeanfcbiflaaDoorSq
namespace Go.Proofs.YtihdeanfcbiflaaDoor.Lg
open Go.RowKit Go.Proofs.YtihdeanfcbiflaaDoor.Mk Go.Proofs.YtihdeanfcbiflaaDoor.Ul Go.Proofs.YtihdeanfcbiflaaDoor.Wi
theorem upd_ge5 (g : Nat → Nat) (k : Nat) (hk : k < 5) : upd (fun i => if 5 ≤ i + k then g i else 0) (4 - k) (g (4 - k)) = fun i => if 5 ≤ i + (k + 1) then g i else 0 := by
  funext i
  unfold upd
  by_cases h : i = 4 - k
  · subst h
    rw [if_pos rfl, if_pos (by omega)]
  · rw [if_neg h]
    simp only
    by_cases h2 : 5 ≤ i + k
    · rw [if_pos h2, if_pos (by omega)]
    · rw [if_neg h2, if_neg (by omega)]
set_option maxHeartbeats 4000000 in
set_option maxRecDepth 100000 in
theorem div_calls (X y : Nat) (w : World) (hX : X < (2 ^ 64) ^ 5) (hy : 0 < y) (hy2 : y < 4294967296) :
    Calls Tryd.prog 54 #[UV 5 X, .int .u32 y] w fun e w' => e = .returned (.tuple #[UV 5 (X / y), .int .u32 ((X % y : Nat) : Int)]) ∧ Below w.heap.size w w' := by
  have HT := Lib.hid (rm_top (y := y) hX)
  have H0z := Lib.hid (rm_zero X y)
  have hy0 : ((y : Int) == 0) = false := by simp; omega
  have hy1 : (1 : Int) ≤ y := by omega
  clear hX
  unfold UV
  go_enter Tryd.func54, Tryd.ntmps54
  go_wp2_with fail
  rw [zero5]
  generalize hW : World.alloc (World.alloc (World.alloc w _) _) _ = W
  have H0 : Hid (T4 w.heap.size (w.heap.size + 1 + 1) (w.heap.size + 1) (lb X) (fun i => if 5 ≤ i + 0 then lb (X / y) i else 0) w W) := Lib.hid (by
    rw [← hW]
    refine ⟨FB.alloc (nw2 _ _ _) _, FB.alloc (FB.alloc (nw1 _ _) _) _, ?_, bl3 _ _ _ _⟩
    exact FB.ext (f := fun _ => 0) (nw3 _ _ _ _) (fun i hi => by rw [if_neg (by omega)]))
  clear hW
  go_loopw [7, 15] (fun s7 s15 wr => ∃ k : Nat, k ≤ 5 ∧ s15 = .int .i64 k ∧ s7 = .int .u64 (rm X y (5 - k) : Nat) ∧ Hid (T4 w.heap.size (w.heap.size + 1 + 1) (w.heap.size + 1) (lb X) (fun i => if 5 ≤ i + k then lb (X / y) i else 0) w wr)) (fun _ s15 _ => 5 - (intOf s15).toNat)
  case atStart => exact ⟨0, by omega, rfl, by rw [HT.out]; rfl, H0⟩
  case round =>
    obtain ⟨k, hk, rfl, rfl, hq⟩ := hrel
    by_cases hkl : k < 5
    · obtain ⟨h0, h1, h3, h4⟩ := hq.out
      have c1 := h1.cell (i := 4 - k) (by omega)
      have c3 : wr.drew.cell? _ = _ := h3.cell (i := 4 - k) (by omega)
      have z3 : wr.drew.frozen? _ = _ := h3.free (4 - k)
      have HK := Lib.hid (And.intro hq.out hkl)
      clear h0 h1 h3 h4 hq
      have i1 : (0 : Int) ≤ 4 - (k : Int) := by omega
      have i2 : (4 : Int) - (k : Int) < 5 := by omega
      have ha := lb_lt X (4 - k)
      have hst := rm_step (X := X) (m := 4 - k) hy
      have hlt := rm_lt (X := X) (m := 4 - k + 1) hy
      rw [show 5 - k = 4 - k + 1 by omega]
      have HK5 := Lib.hid (show 5 - (k + 1) = 4 - k by omega)
      have E3 := Lib.hid (upd_ge5 (lb (X / y)) k hkl)
      obtain ⟨H, L, bH, bL, e1, e2, e3, e4⟩ := div_halves ha hy hy2 hlt
      rw [← hst.1] at e3
      rw [← hst.2] at e4
      have E5 := Lib.hid e3
      have f1 : (H : Int) % y = ((H % y : Nat) : Int) := by simp
      have f2 : (L : Int) % y = ((L % y : Nat) : Int) := by simp
      have f3 : (H : Int) / y = ((H / y : Nat) : Int) := by simp
      have f4 : (L : Int) / y = ((L / y : Nat) : Int) := by simp
      have hl1 := Nat.mod_lt H hy
      have hq1 : H / y < 4294967296 := by
        have := congrArg Int.toNat e1
        rw [wu64 _ (by omega) (by omega)] at e1
        have hH : H < y * 4294967296 := by
          have ea : ((lb X (4 - k) : Nat) : Int) / 4294967296 = ((lb X (4 - k) / 4294967296 : Nat) : Int) := by omega
          rw [ea, show ((rm X y (4 - k + 1) : Nat) : Int) * 4294967296 = ((rm X y (4 - k + 1) * 4294967296 : Nat) : Int) by omega, u64_or_nat _ _ (by omega) (by omega), nat_join 32 _ _ (by omega) (by omega)] at e1
          have h5 : (rm X y (4 - k + 1) + 1) * 4294967296 ≤ y * 4294967296 := Nat.mul_le_mul_right _ hlt
          omega
        rw [Nat.div_lt_iff_lt_mul hy, Nat.mul_comm]
        exact hH
      have hq2 : L / y < 18446744073709551616 := Nat.lt_of_le_of_lt (Nat.div_le_self _ _) bL
      generalize H / y = q1 at *
      generalize L / y = q2 at *
      have e1' := e1
      rw [wu64 _ (by omega) (by omega)] at e1'
      have e2' := e2
      rw [wu64 _ (by omega) (by omega)] at e2'
      have e4' := e4
      rw [wu64 _ (by omega) (by omega)] at e4'
      clear hst e3
      generalize lb X (4 - k) = a at *
      generalize rm X y (4 - k + 1) = l at *
      generalize H % y = l1 at *
      go_wp2_with fail
      have j1 : IntKind.i64.wrap (4 - (k : Int)) = 4 - (k : Int) := IntWalk.i64_in _ (by omega)
      have j2 : (4 - (k : Int)).toNat = 4 - k := by omega
      have j3 : (k : Int) ≤ 4 := by omega
      have f5 : (H : Int).tdiv y = q1 := by rw [Int.tdiv_eq_ediv_of_nonneg (by omega), f3]
      have f6 : (L : Int).tdiv y = q2 := by rw [Int.tdiv_eq_ediv_of_nonneg (by omega), f4]
      have f7 : IntKind.u64.wrap (q2 : Int) = q2 := wu64 _ (by omega) (by omega)
      have f8 : IntKind.u64.wrap (q1 : Int) = q1 := wu64 _ (by omega) (by omega)
      have HN := Lib.hid (HK.out.1.step (k := 4 - k) (v := lb (X / y) (4 - k)) (by omega) (by omega) (by omega) (by omega) E3.out)
      generalize lb (X / y) (4 - k) = v at *
      go_region
      all_goals
        have HL := Lib.hid f2
        clear c1 c3 z3 j1 j2 j3 f1 f2 f3 f4 f5 f6 f7 f8 hq2 e1 e1' e2 e2' e4 e4' hq1 hl1 hlt i1 i2
        generalize World.setCell wr _ _ = W3 at *
        go_wp2_with fail
        go_roundw
        case rel => exact ⟨k + 1, by have := HK.out.2; omega, by go_num, by rw [HK5.out, ← E5.out, ← HL.out], Lib.hid HN.out.drew⟩
        case measure => simp [intOf] <;> omega
    · obtain rfl : k = 5 := by omega
      obtain ⟨h0, h1, h3, h4⟩ := hq.out
      have K3 := Lib.hid (show FB (w.heap.size + 1 + 1) 5 (lb (X / y)) 26 wr from h3.ext (fun i hi => if_pos (by omega)))
      have K0 := Lib.hid h0
      have K4 := Lib.hid h4
      clear h0 h1 h3 h4 hq
      rw [show 5 - 5 = 0 from rfl, H0z.out]
      have hm := Nat.mod_lt X hy
      have hm2 : X % y < 4294967296 := by omega
      obtain ⟨f, hf⟩ : ∃ f, f = lb (X / y) := ⟨_, rfl⟩
      rw [← hf] at K3
      have Hf := Lib.hid hf
      obtain ⟨m, hmm⟩ : ∃ m, m = X % y := ⟨_, rfl⟩
      rw [← hmm] at hm2 ⊢
      have Hm := Lib.hid hmm
      clear hf hm hmm
      go_wp2_with (first | (refine wpList_load_row (by rfl) 26 (.tmp 6) (by rfl) _ (by rfl) _ _ _ _ K3.out UN5 rfl (IN5 f) ?_) | (refine wpList_store_row (by rfl) 26 _ _ rfl _ (FC 5 f).toArray rfl rfl _ _ K0.out (IN5 f) (SZ5 _ f) (FC_one 5 f) ?_))
      exact bodyPost_ret (res_cell_tmp 4 5 26 _ _ rfl rfl (ld5 K0.out)) rfl ⟨by rw [← Hf.out, ← Hm.out]; rfl, below_setRow K4.out (by omega)⟩
set_option maxHeartbeats 4000000 in
set_option maxRecDepth 100000 in
theorem div0_calls (X : Nat) (w : World) :
    Calls Tryd.prog 54 #[UV 5 X, .int .u32 0] w fun e w' => e = .returned (.tuple #[UV 5 0, .int .u32 0]) ∧ Below w.heap.size w w' := by
  unfold UV
  rw [lb_zero]
  go_enter Tryd.func54, Tryd.ntmps54
  have S0 := Lib.hid (show FB (w.heap.size + 1) 5 (fun _ => 0) 26 (((w.alloc (.cells (FC 5 (lb X)).toArray 26)).alloc (.cells (FC 5 fun _ => 0).toArray 26)).alloc (.cells (FC 5 fun _ => 0).toArray 26)) from FB.alloc (nw2 _ _ _) _)
  have S1 := Lib.hid (show FB (w.heap.size + 1 + 1) 5 (fun _ => 0) 26 (((w.alloc (.cells (FC 5 (lb X)).toArray 26)).alloc (.cells (FC 5 fun _ => 0).toArray 26)).alloc (.cells (FC 5 fun _ => 0).toArray 26)) from nw3 _ _ _ _)
  go_wp2_with (first | (refine wpList_load_row (by rfl) 26 (.tmp 6) (by rfl) _ (by rfl) _ _ _ _ S1.out UN5 rfl (IN5 _) ?_) | (refine wpList_store_row (by rfl) 26 _ _ rfl _ (FC 5 fun _ => 0).toArray rfl rfl _ _ S0.out (IN5 _) (SZ5 _ _) (FC_one 5 _) ?_))
  exact bodyPost_ret (res_cell_tmp 4 5 26 _ _ rfl rfl (ld5 S0.out)) rfl ⟨rfl, below_setRow (bl3 _ _ _ _) (by omega)⟩
end Go.Proofs.YtihdeanfcbiflaaDoor.Lg
