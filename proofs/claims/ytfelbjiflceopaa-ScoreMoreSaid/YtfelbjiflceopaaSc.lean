/- The walks of chapter 41's May and Value, and of the document's. -/
import Derived.Test.YtfelbjiflceopaaScMath
import Derived.Test.YtfelbjiflceopaaLgS
import Derived.Test.YtfelbjiflceopaaLgC
import Derived.Test.YtfelbjiflceopaaR5M
import Derived.Test.YtfelbjiflceopaaStep
namespace Go.Proofs.Ytfelbjiflceopaa.Sc
open Go.RowKit Go.Proofs.Ytfelbjiflceopaa.Mk Go.Proofs.Ytfelbjiflceopaa.Ul Go.Proofs.Ytfelbjiflceopaa.Wi Go.Proofs.Ytfelbjiflceopaa.Lg Go.Proofs.Ytfelbjiflceopaa.Up Go.Proofs.Ytfelbjiflceopaa.R5
theorem ret_bool {a b : Bool} (h : a = b) : Ending.returned (.bool a) = .returned (.bool b) := by rw [h]
theorem ret_i {a b : Int} (h : a = b) : Ending.returned (.int .i64 a) = .returned (.int .i64 b) := by rw [h]
set_option maxHeartbeats 4000000 in
set_option maxRecDepth 100000 in
theorem rcount_calls (v : Value) (zs : List Int) (level : Int) (w : World) (hz : ZS w v zs) :
    Calls Try.prog 43 #[v, .int .i64 level] w fun e w' => e = .returned (.int .i64 (cnt zs level : Nat)) ∧ w' = w := by
  have hbd := hz.len1
  obtain ⟨A, cap, rfl, hlc, hcm, hex⟩ := hz.cell1
  have HX := Lib.hid hex
  clear hex hz
  go_enter Try.func43, Try.ntmps43
  go_wp2_with fail
  go_loop [5, 6] (fun s5 s6 => ∃ k : Nat, k ≤ zs.length ∧ s6 = .int .i64 k ∧ s5 = .int .i64 ((plc zs level k).length : Nat)) (fun _ s6 => zs.length - (intOf s6).toNat)
  case atStart => exact ⟨0, by omega, rfl, by rw [plc_zero]; rfl⟩
  case round =>
    obtain ⟨k, hk, rfl, rfl⟩ := hrel
    have hpl := plc_len zs level k
    by_cases hlt : k < zs.length
    · obtain ⟨b, o, rfl, hx⟩ := HX.out (by omega)
      have c := hx k zs[k] (List.getElem?_eq_getElem hlt)
      have hgd : zs[k]?.getD 0 = zs[k] := by rw [List.getElem?_eq_getElem hlt]; rfl
      unfold zI at c
      by_cases hlv : level ≤ zs[k]?.getD 0
      · have HS := Lib.hid (show (plc zs level (k + 1)).length = (plc zs level k).length + 1 by rw [plc_yes hlv]; simp)
        rw [hgd] at hlv
        clear hx hgd
        generalize zs[k] = z at *
        have t1 : decide (level ≤ z) = true := decide_eq_true hlv
        clear hlv
        generalize (plc zs level k).length = p at *
        go_wp2_with fail
        go_round
        case rel => exact ⟨k + 1, by omega, by go_num, by rw [HS.out]; go_num⟩
        case measure => simp [intOf] <;> omega
      · have HS := Lib.hid (congrArg List.length (plc_no hlv))
        rw [hgd] at hlv
        clear hx hgd
        generalize zs[k] = z at *
        have t1 : decide (level ≤ z) = false := decide_eq_false hlv
        clear hlv
        go_wp2_with fail
        go_round
        case rel => exact ⟨k + 1, by omega, by go_num, by rw [HS.out]⟩
        case measure => simp [intOf] <;> omega
    · obtain rfl : k = zs.length := by omega
      go_wp2_with fail
      go_ret
      exact ⟨rfl, rfl⟩
set_option maxHeartbeats 4000000 in
set_option maxRecDepth 100000 in
theorem may_calls (v : Value) (zs : List Int) (level m : Int) (w : World) (hz : ZS w v zs) :
    Calls Try.prog 15 #[v, .int .i64 level, .int .i64 m] w fun e w' => e = .returned (.bool (mayS zs level m)) ∧ Below w.heap.size w w' := by
  have HC := Lib.hid (show Calls Try.prog _ #[v, .int .i64 level] w fun e w' => e = .returned (.int .i64 (cnt zs level : Nat)) ∧ Below w.heap.size w w' from count_calls v zs level w hz)
  have hm : mayS zs level m = ((level == 0) || (decide (0 < level) && (decide (level ≤ 255) && decide (m ≤ (cnt zs level : Int))))) := rfl
  obtain ⟨A, cap, rfl, _⟩ := hz.cell1
  by_cases h0 : level = 0
  · have HE := Lib.hid (show mayS zs level m = true by rw [hm, h0]; rfl)
    clear hm hz
    have t0 : (level == 0) = true := by simpa using h0
    clear h0
    go_enter Try.func15, Try.ntmps15
    go_wp2_with fail
    go_ret
    exact ⟨ret_bool HE.out.symm, Below.refl _ _⟩
  · have t0 : (level == 0) = false := by simpa using h0
    by_cases h1 : 0 < level
    · have t1 : decide (0 < level) = true := decide_eq_true h1
      by_cases h2 : level ≤ 255
      · have t2 : decide (level ≤ 255) = true := decide_eq_true h2
        have HE := Lib.hid (show mayS zs level m = decide (m ≤ (cnt zs level : Int)) by rw [hm, t0, t1, t2]; rfl)
        clear hm hz h0
        generalize cnt zs level = c at *
        go_enter Try.func15, Try.ntmps15
        go_wp2_with fail
        refine HC.out.mono ?_
        rintro e w1 ⟨rfl, hb1⟩
        have B1 := Lib.hid hb1
        clear hb1
        go_wp2_with fail
        go_ret
        exact ⟨ret_bool HE.out.symm, B1.out⟩
      · have t2 : decide (level ≤ 255) = false := decide_eq_false h2
        have HE := Lib.hid (show mayS zs level m = false by rw [hm, t0, t1, t2]; rfl)
        clear hm hz h0 h2
        go_enter Try.func15, Try.ntmps15
        go_wp2_with fail
        go_ret
        exact ⟨ret_bool HE.out.symm, Below.refl _ _⟩
    · have t1 : decide (0 < level) = false := decide_eq_false h1
      have HE := Lib.hid (show mayS zs level m = false by rw [hm, t0, t1]; rfl)
      clear hm hz h0 h1
      go_enter Try.func15, Try.ntmps15
      go_wp2_with fail
      go_ret
      exact ⟨ret_bool HE.out.symm, Below.refl _ _⟩
set_option maxHeartbeats 4000000 in
set_option maxRecDepth 100000 in
theorem rmay_calls (v : Value) (zs : List Int) (level m : Int) (w : World) (hz : ZS w v zs) :
    Calls Try.prog 16 #[v, .int .i64 level, .int .i64 m] w fun e w' => e = .returned (.bool (mayS zs level m)) ∧ Below w.heap.size w w' := by
  have HC := Lib.hid (show Calls Try.prog _ #[v, .int .i64 level] w fun e w' => e = .returned (.int .i64 (cnt zs level : Nat)) ∧ Below w.heap.size w w' from (rcount_calls v zs level w hz).mono (by rintro e w' ⟨rfl, rfl⟩; exact ⟨rfl, Below.refl _ _⟩))
  have hm : mayS zs level m = ((level == 0) || (decide (0 < level) && (decide (level ≤ 255) && decide (m ≤ (cnt zs level : Int))))) := rfl
  obtain ⟨A, cap, rfl, _⟩ := hz.cell1
  by_cases h0 : level = 0
  · have HE := Lib.hid (show mayS zs level m = true by rw [hm, h0]; rfl)
    clear hm hz
    have t0 : (level == 0) = true := by simpa using h0
    clear h0
    go_enter Try.func16, Try.ntmps16
    go_wp2_with fail
    go_ret
    exact ⟨ret_bool HE.out.symm, Below.refl _ _⟩
  · have t0 : (level == 0) = false := by simpa using h0
    by_cases h1 : 0 < level
    · have t1 : decide (0 < level) = true := decide_eq_true h1
      by_cases h2 : level ≤ 255
      · have t2 : decide (level ≤ 255) = true := decide_eq_true h2
        have HE := Lib.hid (show mayS zs level m = decide (m ≤ (cnt zs level : Int)) by rw [hm, t0, t1, t2]; rfl)
        clear hm hz h0
        generalize cnt zs level = c at *
        go_enter Try.func16, Try.ntmps16
        go_wp2_with fail
        refine HC.out.mono ?_
        rintro e w1 ⟨rfl, hb1⟩
        have B1 := Lib.hid hb1
        clear hb1
        go_wp2_with fail
        go_ret
        exact ⟨ret_bool HE.out.symm, B1.out⟩
      · have t2 : decide (level ≤ 255) = false := decide_eq_false h2
        have HE := Lib.hid (show mayS zs level m = false by rw [hm, t0, t1, t2]; rfl)
        clear hm hz h0 h2
        go_enter Try.func16, Try.ntmps16
        go_wp2_with fail
        go_ret
        exact ⟨ret_bool HE.out.symm, Below.refl _ _⟩
    · have t1 : decide (0 < level) = false := decide_eq_false h1
      have HE := Lib.hid (show mayS zs level m = false by rw [hm, t0, t1]; rfl)
      clear hm hz h0 h1
      go_enter Try.func16, Try.ntmps16
      go_wp2_with fail
      go_ret
      exact ⟨ret_bool HE.out.symm, Below.refl _ _⟩
set_option maxHeartbeats 4000000 in
set_option maxRecDepth 100000 in
theorem value_calls (v : Value) (zs : List Int) (level : Int) (w : World) (hz : ZS w v zs) :
    Calls Try.prog 14 #[v, .int .i64 level] w fun e w' => e = .returned (UV 5 (valS zs level)) ∧ Below w.heap.size w w' := by
  have hbd := hz.len1
  have hcl := cnt_le zs level
  have HC := Lib.hid (fun wx (hx : Below w.heap.size w wx) => count_calls v zs level wx (hz.below hx))
  have hv : valS zs level = if lvl level = true then cnt zs level * 2 ^ level.toNat else 0 := rfl
  obtain ⟨A, cap, rfl, _⟩ := hz.cell1
  have S0 := Lib.hid (SQ.new w (oL fun _ => 0))
  by_cases hl : lvl level = true
  · obtain ⟨u0, u1⟩ := lvl_iff.1 hl
    obtain ⟨u, rfl⟩ := Int.eq_ofNat_of_zero_le u0
    rw [if_pos hl, Int.toNat_natCast] at hv
    have A1 := Lib.hid (fun w => lof_calls (cnt zs u) w (by omega))
    have A3 := (fun w => shl_calls (cnt zs u) (u : Int) w (Nat.lt_of_le_of_lt (Nat.le_trans hcl hbd) (by decide)))
    rw [shlV_nat, LR_yes (val_lt (Nat.le_trans hcl hbd) (by omega))] at A3
    rw [hv]
    have v0 : decide ((u : Int) < 0) = false := decide_eq_false (by omega)
    have v1 : decide (255 < (u : Int)) = false := decide_eq_false (by omega)
    have w1 : IntKind.u64.wrap ((cnt zs u : Nat) : Int) = ((cnt zs u : Nat) : Int) := by rw [IntKind.wrap_u64]; omega
    have A3 := Lib.hid A3
    clear hv hl hz u0 u1
    generalize cnt zs u * 2 ^ u = R at *
    generalize cnt zs u = c at *
    unfold UV at *
    go_enter Try.func14, Try.ntmps14
    go_wp2_with fail
    refine (HC.out _ (bl1 _ _)).mono ?_
    rintro e w2 ⟨rfl, hb2⟩
    have S := Lib.hid (S0.out.keep hb2)
    clear hb2
    go_wp2_with fail
    refine (A1.out _).mono ?_
    rintro e w3 ⟨rfl, hb3⟩
    have S := Lib.hid (S.out.keep hb3)
    clear hb3
    go_wp2_with fail
    refine (A3.out _).mono ?_
    rintro e w4 ⟨rfl, hb4⟩
    have hlt : w.heap.size < w4.heap.size := Nat.lt_of_lt_of_le (Array.getElem?_eq_some_iff.1 S.out.a0).1 hb4.size
    have S := Lib.hid ((S.out.keep hb4).alloc (oL (lb R)))
    clear hb4
    go_wp2_with (first | (refine wpList_store_last rfl 26 _ _ rfl _ (FC 5 (lb R)).toArray rfl rfl (IN5 _) (by rw [FC_size]; rfl) (FC_one _ _) ?_) | (refine wpList_load_row (by rfl) 26 (.tmp 5) (by rfl) _ (by rfl) _ _ _ _ S.out.a0 UN5 rfl (IN5 _) ?_) | (refine wpList_store_row (by rfl) 26 _ _ rfl _ (FC 5 (lb R)).toArray rfl rfl _ _ S.out.a1 (IN5 _) (SZ5 _ _) (FC_one 5 _) ?_))
    exact bodyPost_ret (results_cell 4 26 _ _ rfl rfl (ld5 S.out.a1)) rfl ⟨rfl, below_setRow S.out.2 (Nat.le_refl _)⟩
  · rw [if_neg hl] at hv
    rw [hv]
    have hd : decide (level < 0) = true ∨ (decide (level < 0) = false ∧ decide (255 < level) = true) := by
      simp only [decide_eq_true_eq, decide_eq_false_iff_not]
      rcases Int.lt_or_le level 0 with h | h
      · exact .inl h
      · rcases Int.lt_or_le 255 level with h2 | h2
        · exact .inr ⟨by omega, h2⟩
        · exact absurd (lvl_iff.2 ⟨h, h2⟩) hl
    clear hv hl hz HC
    unfold UV
    rw [lb_zero]
    rcases hd with h | ⟨h0, h⟩
    all_goals
      go_enter Try.func14, Try.ntmps14
      go_wp2_with (first | (refine wpList_value (by rfl) _ (build_L rfl) ?_) | (refine wpList_store_row (by rfl) 26 _ _ rfl _ (FC 5 (fun _ => 0)).toArray rfl rfl _ _ S0.out.a0 (IN5 _) (SZ5 _ _) (FC_one 5 _) ?_))
      exact bodyPost_ret (results_cell 4 26 _ _ rfl rfl (ld5 S0.out.a0)) rfl ⟨rfl, below_setRow S0.out.2 (Nat.le_refl _)⟩
theorem dn64s {y : Nat} (h : y < 18446744073709551616) : dn y ≤ 1000 := Nat.le_trans ((dn_le 4 y).2 (Nat.lt_of_lt_of_le h (by decide))) (by decide)
theorem dnpows {n : Nat} (h : n ≤ 1000) : dn (2 ^ n) ≤ 1000 := by rw [dn_pow]; omega
theorem DV_nil (w : World) : DV w (.slice none 0 0) 0 := by
  have h := SL.nil (E1 (fun d : Nat => Value.int .i64 (d : Int))) 1 w
  unfold DV
  rw [show dl 0 = [] from dl_zero]
  exact h
set_option maxHeartbeats 4000000 in
set_option maxRecDepth 100000 in
theorem rvalue_calls (v : Value) (zs : List Int) (level : Int) (w : World) (hz : ZS w v zs) :
    Calls Try.prog 19 #[v, .int .i64 level] w fun e w' => ∃ r, e = .returned r ∧ DV w' r (valS zs level) ∧ Below w.heap.size w w' := by
  have hbd := hz.len1
  have hcl := cnt_le zs level
  have HC := Lib.hid (rcount_calls v zs level w hz)
  have hv : valS zs level = if lvl level = true then cnt zs level * 2 ^ level.toNat else 0 := rfl
  obtain ⟨A, cap, rfl, _⟩ := hz.cell1
  by_cases hl : lvl level = true
  · obtain ⟨u0, u1⟩ := lvl_iff.1 hl
    obtain ⟨u, rfl⟩ := Int.eq_ofNat_of_zero_le u0
    rw [if_pos hl, Int.toNat_natCast] at hv
    have A1 := Lib.hid (fun w => r5of_calls (cnt zs u) w (by omega))
    have A2 := Lib.hid (fun w => r5pow_calls u w (by omega))
    have A3 := Lib.hid (fun v1 v2 w h1 h2 => r5mul_calls (cnt zs u) (2 ^ u) v1 v2 w h1 h2 (dn64s (by omega)) (dnpows (by omega)))
    rw [hv]
    have v0 : decide ((u : Int) < 0) = false := decide_eq_false (by omega)
    have v1 : decide (255 < (u : Int)) = false := decide_eq_false (by omega)
    have w1 : IntKind.u64.wrap ((cnt zs u : Nat) : Int) = ((cnt zs u : Nat) : Int) := by rw [IntKind.wrap_u64]; omega
    clear hv hl hz u0 u1
    generalize cnt zs u * 2 ^ u = R at *
    generalize 2 ^ u = U at *
    generalize cnt zs u = c at *
    go_enter Try.func19, Try.ntmps19
    go_wp2_with fail
    refine HC.out.mono ?_
    rintro e w2 ⟨rfl, rfl⟩
    go_wp2_with fail
    refine (A1.out _).mono ?_
    rintro e w3 ⟨x3, rfl, d3, hb3⟩
    have D3 := Lib.hid d3
    have S := Lib.hid ((SQ.nil _).keep hb3)
    clear hb3 d3
    go_wp2_with fail
    refine (A2.out _).mono ?_
    rintro e w4 ⟨x4, rfl, d4, hb4⟩
    have D4 := Lib.hid d4
    have D3 := Lib.hid (D3.out.below hb4)
    have S := Lib.hid (S.out.keep hb4)
    clear hb4 d4
    go_wp2_with fail
    refine (A3.out _ _ _ D3.out D4.out).mono ?_
    rintro e w5 ⟨x5, rfl, d5, hb5⟩
    have D5 := Lib.hid d5
    have S := Lib.hid (S.out.keep hb5)
    clear hb5 d5
    go_wp2_with fail
    go_ret
    exact ⟨_, rfl, D5.out, S.out.2⟩
  · rw [if_neg hl] at hv
    rw [hv]
    have hd : decide (level < 0) = true ∨ (decide (level < 0) = false ∧ decide (255 < level) = true) := by
      simp only [decide_eq_true_eq, decide_eq_false_iff_not]
      rcases Int.lt_or_le level 0 with h | h
      · exact .inl h
      · rcases Int.lt_or_le 255 level with h2 | h2
        · exact .inr ⟨by omega, h2⟩
        · exact absurd (lvl_iff.2 ⟨h, h2⟩) hl
    clear hv hl hz HC
    rcases hd with h | ⟨h0, h⟩
    all_goals
      go_enter Try.func19, Try.ntmps19
      go_wp2_with fail
      go_ret
      exact ⟨_, rfl, DV_nil _, Below.refl _ _⟩
end Go.Proofs.Ytfelbjiflceopaa.Sc
