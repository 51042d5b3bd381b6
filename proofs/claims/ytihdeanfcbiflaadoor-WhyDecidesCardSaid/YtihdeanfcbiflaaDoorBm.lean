import Derived.Test.YtihdeanfcbiflaaDoorLgMath
import Derived.Test.YtihdeanfcbiflaaDoorUp
import Derived.Test.YtihdeanfcbiflaaDoorLgS
import Derived.Test.YtihdeanfcbiflaaDoorLgC
import Derived.Test.YtihdeanfcbiflaaDoorBk
import Derived.Test.YtihdeanfcbiflaaDoorStep
import Derived.Test.YtihdeanfcbiflaaDoorWhMath
import Derived.Test.YtihdeanfcbiflaaDoorWhV
import Derived.Test.YtihdeanfcbiflaaDoorStepB
import Derived.Deep.AppendLies
import Derived.Test.YtihdeanfcbiflaaDoorBj
import Derived.Deep.RegionHeld3
import Derived.Deep.DeepCutAuto
/- Plain laws of chapter 41: what is argued by a level, and the best argument. No condition. -/
namespace Go.Proofs.YtihdeanfcbiflaaDoor.Sc
open Go.RowKit Go.Proofs.YtihdeanfcbiflaaDoor.Mk Go.Proofs.YtihdeanfcbiflaaDoor.Ul Go.Proofs.YtihdeanfcbiflaaDoor.Wi Go.Proofs.YtihdeanfcbiflaaDoor.Lg Go.Proofs.YtihdeanfcbiflaaDoor.Up
def lvl (l : Int) : Bool := decide (0 ≤ l ∧ l ≤ 255)
theorem lvl_iff {l : Int} : lvl l = true ↔ 0 ≤ l ∧ l ≤ 255 := decide_eq_true_iff
def valS (zs : List Int) (l : Int) : Nat := if lvl l = true then cnt zs l * 2 ^ l.toNat else 0
def mayS (zs : List Int) (l m : Int) : Bool := (l == 0) || (decide (0 < l) && (decide (l ≤ 255) && decide (m ≤ (cnt zs l : Int))))
theorem val_lt {c u : Nat} (hc : c ≤ 140737488355328) (hu : u ≤ 255) : c * 2 ^ u < (2 ^ 64) ^ 5 := by
  have h2 : 2 ^ u ≤ 2 ^ 255 := Nat.pow_le_pow_right (by decide) hu
  exact Nat.lt_of_le_of_lt (Nat.mul_le_mul hc h2) (by decide)
theorem valS_lt {zs : List Int} (l : Int) (h : zs.length ≤ 140737488355328) : valS zs l < (2 ^ 64) ^ 5 := by
  unfold valS
  split
  · rename_i hl
    have := lvl_iff.1 hl
    exact val_lt (Nat.le_trans (cnt_le zs l) h) (by omega)
  · exact Nat.pow_pos (by decide)
/-- the best of the first k levels -/
def bst (zs : List Int) (m : Int) : Nat → Nat × Nat
  | 0 => (0, 0)
  | k + 1 => if mayS zs k m = true ∧ (bst zs m k).1 < valS zs k then (valS zs k, k) else bst zs m k
theorem bst_lt {zs : List Int} (m : Int) (h : zs.length ≤ 140737488355328) : ∀ k, (bst zs m k).1 < (2 ^ 64) ^ 5
  | 0 => Nat.pow_pos (by decide)
  | k + 1 => by
    unfold bst
    split
    · exact valS_lt k h
    · exact bst_lt m h k
theorem bst_lv (zs : List Int) (m : Int) : ∀ k, (bst zs m k).2 ≤ k
  | 0 => Nat.le_refl _
  | k + 1 => by
    unfold bst
    split
    · exact Nat.le_succ _
    · exact Nat.le_succ_of_le (bst_lv zs m k)
/-- no level ahead argues more -/
theorem bst_ge {zs : List Int} {m : Int} : ∀ {k l : Nat}, l < k → mayS zs l m = true → valS zs l ≤ (bst zs m k).1
  | k + 1, l, h, hm => by
    unfold bst
    by_cases e : l = k
    · subst e
      split
      · exact Nat.le_refl _
      · rename_i hn
        have : ¬ (bst zs m l).1 < valS zs l := fun x => hn ⟨hm, x⟩
        omega
    · have ih := bst_ge (k := k) (l := l) (by omega) hm
      split
      · rename_i hy
        omega
      · exact ih
/-- the best is nothing, or what some level argues -/
theorem bst_is (zs : List Int) (m : Int) : ∀ k, (bst zs m k).1 = 0 ∨ ∃ l, l < k ∧ mayS zs l m = true ∧ (bst zs m k).1 = valS zs l
  | 0 => .inl rfl
  | k + 1 => by
    unfold bst
    split
    · rename_i hy
      exact .inr ⟨k, by omega, hy.1, rfl⟩
    · rcases bst_is zs m k with h | ⟨l, h1, h2, h3⟩
      · exact .inl h
      · exact .inr ⟨l, by omega, h2, h3⟩
theorem plc_append (xs ys : List Int) (l : Int) : cnt xs l ≤ cnt (xs ++ ys) l := by
  unfold cnt
  have e : plc xs l xs.length = plc (xs ++ ys) l xs.length := by
    unfold plc
    apply List.filter_congr
    intro i hi
    rw [List.getElem?_append_left (List.mem_range.1 hi)]
  rw [e]
  exact (plc_pre _ _ (by simp)).length_le
theorem mayS_append {xs ys : List Int} {l m : Int} (h : mayS xs l m = true) : mayS (xs ++ ys) l m = true := by
  have := plc_append xs ys l
  unfold mayS at *
  simp only [Bool.or_eq_true, Bool.and_eq_true, decide_eq_true_eq, beq_iff_eq] at *
  rcases h with h | h
  · exact .inl h
  · exact .inr ⟨h.1, h.2.1, by omega⟩
theorem mayS_anti {xs : List Int} {l m m' : Int} (hm : m ≤ m') (h : mayS xs l m' = true) : mayS xs l m = true := by
  unfold mayS at *
  simp only [Bool.or_eq_true, Bool.and_eq_true, decide_eq_true_eq, beq_iff_eq] at *
  rcases h with h | h
  · exact .inl h
  · exact .inr ⟨h.1, h.2.1, by omega⟩
theorem valS_append (xs ys : List Int) (l : Int) : valS xs l ≤ valS (xs ++ ys) l := by
  unfold valS
  split
  · exact Nat.mul_le_mul_right _ (plc_append xs ys l)
  · exact Nat.le_refl _
theorem best_append (xs ys : List Int) (m : Int) (k : Nat) : (bst xs m k).1 ≤ (bst (xs ++ ys) m k).1 := by
  rcases bst_is xs m k with h | ⟨l, h1, h2, h3⟩
  · omega
  · rw [h3]
    exact Nat.le_trans (valS_append xs ys l) (bst_ge h1 (mayS_append h2))
theorem best_anti {xs : List Int} {m m' : Int} (hm : m ≤ m') (k : Nat) : (bst xs m' k).1 ≤ (bst xs m k).1 := by
  rcases bst_is xs m' k with h | ⟨l, h1, h2, h3⟩
  · omega
  · rw [h3]
    exact bst_ge h1 (mayS_anti hm h2)
theorem may_lvl {zs : List Int} {l m : Int} (h : mayS zs l m = true) : 0 ≤ l ∧ l ≤ 255 := by
  unfold mayS at h
  simp only [Bool.or_eq_true, Bool.and_eq_true, decide_eq_true_eq, beq_iff_eq] at h
  rcases h with h | h
  · omega
  · omega
theorem best_may {zs : List Int} {l m : Int} (h : mayS zs l m = true) : valS zs l ≤ (bst zs m 256).1 := by
  have := may_lvl h
  obtain ⟨k, rfl⟩ := Int.eq_ofNat_of_zero_le this.1
  exact bst_ge (by omega) h
end Go.Proofs.YtihdeanfcbiflaaDoor.Sc

/- The walks of chapter 41's May and Value, and of the document's. -/
namespace Go.Proofs.YtihdeanfcbiflaaDoor.Sc
open Go.RowKit Go.Proofs.YtihdeanfcbiflaaDoor.Mk Go.Proofs.YtihdeanfcbiflaaDoor.Ul Go.Proofs.YtihdeanfcbiflaaDoor.Wi Go.Proofs.YtihdeanfcbiflaaDoor.Lg Go.Proofs.YtihdeanfcbiflaaDoor.Up Go.Proofs.YtihdeanfcbiflaaDoor.R5
theorem ret_bool {a b : Bool} (h : a = b) : Ending.returned (.bool a) = .returned (.bool b) := by rw [h]
theorem ret_i {a b : Int} (h : a = b) : Ending.returned (.int .i64 a) = .returned (.int .i64 b) := by rw [h]
set_option maxHeartbeats 4000000 in
set_option maxRecDepth 100000 in
theorem rcount_calls (v : Value) (zs : List Int) (level : Int) (w : World) (hz : ZS w v zs) :
    Calls Tryd.prog 32 #[v, .int .i64 level] w fun e w' => e = .returned (.int .i64 (cnt zs level : Nat)) ∧ w' = w := by
  have hbd := hz.len1
  obtain ⟨A, cap, rfl, hlc, hcm, hex⟩ := hz.cell1
  have HX := Lib.hid hex
  clear hex hz
  go_enter Tryd.func32, Tryd.ntmps32
  go_wp2_with fail
  go_loop [5, 6] (fun s5 s6 => ∃ k : Nat, k ≤ zs.length ∧ s6 = .int .i64 k ∧ s5 = .int .i64 ((plc zs level k).length : Nat)) (fun _ s6 => zs.length - (intOf s6).toNat)
  case atStart => exact ⟨0, by omega, rfl, by rw [plc_zero]; rfl⟩
  case round =>
    obtain ⟨k, hk, rfl, rfl⟩ := hrel
    have hpl := plc_len zs level k
    by_cases hlt : k < zs.length
    · obtain ⟨b, o, rfl, hx⟩ := HX.out (by omega)
      have c := hx k zs[k] (List.getElem?_eq_getElem hlt)
      have hgd : zs[k]?.getD 0 = zs[k] := by rw [List.getElem?_eq_getElem hlt]; rfl
      unfold zI at c
      by_cases hlv : level ≤ zs[k]?.getD 0
      · have HS := Lib.hid (show (plc zs level (k + 1)).length = (plc zs level k).length + 1 by rw [plc_yes hlv]; simp)
        rw [hgd] at hlv
        clear hx hgd
        generalize zs[k] = z at *
        have t1 : decide (level ≤ z) = true := decide_eq_true hlv
        clear hlv
        generalize (plc zs level k).length = p at *
        go_wp2_with fail
        go_round
        case rel => exact ⟨k + 1, by omega, by go_num, by rw [HS.out]; go_num⟩
        case measure => simp [intOf] <;> omega
      · have HS := Lib.hid (congrArg List.length (plc_no hlv))
        rw [hgd] at hlv
        clear hx hgd
        generalize zs[k] = z at *
        have t1 : decide (level ≤ z) = false := decide_eq_false hlv
        clear hlv
        go_wp2_with fail
        go_round
        case rel => exact ⟨k + 1, by omega, by go_num, by rw [HS.out]⟩
        case measure => simp [intOf] <;> omega
    · obtain rfl : k = zs.length := by omega
      go_wp2_with fail
      go_ret
      exact ⟨rfl, rfl⟩
set_option maxHeartbeats 4000000 in
set_option maxRecDepth 100000 in
theorem may_calls (v : Value) (zs : List Int) (level m : Int) (w : World) (hz : ZS w v zs) :
    Calls Tryd.prog 48 #[v, .int .i64 level, .int .i64 m] w fun e w' => e = .returned (.bool (mayS zs level m)) ∧ Below w.heap.size w w' := by
  have HC := Lib.hid (show Calls Tryd.prog _ #[v, .int .i64 level] w fun e w' => e = .returned (.int .i64 (cnt zs level : Nat)) ∧ Below w.heap.size w w' from count_calls v zs level w hz)
  have hm : mayS zs level m = ((level == 0) || (decide (0 < level) && (decide (level ≤ 255) && decide (m ≤ (cnt zs level : Int))))) := rfl
  obtain ⟨A, cap, rfl, _⟩ := hz.cell1
  by_cases h0 : level = 0
  · have HE := Lib.hid (show mayS zs level m = true by rw [hm, h0]; rfl)
    clear hm hz
    have t0 : (level == 0) = true := by simpa using h0
    clear h0
    go_enter Tryd.func48, Tryd.ntmps48
    go_wp2_with fail
    go_ret
    exact ⟨ret_bool HE.out.symm, Below.refl _ _⟩
  · have t0 : (level == 0) = false := by simpa using h0
    by_cases h1 : 0 < level
    · have t1 : decide (0 < level) = true := decide_eq_true h1
      by_cases h2 : level ≤ 255
      · have t2 : decide (level ≤ 255) = true := decide_eq_true h2
        have HE := Lib.hid (show mayS zs level m = decide (m ≤ (cnt zs level : Int)) by rw [hm, t0, t1, t2]; rfl)
        clear hm hz h0
        generalize cnt zs level = c at *
        go_enter Tryd.func48, Tryd.ntmps48
        go_wp2_with fail
        refine HC.out.mono ?_
        rintro e w1 ⟨rfl, hb1⟩
        have B1 := Lib.hid hb1
        clear hb1
        go_wp2_with fail
        go_ret
        exact ⟨ret_bool HE.out.symm, B1.out⟩
      · have t2 : decide (level ≤ 255) = false := decide_eq_false h2
        have HE := Lib.hid (show mayS zs level m = false by rw [hm, t0, t1, t2]; rfl)
        clear hm hz h0 h2
        go_enter Tryd.func48, Tryd.ntmps48
        go_wp2_with fail
        go_ret
        exact ⟨ret_bool HE.out.symm, Below.refl _ _⟩
    · have t1 : decide (0 < level) = false := decide_eq_false h1
      have HE := Lib.hid (show mayS zs level m = false by rw [hm, t0, t1]; rfl)
      clear hm hz h0 h1
      go_enter Tryd.func48, Tryd.ntmps48
      go_wp2_with fail
      go_ret
      exact ⟨ret_bool HE.out.symm, Below.refl _ _⟩
set_option maxHeartbeats 4000000 in
set_option maxRecDepth 100000 in
theorem rmay_calls (v : Value) (zs : List Int) (level m : Int) (w : World) (hz : ZS w v zs) :
    Calls Tryd.prog 33 #[v, .int .i64 level, .int .i64 m] w fun e w' => e = .returned (.bool (mayS zs level m)) ∧ Below w.heap.size w w' := by
  have HC := Lib.hid (show Calls Tryd.prog _ #[v, .int .i64 level] w fun e w' => e = .returned (.int .i64 (cnt zs level : Nat)) ∧ Below w.heap.size w w' from (rcount_calls v zs level w hz).mono (by rintro e w' ⟨rfl, rfl⟩; exact ⟨rfl, Below.refl _ _⟩))
  have hm : mayS zs level m = ((level == 0) || (decide (0 < level) && (decide (level ≤ 255) && decide (m ≤ (cnt zs level : Int))))) := rfl
  obtain ⟨A, cap, rfl, _⟩ := hz.cell1
  by_cases h0 : level = 0
  · have HE := Lib.hid (show mayS zs level m = true by rw [hm, h0]; rfl)
    clear hm hz
    have t0 : (level == 0) = true := by simpa using h0
    clear h0
    go_enter Tryd.func33, Tryd.ntmps33
    go_wp2_with fail
    go_ret
    exact ⟨ret_bool HE.out.symm, Below.refl _ _⟩
  · have t0 : (level == 0) = false := by simpa using h0
    by_cases h1 : 0 < level
    · have t1 : decide (0 < level) = true := decide_eq_true h1
      by_cases h2 : level ≤ 255
      · have t2 : decide (level ≤ 255) = true := decide_eq_true h2
        have HE := Lib.hid (show mayS zs level m = decide (m ≤ (cnt zs level : Int)) by rw [hm, t0, t1, t2]; rfl)
        clear hm hz h0
        generalize cnt zs level = c at *
        go_enter Tryd.func33, Tryd.ntmps33
        go_wp2_with fail
        refine HC.out.mono ?_
        rintro e w1 ⟨rfl, hb1⟩
        have B1 := Lib.hid hb1
        clear hb1
        go_wp2_with fail
        go_ret
        exact ⟨ret_bool HE.out.symm, B1.out⟩
      · have t2 : decide (level ≤ 255) = false := decide_eq_false h2
        have HE := Lib.hid (show mayS zs level m = false by rw [hm, t0, t1, t2]; rfl)
        clear hm hz h0 h2
        go_enter Tryd.func33, Tryd.ntmps33
        go_wp2_with fail
        go_ret
        exact ⟨ret_bool HE.out.symm, Below.refl _ _⟩
    · have t1 : decide (0 < level) = false := decide_eq_false h1
      have HE := Lib.hid (show mayS zs level m = false by rw [hm, t0, t1]; rfl)
      clear hm hz h0 h1
      go_enter Tryd.func33, Tryd.ntmps33
      go_wp2_with fail
      go_ret
      exact ⟨ret_bool HE.out.symm, Below.refl _ _⟩
set_option maxHeartbeats 4000000 in
set_option maxRecDepth 100000 in
theorem value_calls (v : Value) (zs : List Int) (level : Int) (w : World) (hz : ZS w v zs) :
    Calls Tryd.prog 49 #[v, .int .i64 level] w fun e w' => e = .returned (UV 5 (valS zs level)) ∧ Below w.heap.size w w' := by
  have hbd := hz.len1
  have hcl := cnt_le zs level
  have HC := Lib.hid (fun wx (hx : Below w.heap.size w wx) => count_calls v zs level wx (hz.below hx))
  have hv : valS zs level = if lvl level = true then cnt zs level * 2 ^ level.toNat else 0 := rfl
  obtain ⟨A, cap, rfl, _⟩ := hz.cell1
  have S0 := Lib.hid (SQ.new w (oL fun _ => 0))
  by_cases hl : lvl level = true
  · obtain ⟨u0, u1⟩ := lvl_iff.1 hl
    obtain ⟨u, rfl⟩ := Int.eq_ofNat_of_zero_le u0
    rw [if_pos hl, Int.toNat_natCast] at hv
    have A1 := Lib.hid (fun w => lof_calls (cnt zs u) w (by omega))
    have A3 := (fun w => shl_calls (cnt zs u) (u : Int) w (Nat.lt_of_le_of_lt (Nat.le_trans hcl hbd) (by decide)))
    rw [shlV_nat, LR_yes (val_lt (Nat.le_trans hcl hbd) (by omega))] at A3
    rw [hv]
    have v0 : decide ((u : Int) < 0) = false := decide_eq_false (by omega)
    have v1 : decide (255 < (u : Int)) = false := decide_eq_false (by omega)
    have w1 : IntKind.u64.wrap ((cnt zs u : Nat) : Int) = ((cnt zs u : Nat) : Int) := by rw [IntKind.wrap_u64]; omega
    have A3 := Lib.hid A3
    clear hv hl hz u0 u1
    generalize cnt zs u * 2 ^ u = R at *
    generalize cnt zs u = c at *
    unfold UV at *
    go_enter Tryd.func49, Tryd.ntmps49
    go_wp2_with fail
    refine (HC.out _ (bl1 _ _)).mono ?_
    rintro e w2 ⟨rfl, hb2⟩
    have S := Lib.hid (S0.out.keep hb2)
    clear hb2
    go_wp2_with fail
    refine (A1.out _).mono ?_
    rintro e w3 ⟨rfl, hb3⟩
    have S := Lib.hid (S.out.keep hb3)
    clear hb3
    go_wp2_with fail
    refine (A3.out _).mono ?_
    rintro e w4 ⟨rfl, hb4⟩
    have hlt : w.heap.size < w4.heap.size := Nat.lt_of_lt_of_le (Array.getElem?_eq_some_iff.1 S.out.a0).1 hb4.size
    have S := Lib.hid ((S.out.keep hb4).alloc (oL (lb R)))
    clear hb4
    go_wp2_with (first | (refine wpList_store_last rfl 26 _ _ rfl _ (FC 5 (lb R)).toArray rfl rfl (IN5 _) (by rw [FC_size]; rfl) (FC_one _ _) ?_) | (refine wpList_load_row (by rfl) 26 (.tmp 5) (by rfl) _ (by rfl) _ _ _ _ S.out.a0 UN5 rfl (IN5 _) ?_) | (refine wpList_store_row (by rfl) 26 _ _ rfl _ (FC 5 (lb R)).toArray rfl rfl _ _ S.out.a1 (IN5 _) (SZ5 _ _) (FC_one 5 _) ?_))
    exact bodyPost_ret (results_cell 4 26 _ _ rfl rfl (ld5 S.out.a1)) rfl ⟨rfl, below_setRow S.out.2 (Nat.le_refl _)⟩
  · rw [if_neg hl] at hv
    rw [hv]
    have hd : decide (level < 0) = true ∨ (decide (level < 0) = false ∧ decide (255 < level) = true) := by
      simp only [decide_eq_true_eq, decide_eq_false_iff_not]
      rcases Int.lt_or_le level 0 with h | h
      · exact .inl h
      · rcases Int.lt_or_le 255 level with h2 | h2
        · exact .inr ⟨by omega, h2⟩
        · exact absurd (lvl_iff.2 ⟨h, h2⟩) hl
    clear hv hl hz HC
    unfold UV
    rw [lb_zero]
    rcases hd with h | ⟨h0, h⟩
    all_goals
      go_enter Tryd.func49, Tryd.ntmps49
      go_wp2_with (first | (refine wpList_value (by rfl) _ (build_L rfl) ?_) | (refine wpList_store_row (by rfl) 26 _ _ rfl _ (FC 5 (fun _ => 0)).toArray rfl rfl _ _ S0.out.a0 (IN5 _) (SZ5 _ _) (FC_one 5 _) ?_))
      exact bodyPost_ret (results_cell 4 26 _ _ rfl rfl (ld5 S0.out.a0)) rfl ⟨rfl, below_setRow S0.out.2 (Nat.le_refl _)⟩
theorem dn64s {y : Nat} (h : y < 18446744073709551616) : dn y ≤ 1000 := Nat.le_trans ((dn_le 4 y).2 (Nat.lt_of_lt_of_le h (by decide))) (by decide)
theorem dnpows {n : Nat} (h : n ≤ 1000) : dn (2 ^ n) ≤ 1000 := by rw [dn_pow]; omega
theorem DV_nil (w : World) : DV w (.slice none 0 0) 0 := by
  have h := SL.nil (E1 (fun d : Nat => Value.int .i64 (d : Int))) 1 w
  unfold DV
  rw [show dl 0 = [] from dl_zero]
  exact h
set_option maxHeartbeats 4000000 in
set_option maxRecDepth 100000 in
theorem rvalue_calls (v : Value) (zs : List Int) (level : Int) (w : World) (hz : ZS w v zs) :
    Calls Tryd.prog 35 #[v, .int .i64 level] w fun e w' => ∃ r, e = .returned r ∧ DV w' r (valS zs level) ∧ Below w.heap.size w w' := by
  have hbd := hz.len1
  have hcl := cnt_le zs level
  have HC := Lib.hid (rcount_calls v zs level w hz)
  have hv : valS zs level = if lvl level = true then cnt zs level * 2 ^ level.toNat else 0 := rfl
  obtain ⟨A, cap, rfl, _⟩ := hz.cell1
  by_cases hl : lvl level = true
  · obtain ⟨u0, u1⟩ := lvl_iff.1 hl
    obtain ⟨u, rfl⟩ := Int.eq_ofNat_of_zero_le u0
    rw [if_pos hl, Int.toNat_natCast] at hv
    have A1 := Lib.hid (fun w => r5of_calls (cnt zs u) w (by omega))
    have A2 := Lib.hid (fun w => r5pow_calls u w (by omega))
    have A3 := Lib.hid (fun v1 v2 w h1 h2 => r5mul_calls (cnt zs u) (2 ^ u) v1 v2 w h1 h2 (dn64s (by omega)) (dnpows (by omega)))
    rw [hv]
    have v0 : decide ((u : Int) < 0) = false := decide_eq_false (by omega)
    have v1 : decide (255 < (u : Int)) = false := decide_eq_false (by omega)
    have w1 : IntKind.u64.wrap ((cnt zs u : Nat) : Int) = ((cnt zs u : Nat) : Int) := by rw [IntKind.wrap_u64]; omega
    clear hv hl hz u0 u1
    generalize cnt zs u * 2 ^ u = R at *
    generalize 2 ^ u = U at *
    generalize cnt zs u = c at *
    go_enter Tryd.func35, Tryd.ntmps35
    go_wp2_with fail
    refine HC.out.mono ?_
    rintro e w2 ⟨rfl, rfl⟩
    go_wp2_with fail
    refine (A1.out _).mono ?_
    rintro e w3 ⟨x3, rfl, d3, hb3⟩
    have D3 := Lib.hid d3
    have S := Lib.hid ((SQ.nil _).keep hb3)
    clear hb3 d3
    go_wp2_with fail
    refine (A2.out _).mono ?_
    rintro e w4 ⟨x4, rfl, d4, hb4⟩
    have D4 := Lib.hid d4
    have D3 := Lib.hid (D3.out.below hb4)
    have S := Lib.hid (S.out.keep hb4)
    clear hb4 d4
    go_wp2_with fail
    refine (A3.out _ _ _ D3.out D4.out).mono ?_
    rintro e w5 ⟨x5, rfl, d5, hb5⟩
    have D5 := Lib.hid d5
    have S := Lib.hid (S.out.keep hb5)
    clear hb5 d5
    go_wp2_with fail
    go_ret
    exact ⟨_, rfl, D5.out, S.out.2⟩
  · rw [if_neg hl] at hv
    rw [hv]
    have hd : decide (level < 0) = true ∨ (decide (level < 0) = false ∧ decide (255 < level) = true) := by
      simp only [decide_eq_true_eq, decide_eq_false_iff_not]
      rcases Int.lt_or_le level 0 with h | h
      · exact .inl h
      · rcases Int.lt_or_le 255 level with h2 | h2
        · exact .inr ⟨by omega, h2⟩
        · exact absurd (lvl_iff.2 ⟨h, h2⟩) hl
    clear hv hl hz HC
    rcases hd with h | ⟨h0, h⟩
    all_goals
      go_enter Tryd.func35, Tryd.ntmps35
      go_wp2_with fail
      go_ret
      exact ⟨_, rfl, DV_nil _, Below.refl _ _⟩
end Go.Proofs.YtihdeanfcbiflaaDoor.Sc

/- The walk of chapter 43's high. -/
namespace Go.Proofs.YtihdeanfcbiflaaDoor.Wh
open Go.RowKit Go.Proofs.YtihdeanfcbiflaaDoor.Mk Go.Proofs.YtihdeanfcbiflaaDoor.Ul Go.Proofs.YtihdeanfcbiflaaDoor.Wi Go.Proofs.YtihdeanfcbiflaaDoor.Lg Go.Proofs.YtihdeanfcbiflaaDoor.Up
/-- the greatest of them, and of t -/
def mx (zs : List Int) (t : Int) : Int := zs.foldl max t
theorem mx_app (xs ys : List Int) (t : Int) : mx (xs ++ ys) t = mx ys (mx xs t) := by
  unfold mx
  rw [List.foldl_append]
def mxk (xs ys : List Int) : Nat → Int
  | 0 => -1
  | 1 => mx xs (-1)
  | _ => mx ys (mx xs (-1))
theorem int_bd {w : World} {v : Value} {zs : List Int} (h : ZS w v zs) : zs.length ≤ 140737488355328 := h.len1
theorem mx_step (zs : List Int) (j : Nat) (t : Int) (h : j < zs.length) : mx (zs.take (j + 1)) t = max (mx (zs.take j) t) zs[j] := by
  rw [List.take_succ_eq_append_getElem h, mx_app]
  rfl
set_option maxHeartbeats 8000000 in
set_option maxRecDepth 100000 in
theorem high_calls (g : Nat) (v1 v2 : Value) (xs ys : List Int) (w : World) (hg : w.cell? ⟨g, 0, none⟩ = some v1 ∧ w.cell? ⟨g, 1, none⟩ = some v2) (h1 : ZS w v1 xs) (h2 : ZS w v2 ys) :
    Calls Tryd.prog 29 #[.slice (some ⟨g, 0, none⟩) 2 2] w fun e w' => e = .returned (.int .i64 (min (mx ys (mx xs (-1))) 255)) ∧ w' = w := by
  have hb1 := h1.len1
  have hb2 := h2.len1
  obtain ⟨A1, k1, rfl, hlc1, hcm1, hx1⟩ := h1.cell1
  obtain ⟨A2, k2, rfl, hlc2, hcm2, hx2⟩ := h2.cell1
  have HX := Lib.hid (And.intro hx1 hx2)
  obtain ⟨c0, c1⟩ := hg
  clear hx1 hx2 h1 h2
  go_enter Tryd.func29, Tryd.ntmps29
  go_wp2_with fail
  go_loopw [3, 10] (fun s3 s10 wr => ∃ (k : Nat), s10 = .int .i64 (k : Int) ∧ k ≤ 2 ∧ s3 = .int .i64 (mxk xs ys k) ∧ w = wr) (fun _ s10 _ => 2 - (intOf s10).toNat)
  case atStart => exact ⟨0, rfl, by omega, rfl, rfl⟩
  case round =>
    obtain ⟨k, rfl, hk, rfl, rfl⟩ := hrel
    have hk3 : k = 0 ∨ k = 1 ∨ k = 2 := by omega
    rcases hk3 with rfl | rfl | rfl
    · go_wp2_with fail
      go_loopw [3, 16] (fun s3 s16 wr => ∃ (j : Nat), s16 = .int .i64 (j : Int) ∧ j ≤ xs.length ∧ s3 = .int .i64 (mx (xs.take j) (-1)) ∧ w = wr) (fun _ s16 _ => xs.length - (intOf s16).toNat)
      case atStart => exact ⟨0, rfl, by omega, rfl, rfl⟩
      case round =>
        obtain ⟨j, rfl, hj, rfl, rfl⟩ := hrel
        by_cases hlt : j < xs.length
        · obtain ⟨b, o, hA, hr⟩ := HX.out.1 (by omega)
          subst hA
          have cc := hr j _ (List.getElem?_eq_getElem hlt)
          unfold zI at cc
          have i1 : (j : Int) < (xs.length : Int) := by omega
          have hst := Lib.hid (mx_step xs j (-1) hlt)
          generalize xs[j] = z at *
          generalize mx (xs.take j) (-1) = m at *
          clear hr
          go_wp2_with fail
          refine ⟨⟨j + 1, by go_num, by omega, ?_, trivial⟩, by simp [intOf] <;> omega⟩
          rw [hst.out, show max m z = if m < z then z else m by split <;> omega]
        · obtain rfl : j = xs.length := by omega
          have t2 : decide ((xs.length : Int) < (xs.length : Int)) = false := decide_eq_false (by omega)
          go_wp2_with fail
          refine ⟨⟨1, rfl, by omega, by rw [List.take_length]; rfl, trivial⟩, by simp [intOf]⟩
    · go_wp2_with fail
      go_loopw [3, 16] (fun s3 s16 wr => ∃ (j : Nat), s16 = .int .i64 (j : Int) ∧ j ≤ ys.length ∧ s3 = .int .i64 (mx (ys.take j) (mx xs (-1))) ∧ w = wr) (fun _ s16 _ => ys.length - (intOf s16).toNat)
      case atStart => exact ⟨0, rfl, by omega, rfl, rfl⟩
      case round =>
        obtain ⟨j, rfl, hj, rfl, rfl⟩ := hrel
        by_cases hlt : j < ys.length
        · obtain ⟨b, o, hA, hr⟩ := HX.out.2 (by omega)
          subst hA
          have cc := hr j _ (List.getElem?_eq_getElem hlt)
          unfold zI at cc
          have i1 : (j : Int) < (ys.length : Int) := by omega
          have hst := Lib.hid (mx_step ys j (mx xs (-1)) hlt)
          generalize ys[j] = z at *
          generalize mx (ys.take j) (mx xs (-1)) = m at *
          clear hr
          go_wp2_with fail
          refine ⟨⟨j + 1, by go_num, by omega, ?_, trivial⟩, by simp [intOf] <;> omega⟩
          rw [hst.out, show max m z = if m < z then z else m by split <;> omega]
        · obtain rfl : j = ys.length := by omega
          have t2 : decide ((ys.length : Int) < (ys.length : Int)) = false := decide_eq_false (by omega)
          go_wp2_with fail
          refine ⟨⟨2, rfl, by omega, by rw [List.take_length]; rfl, trivial⟩, by simp [intOf]⟩
    · have HM := Lib.hid (show mxk xs ys 2 = mx ys (mx xs (-1)) from rfl)
      obtain ⟨m, hm⟩ : ∃ m, m = mx ys (mx xs (-1)) := ⟨_, rfl⟩
      rw [HM.out, ← hm]
      have hm := Lib.hid hm
      go_wp2_with fail
      all_goals
        go_ret
        refine ⟨?_, rfl⟩
        rw [← hm.out]
        show Ending.returned (Value.int .i64 _) = _
        congr 2
        omega
end Go.Proofs.YtihdeanfcbiflaaDoor.Wh

/- The walks of chapter 43's behind, half and high. -/
namespace Go.Proofs.YtihdeanfcbiflaaDoor.Wh
open Go.RowKit Go.Proofs.YtihdeanfcbiflaaDoor.Mk Go.Proofs.YtihdeanfcbiflaaDoor.Ul Go.Proofs.YtihdeanfcbiflaaDoor.Wi Go.Proofs.YtihdeanfcbiflaaDoor.Lg Go.Proofs.YtihdeanfcbiflaaDoor.Up Go.Proofs.YtihdeanfcbiflaaDoor.Sc
theorem builtH (w : World) (c : Int) (m : Bool) (v : Nat) : (Instr.build 28 #[(0, .int .i64 c), (1, .bool m), (2, UV 5 v)]).run Tryd.prog w = .ok (.agg (hfC ⟨c, m, v⟩).toArray) w := by kernel_rfl
theorem builtR (w : World) (l : Int) (a b : Hf) : (Instr.build 30 #[(0, .int .i64 l), (1, .agg (hfC a).toArray), (2, .agg (hfC b).toArray)]).run Tryd.prog w = .ok (.agg (roC ⟨l, a, b⟩).toArray) w := by kernel_rfl
theorem bldH {o : Oper} {a : Act} {w : World} {x y z : Operand} {c : Int} {m : Bool} {v : Nat} (ho : o.op = .build 28 #[(0, x), (1, y), (2, z)]) (hx : a.eval x = .int .i64 c) (hy : a.eval y = .bool m) (hz : a.eval z = UV 5 v) : (execOp a.eval o).run Tryd.prog w = .ok (.value (.agg (hfC ⟨c, m, v⟩).toArray)) w := by
  have h := builtH w c m v
  unfold execOp
  simp only [ho, List.map_toArray, List.map_cons, List.map_nil, hx, hy, hz, Sem.run_bind, h, Result.andThen_ok, Sem.run_pure]
theorem bldR {o : Oper} {a : Act} {w : World} {x y z : Operand} {l : Int} {p q : Hf} (ho : o.op = .build 30 #[(0, x), (1, y), (2, z)]) (hx : a.eval x = .int .i64 l) (hy : a.eval y = .agg (hfC p).toArray) (hz : a.eval z = .agg (hfC q).toArray) : (execOp a.eval o).run Tryd.prog w = .ok (.value (.agg (roC ⟨l, p, q⟩).toArray)) w := by
  have h := builtR w l p q
  unfold execOp
  simp only [ho, List.map_toArray, List.map_cons, List.map_nil, hx, hy, hz, Sem.run_bind, h, Result.andThen_ok, Sem.run_pure]
theorem URs2 : Tryd.prog.underlying 22 = some (.slice 30) := by kernel_rfl
theorem IRz2 : (Tryd.prog.info? 30).map (fun i => (i.zero, i.size, i.bytes)) = some (some (.agg (roC ⟨0, ⟨0, false, 0⟩, ⟨0, false, 0⟩⟩).toArray), 15, 120) := by kernel_rfl
theorem ZS.drop {A : Option Addr} {n c i : Nat} {zs : List Int} {w : World} (h : ZS w (.slice A n c) zs) (hi : i < zs.length) :
    ∃ A', (∀ wx, (Instr.slice 36 (.slice A n c) (some (.int .i64 i)) none none).run Tryd.prog wx = .ok (.slice A' (zs.drop i).length (c - i)) wx) ∧ ZS w (.slice A' (zs.drop i).length (c - i)) (zs.drop i) := by
  obtain ⟨h1, h2, A1, c1, e, h3, h4, h5⟩ := h
  cases e
  obtain ⟨b, o, rfl, hx⟩ := h5 (by omega)
  refine ⟨some ((⟨b, o, none⟩ : Addr).add (i * 1)), fun wx => ?_, ⟨fun _ _ => rfl, by rw [List.length_drop]; omega, _, _, rfl, by rw [List.length_drop]; omega, by omega, fun _ => ⟨b, o + i, ?_, fun k x hk => ?_⟩⟩⟩
  · rw [run_slice_l wx 36 _ _ _ (by kernel_rfl) .i64 i (by omega) (by omega)]
    have hs : (sizeOf (Tryd.prog.elem 36)).run Tryd.prog wx = .ok 1 wx := by kernel_rfl
    rw [hs, Result.andThen_ok]
    unfold sliced
    rw [Int.toNat_natCast, if_neg (by omega), List.length_drop]
    rfl
  · unfold Addr.add
    split
    · obtain rfl : i = 0 := by omega
      rfl
    · simp
  · have := hx (i + k) x (by rw [← hk, List.getElem?_drop])
    rw [show o + i + k * 1 = o + (i + k) * 1 by omega]
    exact this
set_option maxHeartbeats 2000000 in
set_option maxRecDepth 100000 in
theorem behind_calls (v : Value) (zs : List Int) (n : Nat) (w : World) (h : ZS w v zs) (hn : n ≤ 9223372036854775000) :
    Calls Tryd.prog 28 #[v, .int .i64 (n : Int)] w fun e w' => ∃ v', e = .returned v' ∧ ZS w v' (zs.drop (n + 1)) ∧ w' = w := by
  have hbd := h.len1
  obtain ⟨A, c, rfl, hlc, hcm, _⟩ := h.cell1
  have t1 : decide ((n : Int) < 0) = false := decide_eq_false (by omega)
  have q1 : IntKind.i64.wrap ((n : Int) + 1) = ((n + 1 : Nat) : Int) := by rw [IntWalk.i64_in _ (by omega)]; omega
  have q1' : ((n + 1 : Nat) : Int) = (n : Int) + 1 := by omega
  rw [q1'] at q1
  by_cases hlt : n + 1 < zs.length
  · obtain ⟨A', hsl, hd⟩ := ZS.drop h hlt
    rw [List.length_drop] at hsl hd
    rw [q1'] at hsl
    have hd := Lib.hid hd
    have t2 : decide ((zs.length : Int) ≤ (n : Int) + 1) = false := decide_eq_false (by omega)
    clear h
    go_enter Tryd.func28, Tryd.ntmps28
    go_wp2_with fail
    go_ret
    exact ⟨_, rfl, hd.out, rfl⟩
  · have t2 : decide ((zs.length : Int) ≤ (n : Int) + 1) = true := decide_eq_true (by omega)
    have he : zs.drop (n + 1) = [] := List.drop_eq_nil_of_le (by omega)
    have HE := Lib.hid he
    clear h
    go_enter Tryd.func28, Tryd.ntmps28
    go_wp2_with fail
    go_ret
    exact ⟨_, rfl, by rw [HE.out]; exact SL.nil _ _ _, rfl⟩
def halfS (zs : List Int) (level m : Int) : Hf := ⟨(cnt zs level : Nat), mayS zs level m, valS zs level⟩
set_option maxHeartbeats 4000000 in
set_option maxRecDepth 100000 in
theorem whalf_calls (v : Value) (zs : List Int) (level m : Int) (w : World) (hz : ZS w v zs) :
    Calls Tryd.prog 30 #[v, .int .i64 level, .int .i64 m] w fun e w' => e = .returned (.agg (hfC (halfS zs level m)).toArray) ∧ Below w.heap.size w w' := by
  have hE : ∃ W, W = w.alloc (hB hf0') := ⟨_, rfl⟩
  obtain ⟨W, hW⟩ := hE
  have hb0 : Below w.heap.size w W := by rw [hW]; exact (Below.refl _ _).alloc (Nat.le_refl _) _
  have hg0 : W.heap[w.heap.size]? = some (hB hf0') := by rw [hW]; exact heap_new _ _
  have C1 := Lib.hid (count_calls v zs level W (hz.below hb0))
  have HX := Lib.hid (fun wx (hx : Below W.heap.size W wx) => And.intro ((hz.below hb0).below hx) (And.intro (below_up hb0 hx) ((hx.block _ (Array.getElem?_eq_some_iff.1 hg0).1).trans hg0)))
  obtain ⟨A, c, rfl, _, _, _⟩ := hz.cell1
  clear hz hb0 hg0
  go_enter Tryd.func30, Tryd.ntmps30
  go_upto_region 1 with fail
  generalize hW2 : World.alloc w _ = W2
  obtain rfl : W2 = W := by rw [← hW2, hW]; kernel_rfl
  clear hW hW2
  go_wp2_with fail
  refine C1.out.mono ?_
  rintro e w1 ⟨rfl, hb1⟩
  have M1 := Lib.hid (may_calls _ zs level m w1 (HX.out w1 hb1).1)
  have B1 := Lib.hid hb1
  clear hb1 C1
  go_wp2_with fail
  refine M1.out.mono ?_
  rintro e w2 ⟨rfl, hb2⟩
  have V1 := Lib.hid (value_calls _ zs level w2 (HX.out w2 (below_up B1.out hb2)).1)
  have B2 := Lib.hid (below_up B1.out hb2)
  clear hb2 M1 B1
  go_wp2_with fail
  refine V1.out.mono ?_
  rintro e w3 ⟨rfl, hb3⟩
  have B3 := below_up B2.out hb3
  have K3 := HX.out w3 B3
  have ST := Lib.hid (st_hf (h := halfS zs level m) K3.2.2)
  have SR := Lib.hid (setRow_heap _ _ _ (hfC (halfS zs level m)).toArray _ _ K3.2.2)
  have SB := Lib.hid (show Below w.heap.size w (w3.setRow w.heap.size (hfC (halfS zs level m)).toArray) from below_row K3.2.1 (Nat.le_refl _))
  have HS := Lib.hid (show halfS zs level m = ⟨(cnt zs level : Nat), mayS zs level m, valS zs level⟩ from rfl)
  rw [HS.out] at ST
  clear hb3 B3 K3 V1 B2 HX
  generalize cnt zs level = cn at *
  generalize mayS zs level m = mm at *
  generalize valS zs level = vv at *
  go_wp2_with (first | (refine wpList_value (by rfl) _ (bldH (c := (cn : Int)) (m := mm) (v := vv) (by rfl) (by rfl) (by rfl) (by rfl)) ?_) | (refine wpList_st (by rfl) (.tmp 6) (.tmp 17) (by rfl) _ (by rfl) _ (by rfl) ST.out ?_))
  rw [HS.out] at SR SB
  exact bodyPost_ret (results_cell 6 28 ⟨w.heap.size, 0, none⟩ _ rfl rfl (lvHf SR.out)) rfl ⟨by rw [HS.out], SB.out⟩
end Go.Proofs.YtihdeanfcbiflaaDoor.Wh

/- The walks of chapter 42's Great and of the document's Behind. -/
namespace Go.Proofs.YtihdeanfcbiflaaDoor.Wh
open Go.RowKit Go.Proofs.YtihdeanfcbiflaaDoor.Mk Go.Proofs.YtihdeanfcbiflaaDoor.Ul Go.Proofs.YtihdeanfcbiflaaDoor.Wi Go.Proofs.YtihdeanfcbiflaaDoor.Lg Go.Proofs.YtihdeanfcbiflaaDoor.Up Go.Proofs.YtihdeanfcbiflaaDoor.Sc
/-- a side: ids and levels -/
def SD (w : World) (val : Value) (ids : List (List UInt8)) (zs : List Int) : Prop := ∃ vi vl, val = .agg #[vi, vl] ∧ SL hc 32 w vi ids ∧ ZS w vl zs
def sdB (vi vl : Value) : Obj := .cells #[vi, vl] 38 (0, 0)
theorem sd0 {w : World} {g : Nat} {vi vl : Value} (h : w.heap[g]? = some (sdB vi vl)) : w.cell? ⟨g, 0, none⟩ = some vi := by rw [cell_of_row w g 0 _ _ _ h]; rfl
theorem sd1 {w : World} {g : Nat} {vi vl : Value} (h : w.heap[g]? = some (sdB vi vl)) : w.cell? ⟨g, 1, none⟩ = some vl := by rw [cell_of_row w g 1 _ _ _ h]; rfl
theorem ownsRow_below2 {w w' : World} {B : Nat} {e : TypeId} {sz n : Nat} {v : Value} {xs : List Value} (h : w.ownsRow B e sz v n xs) (hb : Below w.heap.size w w') : w'.ownsRow B e sz v n xs := by
  refine ⟨h.1, ?_⟩
  rcases h.2 with h2 | ⟨g, cap, cur, q1, q2, q3, q4⟩
  · exact .inl h2
  · exact .inr ⟨g, cap, cur, q1, q2, (hb.block g (Array.getElem?_eq_some_iff.1 q3).1).trans q3, q4⟩
theorem own_lo3 {w : World} {B : Nat} {e : TypeId} {sz : Nat} {v : Value} {n g : Nat} {xs : List Value} (h : w.ownsRow B e sz v n xs) (hg : v.ownBlock = some g) : B ≤ g := by
  rcases h.2 with ⟨rfl, _⟩ | ⟨k, cap, cur, rfl, hk, _⟩
  · simp [Value.ownBlock] at hg
  · simp only [Value.ownBlock, Option.some.injEq] at hg; omega
theorem SD.below {w w' : World} {val : Value} {ids : List (List UInt8)} {zs : List Int} (h : SD w val ids zs) (hb : Below w.heap.size w w') : SD w' val ids zs := by
  obtain ⟨vi, vl, e, h1, h2⟩ := h
  exact ⟨vi, vl, e, h1.below hb, h2.below hb⟩
set_option maxHeartbeats 4000000 in
set_option maxRecDepth 100000 in
theorem great_calls (val : Value) (ids : List (List UInt8)) (zs : List Int) (w : World) (h : SD w val ids zs) :
    Calls Tryd.prog 10 #[val] w fun e w' => (∃ b, e = .returned (.bool b) ∧ (b = false → zs.length ≤ 40)) ∧ Below w.heap.size w w' := by
  obtain ⟨vi, vl, rfl, h1, h2⟩ := h
  have hb1 := h1.bd
  have hb2 := h2.len1
  obtain ⟨_, _, A1, k1, rfl, _, _, _⟩ := h1
  obtain ⟨A2, k2, rfl, _, _, _⟩ := h2.cell1
  clear h2
  have hbw : Below w.heap.size w (w.alloc (sdB (.slice A1 ids.length k1) (.slice A2 zs.length k2))) := (Below.refl _ _).alloc (Nat.le_refl _) _
  have c0 : (w.alloc (sdB (.slice A1 ids.length k1) (.slice A2 zs.length k2))).cell? ⟨w.heap.size, 0, none⟩ = some (.slice A1 ids.length k1) := sd0 (heap_new w _)
  have c1 : (w.alloc (sdB (.slice A1 ids.length k1) (.slice A2 zs.length k2))).cell? ⟨w.heap.size, 1, none⟩ = some (.slice A2 zs.length k2) := sd1 (heap_new w _)
  have BW := Lib.hid hbw
  clear hbw
  have hc : 40 < ids.length ∨ (¬ 40 < ids.length ∧ 40 < zs.length) ∨ (¬ 40 < ids.length ∧ ¬ 40 < zs.length) := by omega
  unfold sdB at *
  rcases hc with h1 | ⟨h1, h2⟩ | ⟨h1, h2⟩
  · have t1 : decide ((40 : Int) < (ids.length : Int)) = true := decide_eq_true (by omega)
    go_enter Tryd.func10, Tryd.ntmps10
    go_wp2_with fail
    go_ret
    exact ⟨⟨_, rfl, fun h => by cases h⟩, BW.out⟩
  · have t1 : decide ((40 : Int) < (ids.length : Int)) = false := decide_eq_false (by omega)
    have t2 : decide ((40 : Int) < (zs.length : Int)) = true := decide_eq_true (by omega)
    go_enter Tryd.func10, Tryd.ntmps10
    go_wp2_with fail
    go_ret
    exact ⟨⟨_, rfl, fun h => by cases h⟩, BW.out⟩
  · have t1 : decide ((40 : Int) < (ids.length : Int)) = false := decide_eq_false (by omega)
    have t2 : decide ((40 : Int) < (zs.length : Int)) = false := decide_eq_false (by omega)
    go_enter Tryd.func10, Tryd.ntmps10
    go_wp2_with fail
    go_ret
    exact ⟨⟨_, rfl, fun _ => by omega⟩, BW.out⟩
theorem UIz : Tryd.prog.underlying 36 = some (.slice 3) := by kernel_rfl
theorem IIz : (Tryd.prog.info? 3).map (fun i => (i.zero, i.size, i.bytes)) = some (some (.int .i64 0), 1, 8) := by kernel_rfl
/-- what a round of Behind keeps -/
structure HI (w : World) (v : Value) (l : List Int) (W : World) : Prop where
  own : W.ownsRow w.heap.size 3 1 v l.length (l.map zI)
  bel : Below w.heap.size w W
set_option maxHeartbeats 8000000 in
set_option maxRecDepth 100000 in
theorem rbehind_calls (v : Value) (zs : List Int) (n : Nat) (w : World) (h : ZS w v zs) (hz : zs.length ≤ 1000000) :
    Calls Tryd.prog 13 #[v, .int .i64 (n : Int)] w fun e w' => ∃ v', e = .returned v' ∧ ZS w' v' (zs.drop (n + 1)) ∧ Below w.heap.size w w' := by
  have hbd := h.len1
  have HX := Lib.hid (fun wx (hx : Below w.heap.size w wx) => (h.below hx).cell1)
  obtain ⟨A, c, rfl, _, _, _⟩ := h.cell1
  clear h
  obtain ⟨is, his, his0, his1, his2⟩ := info_parts IIz
  have HI0 := Lib.hid (show HI w (.slice none 0 0) [] w from ⟨World.ownsRow_nil _ _ _ _, Below.refl _ _⟩)
  have HII := Lib.hid (And.intro his (And.intro his0 (And.intro his1 his2)))
  clear his his0 his1 his2
  go_enter Tryd.func13, Tryd.ntmps13
  go_wp2_with fail
  go_loopw [5, 6] (fun s5 s6 wr => ∃ (i : Nat) (v : Value), s6 = .int .i64 (i : Int) ∧ i ≤ zs.length ∧ v = s5 ∧ Hid (HI w v ((zs.take i).drop (n + 1)) wr)) (fun _ s6 _ => zs.length - (intOf s6).toNat)
  case atStart => exact ⟨0, _, rfl, by omega, rfl, HI0⟩
  case round =>
    obtain ⟨i, v, rfl, hi, rfl, I⟩ := hrel
    clear HI0
    by_cases hlt : i < zs.length
    · obtain ⟨_, _, he, _, _, hr⟩ := HX.out wr I.out.bel
      cases he
      obtain ⟨b, o, hA, hq⟩ := hr (by omega)
      subst hA
      have cc := hq i _ (List.getElem?_eq_getElem hlt)
      unfold zI at cc
      have i1 : (i : Int) < (zs.length : Int) := by omega
      by_cases hn : n < i
      · have t3 : decide ((n : Int) < (i : Int)) = true := decide_eq_true (by omega)
        have hT : (zs.take (i + 1)).drop (n + 1) = (zs.take i).drop (n + 1) ++ [zs[i]] := by
          rw [List.take_succ_eq_append_getElem hlt, List.drop_append_of_le_length (by rw [List.length_take]; omega)]
        have hL : ((zs.take i).drop (n + 1)).length ≤ 1000000 := by rw [List.length_drop, List.length_take]; omega
        have hT := Lib.hid hT
        generalize zs[i] = z at *
        generalize (zs.take i).drop (n + 1) = l at *
        have hba : Below wr.heap.size wr (wr.alloc (.cells #[.int .i64 z] 3)) := (Below.refl _ _).alloc (Nat.le_refl _) _
        have I1 := Lib.hid (show HI w v l (wr.alloc (.cells #[.int .i64 z] 3)) from ⟨ownsRow_below2 I.out.own hba, below_up I.out.bel hba⟩)
        have hsz := I1.out.bel.size
        clear hr hq hba I
        go_wp2_with (first | (at_builtin; refine wpList_append_lies _ rfl (.tmp 16) (.tmp 21) 36 rfl w.heap.size 3 is _ 1 8 UIz HII.out.1 HII.out.2.1 HII.out.2.2.1 HII.out.2.2.2 rfl (by decide) _ _ _ rfl I1.out.own ⟨wr.heap.size, 0, none⟩ 1 1 [.int .i64 z] rfl rfl (World.news_of_block (heap_new _ _)) (by simp [Value.oneCell']) (by decide) (by simp only [maxLen]; omega) (by omega) hsz _ rfl ?_))
        intro gx capx W10 own gro _ _
        have P10 := Lib.hid (show HI w (.slice (some ⟨gx, 0, none⟩) (l.length + 1) capx) (l ++ [z]) W10 from ⟨by rw [List.length_append, List.map_append]; exact own, I1.out.bel.grown gro hsz (fun g hg => own_lo3 I1.out.own hg)⟩)
        clear own gro I1
        go_wp2_with fail
        go_roundw
        case rel => exact ⟨i + 1, _, by go_num, by omega, rfl, by rw [hT.out]; exact P10⟩
        case measure => simp [intOf] <;> omega
      · have t3 : decide ((n : Int) < (i : Int)) = false := decide_eq_false (by omega)
        have hT := Lib.hid (show (zs.take (i + 1)).drop (n + 1) = (zs.take i).drop (n + 1) by rw [List.drop_eq_nil_of_le (by rw [List.length_take]; omega), List.drop_eq_nil_of_le (by rw [List.length_take]; omega)])
        clear hr hq cc
        go_wp2_with fail
        go_roundw
        case rel => exact ⟨i + 1, _, by go_num, by omega, rfl, by rw [hT.out]; exact I⟩
        case measure => simp [intOf] <;> omega
    · obtain rfl : i = zs.length := by omega
      have t2 : decide ((zs.length : Int) < (zs.length : Int)) = false := decide_eq_false (by omega)
      rw [List.take_length] at I
      go_wp2_with fail
      go_ret
      exact ⟨_, rfl, SL.of_owns1 I.out.own (by rw [List.length_drop]; omega), I.out.bel⟩
end Go.Proofs.YtihdeanfcbiflaaDoor.Wh

/- The walk of chapter 43's Table. -/
namespace Go.Proofs.YtihdeanfcbiflaaDoor.Wh
open Go.RowKit Go.Proofs.YtihdeanfcbiflaaDoor.Mk Go.Proofs.YtihdeanfcbiflaaDoor.Ul Go.Proofs.YtihdeanfcbiflaaDoor.Wi Go.Proofs.YtihdeanfcbiflaaDoor.Lg Go.Proofs.YtihdeanfcbiflaaDoor.Up Go.Proofs.YtihdeanfcbiflaaDoor.Sc
open Go.Proofs.YtihdeanfcbiflaaDoor.Common (lastU lastP firstI firstI_lt lastP_of)
theorem lastU_cases (a b : List (List UInt8)) : ∀ n : Nat, lastU a b n = (-1, -1) ∨ ∃ i k : Nat, lastU a b n = ((i : Int), (k : Int)) ∧ i < n ∧ k < b.length
  | 0 => .inl rfl
  | n + 1 => by
    by_cases h : 0 ≤ firstI b (a.getD n [])
    · have h2 := firstI_lt b (a.getD n [])
      obtain ⟨k, hk⟩ := Int.eq_ofNat_of_zero_le h
      refine .inr ⟨n, k, ?_, by omega, by omega⟩
      rw [lastU, if_pos h, hk]
    · have e : lastU a b (n + 1) = lastU a b n := by rw [lastU, if_neg h]
      rw [e]
      rcases lastU_cases a b n with h1 | ⟨i, k, h1, h2, h3⟩
      · exact .inl h1
      · exact .inr ⟨i, k, h1, by omega, h3⟩
def tabL (xs ys : List Int) (m : Int) (k : Nat) : List Ro := (List.range k).map fun (n : Nat) => ⟨(n : Int), halfS xs n m, halfS ys n m⟩
theorem tabL_step (xs ys : List Int) (m : Int) (k : Nat) : tabL xs ys m (k + 1) = tabL xs ys m k ++ [⟨(k : Int), halfS xs k m, halfS ys k m⟩] := by
  unfold tabL
  rw [List.range_succ, List.map_append]
  rfl
theorem tabL_len (xs ys : List Int) (m : Int) (k : Nat) : (tabL xs ys m k).length = k := by simp [tabL]
/-- how many rows -/
def topN (xs ys : List Int) : Nat := (min (mx ys (mx xs (-1))) 255 + 1).toNat
theorem mx_ge : ∀ (zs : List Int) (t : Int), t ≤ mx zs t
  | [], t => Int.le_refl t
  | z :: zs, t => by
    have h := mx_ge zs (max t z)
    show t ≤ mx zs (max t z)
    omega
theorem top_cast (xs ys : List Int) : ((topN xs ys : Nat) : Int) = min (mx ys (mx xs (-1))) 255 + 1 := by
  have h1 := mx_ge xs (-1)
  have h2 := mx_ge ys (mx xs (-1))
  unfold topN
  omega
theorem top_le (xs ys : List Int) : topN xs ys ≤ 256 := by
  have := top_cast xs ys
  omega
def tabR (ia ib : List (List UInt8)) (za zb : List Int) (m : Int) : List Ro :=
  if (lastU ia ib ia.length).1 < 0 then [] else tabL (za.drop ((lastU ia ib ia.length).1.toNat + 1)) (zb.drop ((lastU ia ib ia.length).2.toNat + 1)) m (topN (za.drop ((lastU ia ib ia.length).1.toNat + 1)) (zb.drop ((lastU ia ib ia.length).2.toNat + 1)))
/-- the two boxes, and what they read as -/
structure TS (g : Nat) (vi vl vj vk : Value) (za zb : List Int) (w W : World) : Prop where
  b0 : W.heap[g]? = some (sdB vi vl)
  b1 : W.heap[g + 1]? = some (sdB vj vk)
  za : ZS W vl za
  zb : ZS W vk zb
  bel : Below w.heap.size w W
theorem TS.keep {g : Nat} {vi vl vj vk : Value} {za zb : List Int} {w W W' : World} (h : TS g vi vl vj vk za zb w W) (hb : Below W.heap.size W W') : TS g vi vl vj vk za zb w W' :=
  ⟨(hb.block _ (Array.getElem?_eq_some_iff.1 h.b0).1).trans h.b0, (hb.block _ (Array.getElem?_eq_some_iff.1 h.b1).1).trans h.b1, h.za.below hb, h.zb.below hb, below_up h.bel hb⟩
theorem ld_zs {w : World} {a : Addr} {A : Option Addr} {n k : Nat} (h : w.cell? a = some (.slice A n k)) : (Instr.loadAt 36 (.pointer (some a))).run Tryd.prog w = .ok (.slice A n k) w := by go_simp
theorem wp_callT2 {P : Program} {o : Oper} {a : Act} {w : World} {K : Act → World → Prop} {Q : Exit → Act → World → Prop} (f : FuncId) (args : Array Value) (hrun : (execOp a.eval o).run P w = .ok (.enter f args) w) {post : Ending → World → Prop} (hc : Calls P f args w post)
    (h : ∀ e w', post e w' → ∃ v, e = .returned v ∧ K (a.put o.dst v) w') : Oper.wp P o a w K Q := by
  unfold Oper.wp
  rw [hrun, Oper.upon_enter]
  refine hc.mono fun e w' hp => ?_
  obtain ⟨v, rfl, hk⟩ := h e w' hp
  exact hk
/-- what a round of Table keeps -/
structure KI (B : Nat) (w : World) (v : Value) (l : List Ro) (W : World) : Prop where
  own : W.ownsRow B 30 15 v l.length (l.flatMap roC)
  bel : Below w.heap.size w W
set_option maxHeartbeats 8000000 in
set_option maxRecDepth 100000 in
theorem table_calls (va vb : Value) (ia ib : List (List UInt8)) (za zb : List Int) (m : Int) (w : World) (ha : SD w va ia za) (hb : SD w vb ib zb) :
    Calls Tryd.prog 11 #[va, vb, .int .i64 m] w fun e w' => ∃ v, e = .returned v ∧ SL roC 15 w' v (tabR ia ib za zb m) ∧ Below w.heap.size w w' := by
  obtain ⟨vi, vl, rfl, h1, h2⟩ := ha
  obtain ⟨vj, vk, rfl, h3, h4⟩ := hb
  have hlen := h1.bd
  have hlen2 := h3.bd
  have hB0 : Below w.heap.size w ((w.alloc (sdB vi vl)).alloc (sdB vj vk)) := ((Below.refl _ _).alloc (Nat.le_refl _) _).alloc (by simp) _
  have T0 : TS w.heap.size vi vl vj vk za zb w ((w.alloc (sdB vi vl)).alloc (sdB vj vk)) := by
    have e2 := heap_new (w.alloc (sdB vi vl)) (sdB vj vk)
    rw [show (w.alloc (sdB vi vl)).heap.size = w.heap.size + 1 by simp] at e2
    exact ⟨(((Below.refl _ _).alloc (Nat.le_refl _) _ : Below (w.alloc (sdB vi vl)).heap.size (w.alloc (sdB vi vl)) ((w.alloc (sdB vi vl)).alloc (sdB vj vk))).block _ (by simp)).trans (heap_new _ _), e2, h2.below hB0, h4.below hB0, hB0⟩
  have LC := Lib.hid (Common.last_calls ia ib vi vj _ (h1.below hB0) (h3.below hB0))
  have HR := Lib.hid (show tabR ia ib za zb m = if (lastU ia ib ia.length).1 < 0 then [] else tabL (za.drop ((lastU ia ib ia.length).1.toNat + 1)) (zb.drop ((lastU ia ib ia.length).2.toNat + 1)) m (topN (za.drop ((lastU ia ib ia.length).1.toNat + 1)) (zb.drop ((lastU ia ib ia.length).2.toNat + 1))) from rfl)
  have c0 := sd0 T0.b0
  have c1 := sd0 T0.b1
  obtain ⟨_, _, Ai, ki, rfl, _, _, _⟩ := h1
  obtain ⟨_, _, Aj, kj, rfl, _, _, _⟩ := h3
  obtain ⟨Al, kl, rfl, _, _, _⟩ := h2.cell1
  obtain ⟨Ak, kk, rfl, _, _, _⟩ := h4.cell1
  clear h2 h4 hB0
  have TT := Lib.hid T0
  clear T0
  obtain ⟨g, hg⟩ : ∃ g, g = w.heap.size := ⟨_, rfl⟩
  rw [← hg] at TT c0 c1
  have hcase := lastU_cases ia ib ia.length
  unfold lastP at LC
  generalize lastU ia ib ia.length = u at *
  unfold sdB at TT c0 c1 LC
  go_enter Tryd.func11, Tryd.ntmps11
  go_upto_region 2 with fail
  rw [← hg]
  clear hg
  generalize World.alloc (World.alloc w _) _ = W0 at *
  rcases hcase with rfl | ⟨i, k, rfl, hi, hk⟩
  · dsimp only at LC
    go_wp2_with fail
    refine LC.out.mono ?_
    rintro e w1 ⟨rfl, hb1⟩
    have B1 := Lib.hid (TT.out.keep hb1).bel
    clear hb1
    go_wp2_with fail
    go_ret
    exact ⟨_, rfl, by rw [HR.out, if_pos (by decide)]; exact SL.nil _ _ _, B1.out⟩
  · dsimp only at LC
    have t1 : decide ((i : Int) < 0) = false := decide_eq_false (by omega)
    go_wp2_with fail
    refine LC.out.mono ?_
    rintro e w1 ⟨rfl, hb1⟩
    have T1 := Lib.hid (TT.out.keep hb1)
    clear hb1 TT LC c0 c1
    go_upto_region 5 with fail
    go_cut [10, 11] (fun s10 s11 wx => Hid (ZS wx s10 (za.drop (i + 1)) ∧ ZS wx s11 (zb.drop (k + 1)) ∧ Below w.heap.size w wx))
    case first =>
      have P_X0 := T1.out.keep (Below.refl _ _).drew
      clear T1 HR
      refine wp_region_any (by kernel_rfl) ?_
      change wpAny _ _ _ _ _ _ _ (World.drew _)
      generalize World.drew w1 = X0 at *
      refine wpAny_take (i := 0) (oi := ⟨some 24, _, _, _, _, _⟩) (v := .pointer (some ⟨g, 1, none⟩)) rfl (by kernel_rfl) (by kernel_rfl) (by kernel_rfl) (fun _ _ _ h => h) (Or.inl ⟨by rfl, by intro wx; go_simp⟩) ?_
      try simp only [Act.put, List.setIfInBounds_toArray, List.set_cons_zero, List.set_cons_succ]
      refine wpAny_take (i := 2) (oi := ⟨some 26, _, _, _, _, _⟩) (v := .int .i64 (i : Int)) rfl (by kernel_rfl) (by kernel_rfl) (by kernel_rfl) (fun _ _ _ h => h) (Or.inl ⟨by rfl, by intro wx; go_simp⟩) ?_
      try simp only [Act.put, List.setIfInBounds_toArray, List.set_cons_zero, List.set_cons_succ]
      refine wpAny_take (i := 4) (oi := ⟨some 28, _, _, _, _, _⟩) (v := .pointer (some ⟨g + 1, 1, none⟩)) rfl (by kernel_rfl) (by kernel_rfl) (by kernel_rfl) (fun _ _ _ h => h) (Or.inl ⟨by rfl, by intro wx; go_simp⟩) ?_
      try simp only [Act.put, List.setIfInBounds_toArray, List.set_cons_zero, List.set_cons_succ]
      refine wpAny_take (i := 6) (oi := ⟨some 30, _, _, _, _, _⟩) (v := .int .i64 (k : Int)) rfl (by kernel_rfl) (by kernel_rfl) (by kernel_rfl) (fun _ _ _ h => h) (Or.inl ⟨by rfl, by intro wx; go_simp⟩) ?_
      try simp only [Act.put, List.setIfInBounds_toArray, List.set_cons_zero, List.set_cons_succ]
      refine wpAny_ready (rs := [1, 5]) (by kernel_rfl) (by simp) ?_
      refine AllReady.cons rfl (fun K hK => ?_) (AllReady.cons rfl (fun K hK => ?_) AllReady.nil)
      · refine step_load rfl 36 _ rfl _ rfl (.slice Al za.length kl) (ld_zs (sd1 P_X0.b0)) ?_
        refine hK (Act.put _ (some 25) _) _ ?_
        try simp only [Act.put, List.setIfInBounds_toArray, List.set_cons_zero, List.set_cons_succ]
        clear hK K
        refine wpAny_ready (rs := [3, 5]) (by kernel_rfl) (by simp) ?_
        refine AllReady.cons rfl (fun K hK => ?_) (AllReady.cons rfl (fun K hK => ?_) AllReady.nil)
        · rw [if_pos (by kernel_rfl)]
          refine wp_callT2 _ _ (by go_simp) (behind_calls (.slice Al za.length kl) za i X0 P_X0.za (by omega)) ?_
          rintro e V2 ⟨x1, rfl, hx1, hw2⟩
          have hb2 : Below X0.heap.size X0 V2 := by rw [hw2]; exact Below.refl _ _
          clear hw2
          refine ⟨_, rfl, ?_⟩
          have D_V2 := hx1.below hb2
          have P_V2 := P_X0.keep hb2
          try dsimp only
          refine hK (Act.put _ (some 27) _) _ ?_
          try simp only [Act.put, List.setIfInBounds_toArray, List.set_cons_zero, List.set_cons_succ]
          clear hK K
          refine wpAny_ready (rs := [5]) (by kernel_rfl) (by simp) ?_
          refine AllReady.cons rfl (fun K hK => ?_) AllReady.nil
          · refine step_load rfl 36 _ rfl _ rfl (.slice Ak zb.length kk) (ld_zs (sd1 P_V2.b1)) ?_
            refine hK (Act.put _ (some 29) _) _ ?_
            try simp only [Act.put, List.setIfInBounds_toArray, List.set_cons_zero, List.set_cons_succ]
            clear hK K
            refine wpAny_ready (rs := [7]) (by kernel_rfl) (by simp) ?_
            refine AllReady.cons rfl (fun K hK => ?_) AllReady.nil
            · rw [if_pos (by kernel_rfl)]
              refine wp_callT2 _ _ (by go_simp) (behind_calls (.slice Ak zb.length kk) zb k V2 P_V2.zb (by omega)) ?_
              rintro e V4 ⟨x2, rfl, hx2, hw4⟩
              have hb4 : Below V2.heap.size V2 V4 := by rw [hw4]; exact Below.refl _ _
              clear hw4
              refine ⟨_, rfl, ?_⟩
              have E_V4 := hx2.below hb4
              have P_V4 := P_V2.keep hb4
              have D_V4 := D_V2.below hb4
              try dsimp only
              refine hK (Act.put _ (some 31) _) _ ?_
              try simp only [Act.put, List.setIfInBounds_toArray, List.set_cons_zero, List.set_cons_succ]
              clear hK K
              refine wpAny_take (i := 8) (oi := ⟨some 10, _, _, _, _, _⟩) (v := x1) rfl (by kernel_rfl) (by kernel_rfl) (by kernel_rfl) (fun _ _ _ h => h) (Or.inl ⟨by rfl, by intro wx; go_simp⟩) ?_
              refine wpAny_take (i := 9) (oi := ⟨some 11, _, _, _, _, _⟩) (v := x2) rfl (by kernel_rfl) (by kernel_rfl) (by kernel_rfl) (fun _ _ _ h => h) (Or.inl ⟨by rfl, by intro wx; go_simp⟩) ?_
              refine wpAny_done (by kernel_rfl) ?_ _
              go_wp2_with fail
              go_meet
              exact Lib.hid ⟨D_V4, E_V4, P_V4.bel⟩
        · refine step_load rfl 36 _ rfl _ rfl (.slice Ak zb.length kk) (ld_zs (sd1 P_X0.b1)) ?_
          refine hK (Act.put _ (some 29) _) _ ?_
          try simp only [Act.put, List.setIfInBounds_toArray, List.set_cons_zero, List.set_cons_succ]
          clear hK K
          refine wpAny_ready (rs := [3]) (by kernel_rfl) (by simp) ?_
          refine AllReady.cons rfl (fun K hK => ?_) AllReady.nil
          · rw [if_pos (by kernel_rfl)]
            refine wp_callT2 _ _ (by go_simp) (behind_calls (.slice Al za.length kl) za i X0 P_X0.za (by omega)) ?_
            rintro e V6 ⟨x1, rfl, hx1, hw6⟩
            have hb6 : Below X0.heap.size X0 V6 := by rw [hw6]; exact Below.refl _ _
            clear hw6
            refine ⟨_, rfl, ?_⟩
            have D_V6 := hx1.below hb6
            have P_V6 := P_X0.keep hb6
            try dsimp only
            refine hK (Act.put _ (some 27) _) _ ?_
            try simp only [Act.put, List.setIfInBounds_toArray, List.set_cons_zero, List.set_cons_succ]
            clear hK K
            refine wpAny_ready (rs := [7]) (by kernel_rfl) (by simp) ?_
            refine AllReady.cons rfl (fun K hK => ?_) AllReady.nil
            · rw [if_pos (by kernel_rfl)]
              refine wp_callT2 _ _ (by go_simp) (behind_calls (.slice Ak zb.length kk) zb k V6 P_V6.zb (by omega)) ?_
              rintro e V7 ⟨x2, rfl, hx2, hw7⟩
              have hb7 : Below V6.heap.size V6 V7 := by rw [hw7]; exact Below.refl _ _
              clear hw7
              refine ⟨_, rfl, ?_⟩
              have E_V7 := hx2.below hb7
              have P_V7 := P_V6.keep hb7
              have D_V7 := D_V6.below hb7
              try dsimp only
              refine hK (Act.put _ (some 31) _) _ ?_
              try simp only [Act.put, List.setIfInBounds_toArray, List.set_cons_zero, List.set_cons_succ]
              clear hK K
              refine wpAny_take (i := 8) (oi := ⟨some 10, _, _, _, _, _⟩) (v := x1) rfl (by kernel_rfl) (by kernel_rfl) (by kernel_rfl) (fun _ _ _ h => h) (Or.inl ⟨by rfl, by intro wx; go_simp⟩) ?_
              refine wpAny_take (i := 9) (oi := ⟨some 11, _, _, _, _, _⟩) (v := x2) rfl (by kernel_rfl) (by kernel_rfl) (by kernel_rfl) (fun _ _ _ h => h) (Or.inl ⟨by rfl, by intro wx; go_simp⟩) ?_
              refine wpAny_done (by kernel_rfl) ?_ _
              go_wp2_with fail
              go_meet
              exact Lib.hid ⟨D_V7, E_V7, P_V7.bel⟩
      · refine step_load rfl 36 _ rfl _ rfl (.slice Ak zb.length kk) (ld_zs (sd1 P_X0.b1)) ?_
        refine hK (Act.put _ (some 29) _) _ ?_
        try simp only [Act.put, List.setIfInBounds_toArray, List.set_cons_zero, List.set_cons_succ]
        clear hK K
        refine wpAny_ready (rs := [1]) (by kernel_rfl) (by simp) ?_
        refine AllReady.cons rfl (fun K hK => ?_) AllReady.nil
        · refine step_load rfl 36 _ rfl _ rfl (.slice Al za.length kl) (ld_zs (sd1 P_X0.b0)) ?_
          refine hK (Act.put _ (some 25) _) _ ?_
          try simp only [Act.put, List.setIfInBounds_toArray, List.set_cons_zero, List.set_cons_succ]
          clear hK K
          refine wpAny_ready (rs := [3]) (by kernel_rfl) (by simp) ?_
          refine AllReady.cons rfl (fun K hK => ?_) AllReady.nil
          · rw [if_pos (by kernel_rfl)]
            refine wp_callT2 _ _ (by go_simp) (behind_calls (.slice Al za.length kl) za i X0 P_X0.za (by omega)) ?_
            rintro e V10 ⟨x1, rfl, hx1, hw10⟩
            have hb10 : Below X0.heap.size X0 V10 := by rw [hw10]; exact Below.refl _ _
            clear hw10
            refine ⟨_, rfl, ?_⟩
            have D_V10 := hx1.below hb10
            have P_V10 := P_X0.keep hb10
            try dsimp only
            refine hK (Act.put _ (some 27) _) _ ?_
            try simp only [Act.put, List.setIfInBounds_toArray, List.set_cons_zero, List.set_cons_succ]
            clear hK K
            refine wpAny_ready (rs := [7]) (by kernel_rfl) (by simp) ?_
            refine AllReady.cons rfl (fun K hK => ?_) AllReady.nil
            · rw [if_pos (by kernel_rfl)]
              refine wp_callT2 _ _ (by go_simp) (behind_calls (.slice Ak zb.length kk) zb k V10 P_V10.zb (by omega)) ?_
              rintro e V11 ⟨x2, rfl, hx2, hw11⟩
              have hb11 : Below V10.heap.size V10 V11 := by rw [hw11]; exact Below.refl _ _
              clear hw11
              refine ⟨_, rfl, ?_⟩
              have E_V11 := hx2.below hb11
              have P_V11 := P_V10.keep hb11
              have D_V11 := D_V10.below hb11
              try dsimp only
              refine hK (Act.put _ (some 31) _) _ ?_
              try simp only [Act.put, List.setIfInBounds_toArray, List.set_cons_zero, List.set_cons_succ]
              clear hK K
              refine wpAny_take (i := 8) (oi := ⟨some 10, _, _, _, _, _⟩) (v := x1) rfl (by kernel_rfl) (by kernel_rfl) (by kernel_rfl) (fun _ _ _ h => h) (Or.inl ⟨by rfl, by intro wx; go_simp⟩) ?_
              refine wpAny_take (i := 9) (oi := ⟨some 11, _, _, _, _, _⟩) (v := x2) rfl (by kernel_rfl) (by kernel_rfl) (by kernel_rfl) (fun _ _ _ h => h) (Or.inl ⟨by rfl, by intro wx; go_simp⟩) ?_
              refine wpAny_done (by kernel_rfl) ?_ _
              go_wp2_with fail
              go_meet
              exact Lib.hid ⟨D_V11, E_V11, P_V11.bel⟩
    case rest =>
      rename World => wx
      rename Hid (ZS _ _ _ ∧ _) => CX
      obtain ⟨hx, hy, hbx⟩ := CX.out
      have HR := Lib.hid (HR.out.trans (if_neg (by omega)))
      dsimp only [Int.toNat_natCast] at HR
      generalize za.drop (i + 1) = xs at *
      generalize zb.drop (k + 1) = ys at *
      have BX := Lib.hid hbx
      obtain ⟨A1, n1, hv1, _, _, _⟩ := hx.cell1
      obtain ⟨A2, n2, hv2, _, _, _⟩ := hy.cell1
      subst hv1
      subst hv2
      have hb2 : Below wx.heap.size wx (wx.alloc (.cells #[.slice A1 xs.length n1, .slice A2 ys.length n2] 36)) := (Below.refl _ _).alloc (Nat.le_refl _) _
      have HG := Lib.hid (high_calls wx.heap.size _ _ xs ys _ ⟨by rw [cell_of_row _ wx.heap.size 0 _ _ _ (heap_new wx (.cells #[.slice A1 xs.length n1, .slice A2 ys.length n2] 36))]; rfl, by rw [cell_of_row _ wx.heap.size 1 _ _ _ (heap_new wx (.cells #[.slice A1 xs.length n1, .slice A2 ys.length n2] 36))]; rfl⟩ (hx.below hb2) (hy.below hb2))
      have HZ := Lib.hid (show ∀ wr, Below (wx.alloc (.cells #[.slice A1 xs.length n1, .slice A2 ys.length n2] 36)).heap.size (wx.alloc (.cells #[.slice A1 xs.length n1, .slice A2 ys.length n2] 36)) wr → ZS wr (.slice A1 xs.length n1) xs ∧ ZS wr (.slice A2 ys.length n2) ys ∧ Below w.heap.size w wr from fun wr hr => ⟨(hx.below hb2).below hr, (hy.below hb2).below hr, below_up (below_up hbx hb2) hr⟩)
      have hK := top_cast xs ys
      have hK2 := top_le xs ys
      clear hx hy hbx CX BX hb2 T1
      go_wp2_with fail
      refine HG.out.mono ?_
      rintro e w2 ⟨rfl, hw2⟩
      rw [hw2]
      clear hw2 HG
      generalize World.alloc wx _ = W1 at *
      generalize min (mx ys (mx xs (-1))) 255 = tp at *
      generalize topN xs ys = K at *
      have q1 : IntKind.i64.wrap (tp + 1) = (K : Int) := by rw [IntWalk.i64_in _ (by omega)]; omega
      clear hK
      obtain ⟨is, his, his0, his1, his2⟩ := info_parts IRz2
      have HII := Lib.hid (And.intro his (And.intro his0 (And.intro his1 his2)))
      clear his his0 his1 his2
      have I0 := Lib.hid (show KI W1.heap.size W1 (.slice none 0 0) (tabL xs ys m 0) W1 from ⟨World.ownsRow_nil _ _ _ _, Below.refl _ _⟩)
      go_wp2_with fail
      go_loopw [7, 37] (fun s7 s37 wr => ∃ (n : Nat) (v : Value), s37 = .int .i64 (n : Int) ∧ n ≤ K ∧ v = s7 ∧ Hid (KI W1.heap.size W1 v (tabL xs ys m n) wr)) (fun _ s37 _ => K - (intOf s37).toNat)
      case atStart => exact ⟨0, _, rfl, by omega, rfl, I0⟩
      case round =>
        obtain ⟨n, v, rfl, hn, rfl, I⟩ := hrel
        clear I0
        by_cases hlt : n < K
        · have i1 : decide ((n : Int) < (K : Int)) = true := decide_eq_true (by omega)
          have hts := tabL_step xs ys m n
          have htl := tabL_len xs ys m n
          have HA := Lib.hid (whalf_calls _ xs n m wr (HZ.out wr I.out.bel).1)
          generalize tabL xs ys m n = l at *
          go_wp2_with fail
          refine HA.out.mono ?_
          rintro e w3 ⟨rfl, hb3⟩
          have HC := Lib.hid (whalf_calls _ ys n m w3 (HZ.out w3 (below_up I.out.bel hb3)).2.1)
          have I3 := Lib.hid (show KI W1.heap.size W1 v l w3 from ⟨ownsRow_below2 I.out.own hb3, below_up I.out.bel hb3⟩)
          clear hb3 HA I
          go_wp2_with fail
          refine HC.out.mono ?_
          rintro e w4 ⟨rfl, hb4⟩
          generalize halfS xs n m = ha at *
          generalize halfS ys n m = hb at *
          have hbz : Below w4.heap.size w4 (w4.alloc (rB ⟨n, ha, hb⟩)) := (Below.refl _ _).alloc (Nat.le_refl _) _
          have I4 := Lib.hid (show KI W1.heap.size W1 v l (w4.alloc (rB ⟨n, ha, hb⟩)) from ⟨ownsRow_below2 (ownsRow_below2 I3.out.own hb4) hbz, below_up (below_up I3.out.bel hb4) hbz⟩)
          have hsz : (roC ⟨(n : Int), ha, hb⟩).toArray.size = 15 := by rw [List.size_toArray, roC_len]
          have hon := one_ro ⟨(n : Int), ha, hb⟩
          have HON := Lib.hid (fun u (hu : u ∈ roC ⟨(n : Int), ha, hb⟩) => Array.all_eq_true_iff_forall_mem.1 hon u (by simpa using hu))
          have HSL := Lib.hid (roC_len ⟨(n : Int), ha, hb⟩)
          have hw4 := I4.out.bel.size
          have hTS := Lib.hid hts
          clear hb4 hbz I3 HC hon hts
          unfold rB at I4 hw4
          go_wp2_with (first | (refine wpList_value (by rfl) _ (bldR (l := (n : Int)) (p := ha) (q := hb) (by rfl) (by rfl) (by rfl) (by rfl)) ?_) | (refine wpList_buildOne (by rfl) 22 30 15 (.tmp 50) (by rfl) (roC ⟨(n : Int), ha, hb⟩).toArray _ _ (by rfl) hsz IRz2 URs2 (by decide) (by decide) ?_) | (at_builtin; refine wpList_append_lies _ rfl (.tmp 40) (.tmp 51) 22 rfl W1.heap.size 30 is _ 15 120 URs2 HII.out.1 HII.out.2.1 HII.out.2.2.1 HII.out.2.2.2 (by kernel_rfl) (by decide) _ _ _ rfl I4.out.own ⟨w4.heap.size, 0, none⟩ 1 1 (roC ⟨(n : Int), ha, hb⟩) rfl HSL.out (World.news_of_block (heap_new _ _)) HON.out (by decide) (by simp only [maxLen]; omega) (by omega) hw4 _ rfl ?_))
          intro gx capx W10 own gro _ _
          have P10 := Lib.hid (show KI W1.heap.size W1 (.slice (some ⟨gx, 0, none⟩) (n + 1) capx) (tabL xs ys m (n + 1)) W10 from ⟨by rw [hTS.out, List.length_append, htl, List.flatMap_append, List.flatMap_singleton]; exact own, I4.out.bel.grown gro hw4 (fun g hg => own_lo3 I4.out.own hg)⟩)
          clear own gro I4
          go_wp2_with fail
          go_roundw
          case rel => exact ⟨n + 1, _, by go_num, by omega, rfl, P10⟩
          case measure => simp [intOf] <;> omega
        · obtain rfl : n = K := by omega
          have t2 : decide ((n : Int) < (n : Int)) = false := decide_eq_false (by omega)
          have htl := tabL_len xs ys m n
          go_wp2_with fail
          go_ret
          exact ⟨_, rfl, by rw [HR.out]; exact SL.of_owns I.out.own (fun x _ => roC_len x) (by omega), (HZ.out _ I.out.bel).2.2⟩
end Go.Proofs.YtihdeanfcbiflaaDoor.Wh
