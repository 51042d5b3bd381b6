/- The walk of a number of 320 bits with bits 0 behind. -/
import Derived.Deep.RegionLaw
import Derived.Deep.CutRange
import Derived.Deep.DeepCutAuto
import Derived.Laws.ShiftsVarLaws
import Derived.Test.YtihdeanfcbiflaaDoorLgC
import Derived.Test.YtihdeanfcbiflaaDoorSq
namespace Go.Proofs.YtihdeanfcbiflaaDoor.Lg
open Go.RowKit Go.Proofs.YtihdeanfcbiflaaDoor.Mk Go.Proofs.YtihdeanfcbiflaaDoor.Ul Go.Proofs.YtihdeanfcbiflaaDoor.Wi
abbrev oL (f : Nat → Nat) : Obj := .cells (FC 5 f).toArray 26 (0, 0)
/-- what lies where in the loop of Shl -/
def LSQ (g1 g4 g3 : Nat) (X : Nat) (f : Nat → Nat) (w wr : World) : Prop := FB g1 5 (lb X) 26 wr ∧ FB g4 5 (fun _ => 0) 26 wr ∧ FB g3 5 f 26 wr ∧ Below w.heap.size w wr
theorem LSQ.step {g1 g4 g3 X : Nat} {f f4 : Nat → Nat} {w wr : World} (h : LSQ g1 g4 g3 X f w wr) {k v : Nat} (hk : k < 5) (h1 : g1 ≠ g3) (h4 : g4 ≠ g3) (h3 : w.heap.size ≤ g3) (he : upd f k v = f4) : LSQ g1 g4 g3 X f4 w (wr.setCell ⟨g3, k, none⟩ (.int .u64 (v : Nat))) := by
  rw [← he]
  exact ⟨h.1.other h1 _, h.2.1.other h4 _, h.2.2.1.set v hk, h.2.2.2.setCell (p := ⟨g3, k, none⟩) h3 _⟩
theorem LSQ.drew {g1 g4 g3 X : Nat} {f : Nat → Nat} {w wr : World} (h : LSQ g1 g4 g3 X f w wr) : LSQ g1 g4 g3 X f w wr.drew := ⟨h.1, h.2.1, h.2.2.1, h.2.2.2.drew⟩
set_option maxHeartbeats 4000000 in
set_option maxRecDepth 100000 in
theorem shl_mid (X s b : Nat) (n : Int) (w : World) (hX : X < (2 ^ 64) ^ 5) (h0 : X ≠ 0) (hs : s < 5) (hb : b < 64) (hn : n = ((64 * s + b : Nat) : Int)) (hf : n + bl X ≤ 320) :
    Calls Tryd.prog 56 #[UV 5 X, .int .i64 n] w fun e w' => e = .returned (LR (X * 2 ^ (64 * s + b))) ∧ Below w.heap.size w w' := by
  have HN := Lib.hid hn
  have HE := Lib.hid (LR_yes ((shl_fits (n := 64 * s + b) h0).2 (by omega)))
  have hlp := bl_pos' h0
  have i1 : ¬ n < 0 := by omega
  have i2 : (0 : Int) < bl X := by omega
  have i3 : ¬ (320 : Int) - bl X < n := by omega
  have i3' : ¬ n > (320 : Int) - bl X := by omega
  have i8 : decide ((320 : Int) - bl X < n) = false := decide_eq_false i3
  have i4 : ((bl X : Int) == 0) = false := by simp; omega
  have i5 : bl X ≤ 320 := by omega
  have e6 : n / 64 = (s : Int) := by omega
  have e7 : n % 64 = (b : Int) := by omega
  have i6 : 0 ≤ n := by omega
  have i7 : n < 320 := by omega
  have HL := Lib.hid (fun w => llen_calls X w hX)
  unfold UV at *
  have S0 := Lib.hid (SQ.new2 w (oL (lb X)) (oL fun _ => 0))
  clear hn hf h0 hX
  generalize bl X = l at *
  go_enter Tryd.func56, Tryd.ntmps56
  go_wp2_with (first | (refine wpList_loadg (by rfl) 26 (.tmp 2) (by rfl) _ (by rfl) _ (ldAt5 S0.out.a1) ?_))
  refine (HL.out _).mono ?_
  rintro e w1 ⟨rfl, hb1⟩
  have S1 := Lib.hid (SQ.keep S0.out hb1)
  clear hb1 S0
  go_wp2_with (first | (refine wpList_loadg (by rfl) 26 (.tmp 2) (by rfl) _ (by rfl) _ (ldAt5 S1.out.a1) ?_))
  refine (HL.out _).mono ?_
  rintro e w2 ⟨rfl, hb2⟩
  have S2 := Lib.hid (SQ.keep S1.out hb2)
  clear hb2 S1
  go_wp2_with (first | (refine wpList_load_row (by rfl) 26 (.tmp 2) (by rfl) _ (by rfl) _ _ _ _ S2.out.a1 UN5 rfl (IN5 _) ?_))
  refine (HL.out _).mono ?_
  rintro e w3 ⟨rfl, hb3⟩
  have S3 := Lib.hid (SQ.keep S2.out hb3)
  clear hb3 S2 HL
  go_wp2_with fail
  rw [zero5, e6]
  generalize hW : World.alloc w3 _ = W
  have hg : w.heap.size + 1 < w3.heap.size := (FB.lt S3.out.a0)
  have H0 : LSQ w.heap.size (w.heap.size + 1) w3.heap.size X (fun _ => 0) w W := by
    rw [← hW]
    exact ⟨FB.alloc S3.out.a1 _, FB.alloc S3.out.a0 _, nw1 _ _, below_up S3.out.2 (bl1 _ _)⟩
  have H1 := Lib.hid H0
  clear hW H0 e6 e7 i6 i7 hlp i2 i4 i5 i1 i3 i3' i8 S3
  generalize w3.heap.size = g at *
  go_loopw [9] (fun s9 wr => ∃ k : Nat, s ≤ k ∧ k ≤ 5 ∧ s9 = .int .i64 k ∧ Hid (LSQ w.heap.size (w.heap.size + 1) g X (fun i => if i < k then lb (X * 2 ^ (64 * s + b)) i else 0) w wr)) (fun s9 _ => 5 - (intOf s9).toNat)
  case atStart =>
    refine ⟨s, Nat.le_refl _, by omega, rfl, Lib.hid ⟨H1.out.1, H1.out.2.1, H1.out.2.2.1.ext (fun i hi => ?_), H1.out.2.2.2⟩⟩
    by_cases h : i < s
    · rw [if_pos h, lb_shl_low X s b i h]
    · rw [if_neg h]
  case round =>
    obtain ⟨k, hsk, hk, rfl, hq⟩ := hrel
    by_cases hkl : k < 5
    · obtain ⟨h1, h2, h3, h4⟩ := hq.out
      have c1 := h1.cell (i := k - s) (by omega)
      have c3 := h3.cell (i := k) hkl
      have z3 := h3.free k
      have j0 : (0 : Int) ≤ (k : Int) - s := by omega
      have j1 : (k : Int) - s < 5 := by omega
      have j2 : ((k : Int) - s).toNat = k - s := by omega
      clear h1 h2 h3 h4
      by_cases hz : b = 0
      · subst hz
        have hv := lb_shl0 X s k hsk
        have HS := Lib.hid (hq.out.step (k := k) (v := lb X (k - s)) (f4 := fun i => if i < k + 1 then lb (X * 2 ^ (64 * s + 0)) i else 0) (by omega) (by omega) (by omega) (by omega) (hv ▸ upd_lt (lb (X * 2 ^ (64 * s + 0))) k))
        clear hv
        have ha := lb_lt X (k - s)
        generalize lb X (k - s) = a at *
        have ew : IntKind.u64.wrap (a : Int) = a := wu64 _ (by omega) (by omega)
        clear ha
        go_wp2_with fail
        go_roundw
        case rel => exact ⟨k + 1, by omega, by omega, by go_num, HS⟩
        case measure => simp [intOf] <;> omega
      · have hb0 : (0 : Int) < b := by omega
        have hv := lb_shl X s b k hb (by omega) hsk
        have ea := shl_wrap (lb X (k - s)) b
        have hal : lb X (k - s) * 2 ^ b % 18446744073709551616 < 18446744073709551616 := Nat.mod_lt _ (by decide)
        by_cases h5 : s < k
        · rw [if_pos h5] at hv
          have hcl := lb_lt X (k - s - 1)
          have hor := or_nats (lb X (k - s) * 2 ^ b % 18446744073709551616) (lb X (k - s - 1)) (64 - b) hal hcl
          rw [← hv] at hor
          generalize lb X (k - s) * 2 ^ b % 18446744073709551616 = a' at *
          have HS := Lib.hid (hq.out.step (k := k) (v := a') (f4 := upd (fun i => if i < k then lb (X * 2 ^ (64 * s + b)) i else 0) k a') (by omega) (by omega) (by omega) (by omega) rfl)
          have j3 : (s : Int) < k := by omega
          generalize lb X (k - s) = a at *
          obtain ⟨c, hcc⟩ : ∃ c, c = lb X (k - s - 1) := ⟨_, rfl⟩
          rw [← hcc] at hor
          have HCC := Lib.hid hcc
          have HOR := Lib.hid hor
          clear hv hal hcl hq hcc hor
          go_wp2_with fail
          generalize World.setCell wr _ _ = W2 at *
          clear c1 c3 z3 ea
          have c1' := HS.out.1.drew.cell (i := k - s - 1) (by omega)
          have c3' := HS.out.2.2.1.drew.cell (i := k) hkl
          have z3' := HS.out.2.2.1.drew.free k
          rw [← HCC.out] at c1'
          rw [show upd (fun i => if i < k then lb (X * 2 ^ (64 * s + b)) i else 0) k a' k = a' from if_pos rfl] at c3'
          have i3 : ¬ (k : Int) < 0 := by omega
          have i4 : (k : Int) ≤ 4 := by omega
          have i4' : (k : Int) < 5 := by omega
          have i5 : ¬ (k : Int) - s - 1 < 0 := by omega
          have i5' : (1 : Int) ≤ (k : Int) - s := by omega
          have i6 : (k : Int) - s - 1 ≤ 4 := by omega
          have i6' : (k : Int) - s ≤ 5 := by omega
          have i7 : (k : Int) - s - 1 < 5 := by omega
          have e1 : IntKind.i64.wrap ((k : Int) - s) = (k : Int) - s := IntWalk.i64_in _ (by omega)
          have e2 : IntKind.i64.wrap ((k : Int) - s - 1) = (k : Int) - s - 1 := IntWalk.i64_in _ (by omega)
          have e3 : ((k : Int) - s - 1).toNat = k - s - 1 := by omega
          have e5 : IntKind.u64.wrap (64 - (b : Int)) = 64 - (b : Int) := by rw [IntKind.wrap_u64]; omega
          have HN2 := Lib.hid (HS.out.step (k := k) (v := lb (X * 2 ^ (64 * s + b)) k) (f4 := fun i => if i < k + 1 then lb (X * 2 ^ (64 * s + b)) i else 0) (by omega) (by omega) (by omega) (by omega) (by rw [upd_upd]; exact upd_lt (lb (X * 2 ^ (64 * s + b))) k))
          have hor := HOR.out
          generalize lb (X * 2 ^ (64 * s + b)) k = v at *
          go_region
          all_goals
            clear c1' c3' z3' i3 i4 i4' i5 i5' i6 i6' i7 e1 e2 e3 e5 hor
            generalize World.setCell W2 _ _ = W3 at *
            go_wp2_with fail
            go_roundw
            case rel => exact ⟨k + 1, by omega, by omega, by go_num, Lib.hid HN2.out.drew⟩
            case measure => simp [intOf] <;> omega
        · rw [if_neg h5, Nat.or_zero] at hv
          have HS := Lib.hid (hq.out.step (k := k) (v := lb X (k - s) * 2 ^ b % 18446744073709551616) (f4 := fun i => if i < k + 1 then lb (X * 2 ^ (64 * s + b)) i else 0) (by omega) (by omega) (by omega) (by omega) (hv ▸ upd_lt (lb (X * 2 ^ (64 * s + b))) k))
          generalize lb X (k - s) * 2 ^ b % 18446744073709551616 = a' at *
          generalize lb X (k - s) = a at *
          have j3 : ¬ (s : Int) < k := by omega
          clear hv hal
          go_wp2_with fail
          go_roundw
          case rel => exact ⟨k + 1, by omega, by omega, by go_num, HS⟩
          case measure => simp [intOf] <;> omega
    · obtain rfl : k = 5 := by omega
      obtain ⟨h1, h2, h3, h4⟩ := hq.out
      have K3 := Lib.hid (show FB g 5 (lb (X * 2 ^ (64 * s + b))) 26 wr from h3.ext (fun i hi => if_pos hi))
      have K2 := Lib.hid h2
      have K4 := Lib.hid h4
      clear h1 h2 h3 h4 hq hk
      obtain ⟨f, hf⟩ : ∃ f, f = lb (X * 2 ^ (64 * s + b)) := ⟨_, rfl⟩
      rw [← hf] at K3 HE
      clear hf
      go_wp2_with (first | (refine wpList_load_row (by rfl) 26 (.tmp 6) (by rfl) _ (by rfl) _ _ _ _ K3.out UN5 rfl (IN5 _) ?_) | (refine wpList_store_row (by rfl) 26 _ _ rfl _ (FC 5 f).toArray rfl rfl _ _ K2.out (IN5 f) (SZ5 _ f) (FC_one 5 f) ?_))
      exact bodyPost_ret (res_cell_tmp 4 5 26 _ _ rfl rfl (ld5 K2.out)) rfl ⟨by rw [HE.out]; rfl, below_setRow K4.out (by omega)⟩
set_option maxHeartbeats 4000000 in
set_option maxRecDepth 100000 in
theorem shl_calls (X : Nat) (n : Int) (w : World) (hX : X < (2 ^ 64) ^ 5) :
    Calls Tryd.prog 56 #[UV 5 X, .int .i64 n] w fun e w' => e = .returned (shlV X n) ∧ Below w.heap.size w w' := by
  have S0 := Lib.hid (SQ.new2 w (oL (lb X)) (oL fun _ => 0))
  have HL := Lib.hid (fun w => llen_calls X w hX)
  by_cases hn : n < 0
  · have HE := Lib.hid (shlV_neg (X := X) hn)
    have hd : decide (n < 0) = true := decide_eq_true hn
    unfold UV at *
    rw [lb_zero] at HE
    clear hX
    go_enter Tryd.func56, Tryd.ntmps56
    go_upto_region 2 with fail
    go_wp2_with (first | (refine wpList_value (by rfl) _ (build_L rfl) ?_) | (refine wpList_store_row (by rfl) 26 _ _ rfl _ (FC 5 fun _ => 0).toArray rfl rfl _ _ S0.out.a0 (IN5 _) (SZ5 _ _) (FC_one 5 _) ?_))
    exact bodyPost_ret (res_cell_tmp 4 5 26 _ _ rfl rfl (ld5 S0.out.a0)) rfl ⟨by rw [HE.out]; rfl, below_setRow S0.out.2 (by omega)⟩
  · by_cases h0 : X = 0
    · subst h0
      have HE : Hid (shlV 0 n = .tuple #[UV 5 0, .bool true]) := Lib.hid (by rw [shlV_pos (by omega), Nat.zero_mul]; exact LR_yes (Nat.pow_pos (by decide)))
      rw [bl_zero] at HL
      have hd : decide (n < 0) = false := decide_eq_false hn
      unfold UV at *
      rw [lb_zero] at *
      clear hX
      go_enter Tryd.func56, Tryd.ntmps56
      go_wp2_with (first | (refine wpList_loadg (by rfl) 26 (.tmp 2) (by rfl) _ (by rfl) _ (ldAt5 S0.out.a1) ?_))
      refine (HL.out _).mono ?_
      rintro e w1 ⟨rfl, hb1⟩
      have S1 := Lib.hid (SQ.keep S0.out hb1)
      clear hb1 S0
      go_wp2_with (first | (refine wpList_load_row (by rfl) 26 (.tmp 2) (by rfl) _ (by rfl) _ _ _ _ S1.out.a1 UN5 rfl (IN5 _) ?_))
      refine (HL.out _).mono ?_
      rintro e w2 ⟨rfl, hb2⟩
      have S2 := Lib.hid (SQ.keep S1.out hb2)
      clear hb2 S1
      go_upto_region 4 with fail
      go_wp2_with (first | (refine wpList_value (by rfl) _ (build_L rfl) ?_) | (refine wpList_store_row (by rfl) 26 _ _ rfl _ (FC 5 fun _ => 0).toArray rfl rfl _ _ S2.out.a0 (IN5 _) (SZ5 _ _) (FC_one 5 _) ?_))
      exact bodyPost_ret (res_cell_tmp 4 5 26 _ _ rfl rfl (ld5 S2.out.a0)) rfl ⟨by rw [HE.out]; rfl, below_setRow S2.out.2 (by omega)⟩
    · by_cases hf : n + bl X ≤ 320
      · have hbp := bl_pos' h0
        have hm := shl_mid X (n.toNat / 64) (n.toNat % 64) n w hX h0 (by omega) (by omega) (by omega) hf
        rw [show 64 * (n.toNat / 64) + n.toNat % 64 = n.toNat by omega] at hm
        rw [shlV_pos (by omega)]
        exact hm
      · have hbp := bl_pos' h0
        have HE : Hid (shlV X n = .tuple #[UV 5 0, .bool false]) := Lib.hid (by
          rw [shlV_pos (by omega)]
          exact LR_no (fun h => hf (by have := (shl_fits h0).1 h; omega)))
        have hd : decide (n < 0) = false := decide_eq_false hn
        have i2 : (0 : Int) < bl X := by omega
        have i3 : (320 : Int) - bl X < n := by omega
        have i5 : bl X ≤ 320 := bl320 hX
        unfold UV at *
        rw [lb_zero] at *
        clear hX h0 hf
        generalize bl X = l at *
        go_enter Tryd.func56, Tryd.ntmps56
        go_wp2_with (first | (refine wpList_loadg (by rfl) 26 (.tmp 2) (by rfl) _ (by rfl) _ (ldAt5 S0.out.a1) ?_))
        refine (HL.out _).mono ?_
        rintro e w1 ⟨rfl, hb1⟩
        have S1 := Lib.hid (SQ.keep S0.out hb1)
        clear hb1 S0
        go_wp2_with (first | (refine wpList_loadg (by rfl) 26 (.tmp 2) (by rfl) _ (by rfl) _ (ldAt5 S1.out.a1) ?_))
        refine (HL.out _).mono ?_
        rintro e w2 ⟨rfl, hb2⟩
        have S2 := Lib.hid (SQ.keep S1.out hb2)
        clear hb2 S1
        go_upto_region 2 with fail
        go_wp2_with (first | (refine wpList_value (by rfl) _ (build_L rfl) ?_) | (refine wpList_store_row (by rfl) 26 _ _ rfl _ (FC 5 fun _ => 0).toArray rfl rfl _ _ S2.out.a0 (IN5 _) (SZ5 _ _) (FC_one 5 _) ?_))
        exact bodyPost_ret (res_cell_tmp 4 5 26 _ _ rfl rfl (ld5 S2.out.a0)) rfl ⟨by rw [HE.out]; rfl, below_setRow S2.out.2 (by omega)⟩
end Go.Proofs.YtihdeanfcbiflaaDoor.Lg
