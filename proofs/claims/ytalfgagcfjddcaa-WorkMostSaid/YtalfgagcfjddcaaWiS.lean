/- The walk of a number of 256 bits without its lowest bits. -/
import Derived.Deep.RegionLaw
import Derived.IntWalk
import Derived.StillTailTactics
import Derived.Laws.ShiftsVarLaws
import Derived.Test.YtalfgagcfjddcaaWi
import Derived.Test.YtalfgagcfjddcaaStepG
namespace Go.Proofs.Ytalfgagcfjddcaa.Wi
open Go.RowKit Go.Proofs.Ytalfgagcfjddcaa.Mk Go.Proofs.Ytalfgagcfjddcaa.Ul
/-- what lies where in the loop of Shr -/
def ShQ (g : Nat) (X : Nat) (f : Nat → Nat) (w wr : World) : Prop := FB g 4 (lb X) 37 wr ∧ FB (g + 1) 4 (fun _ => 0) 37 wr ∧ FB (g + 1 + 1) 4 f 37 wr ∧ Below w.heap.size w wr
theorem ShQ.step {g X : Nat} {f f4 : Nat → Nat} {w wr : World} (h : ShQ g X f w wr) {k v : Nat} (hk : k < 4) (h3 : w.heap.size ≤ g) (he : upd f k v = f4) : ShQ g X f4 w (wr.setCell ⟨g + 1 + 1, k, none⟩ (.int .u64 (v : Nat))) := by
  rw [← he]
  exact ⟨h.1.other (by omega) _, h.2.1.other (by omega) _, h.2.2.1.set v hk, h.2.2.2.setCell (p := ⟨g + 1 + 1, k, none⟩) (by show _ ≤ g + 1 + 1; omega) _⟩
theorem ShQ.drew {g X : Nat} {f : Nat → Nat} {w wr : World} (h : ShQ g X f w wr) : ShQ g X f w wr.drew := ⟨h.1, h.2.1, h.2.2.1, h.2.2.2.drew⟩
set_option maxHeartbeats 4000000 in
set_option maxRecDepth 100000 in
theorem shr_mid (X s b : Nat) (n : Int) (w : World) (hX : X < (2 ^ 64) ^ 4) (hs : s < 4) (hb : b < 64) (hn : n = ((64 * s + b : Nat) : Int)) (h0 : 0 < n) :
    Calls Try.prog 27 #[UV 4 X, .int .i64 n] w fun e w' => e = .returned (UV 4 (X / 2 ^ (64 * s + b))) ∧ Below w.heap.size w w' := by
  have HX := Lib.hid hX
  have hlt : n < 256 := by omega
  have e6 : n / 64 = (s : Int) := by omega
  have e7 : n % 64 = (b : Int) := by omega
  have HN := Lib.hid hn
  clear hX hn
  unfold UV
  go_enter Try.func27, Try.ntmps27
  go_wp2_with fail
  rw [zero4, e6]
  generalize hW : World.alloc (World.alloc (World.alloc w _) _) _ = W
  have H0 : ShQ w.heap.size X (fun _ => 0) w W := by
    rw [← hW]
    exact ⟨FB.alloc (FB.alloc (nw1 _ _) _) _, FB.alloc (nw2 _ _ _) _, nw3 _ _ _ _, bl3 _ _ _ _⟩
  have H1 := Lib.hid H0
  clear hW H0 e6 e7 h0 hlt
  go_loopw [22] (fun s22 wr => ∃ k : Nat, k ≤ 4 - s ∧ s22 = .int .i64 k ∧ Hid (ShQ w.heap.size X (fun i => if i < k then lb (X / 2 ^ (64 * s + b)) i else 0) w wr)) (fun s22 _ => 4 - (intOf s22).toNat)
  case atStart => exact ⟨0, by omega, rfl, Lib.hid ⟨H1.out.1, H1.out.2.1, H1.out.2.2.1.ext (fun i hi => by rw [if_neg (by omega)]), H1.out.2.2.2⟩⟩
  case round =>
    obtain ⟨k, hk, rfl, hq⟩ := hrel
    by_cases hkl : k < 4 - s
    · obtain ⟨h1, h2, h3, h4⟩ := hq.out
      have c1 := h1.cell (i := k + s) (by omega)
      have c3 := h3.cell (i := k) (by omega)
      have z3 := h3.free k
      have i0 : (k : Int) < 4 - (s : Int) := by omega
      have i1 : (k : Int) + s < 4 := by omega
      clear h1 h2 h3 h4
      by_cases hz : b = 0
      · subst hz
        have hv := lb_shr0 X s k
        have HS := Lib.hid (hq.out.step (k := k) (v := lb X (k + s)) (f4 := fun i => if i < k + 1 then lb (X / 2 ^ (64 * s + 0)) i else 0) (by omega) (Nat.le_refl _) (hv ▸ upd_lt (lb (X / 2 ^ (64 * s + 0))) k))
        clear hv
        go_wp2_with fail
        go_roundw
        case rel => exact ⟨k + 1, by omega, by go_num, HS⟩
        case measure => simp [intOf] <;> omega
      · have hb0 : (0 : Int) < b := by omega
        have hv := lb_shr X s b k hb (by omega)
        by_cases h5 : k + s + 1 < 4
        · have c2 := hq.out.1.cell (i := k + s + 1) (by omega)
          have i2 : (k : Int) + s + 1 < 4 := by omega
          have ha := lb_lt X (k + s)
          generalize lb X (k + s) = a at *
          obtain ⟨c, hcc⟩ : ∃ c, c = lb X (k + s + 1) := ⟨_, rfl⟩
          rw [← hcc] at hv c2
          obtain ⟨a', ha'⟩ : ∃ a', a' = a / 2 ^ b := ⟨_, rfl⟩
          have ea : (a : Int) / 2 ^ b = (a' : Int) := by rw [ha']; simp
          have HS := Lib.hid (hq.out.step (k := k) (v := a') (by omega) (Nat.le_refl _) rfl)
          rw [← ha'] at hv
          have HV := Lib.hid hv
          have HCC := Lib.hid hcc
          have AL := Lib.hid (show a' < 18446744073709551616 from by rw [ha']; exact Nat.lt_of_le_of_lt (Nat.div_le_self _ _) ha)
          clear ha' hv hq hcc ha
          go_wp2_with fail
          clear c3 z3 c1 ea
          generalize World.setCell wr _ _ = W2 at *
          have c1' := HS.out.1.drew.cell (i := k + s + 1) (by omega)
          have c3' := HS.out.2.2.1.drew.cell (i := k) (by omega)
          have z3' := HS.out.2.2.1.drew.free k
          rw [← HCC.out] at c1'
          rw [show upd (fun i => if i < k then lb (X / 2 ^ (64 * s + b)) i else 0) k a' k = a' from if_pos rfl] at c3'
          have i3 : ¬ (k : Int) < 0 := by omega
          have i4 : (k : Int) ≤ 3 := by omega
          have i4' : (k : Int) < 4 := by omega
          have i5 : ¬ (k : Int) + s + 1 < 0 := by omega
          have i6 : (k : Int) + s + 1 ≤ 3 := by omega
          have e1 : IntKind.i64.wrap ((k : Int) + s) = (k : Int) + s := IntWalk.i64_in _ (by omega)
          have e2 : IntKind.i64.wrap ((k : Int) + s + 1) = (k : Int) + s + 1 := IntWalk.i64_in _ (by omega)
          have e3 : ((k : Int) + s + 1).toNat = k + s + 1 := by omega
          have e5 : IntKind.u64.wrap (64 - (b : Int)) = 64 - (b : Int) := by rw [IntKind.wrap_u64]; omega
          have hor := or_shl a' c (64 - b) AL.out
          rw [← HV.out] at hor
          have HN := Lib.hid (HS.out.step (k := k) (v := lb (X / 2 ^ (64 * s + b)) k) (f4 := fun i => if i < k + 1 then lb (X / 2 ^ (64 * s + b)) i else 0) (by omega) (Nat.le_refl _) (by rw [upd_upd]; exact upd_lt (lb (X / 2 ^ (64 * s + b))) k))
          generalize lb (X / 2 ^ (64 * s + b)) k = v at *
          go_region
          all_goals
            clear c1' c3' z3' c2 i3 i4 i4' i5 i6 e1 e2 e3 e5 hor
            generalize World.setCell W2 _ _ = W3 at *
            go_wp2_with fail
            go_roundw
            case rel => exact ⟨k + 1, by omega, by go_num, Lib.hid HN.out.drew⟩
            case measure => simp [intOf] <;> omega
        · have hc0 := lb_top HX.out (i := k + s + 1) (by omega)
          rw [hc0, Nat.zero_mul, Nat.zero_mod, Nat.or_zero] at hv
          have ea : (lb X (k + s) : Int) / 2 ^ b = (lb (X / 2 ^ (64 * s + b)) k : Int) := by rw [hv]; simp
          have HS := Lib.hid (hq.out.step (k := k) (v := lb (X / 2 ^ (64 * s + b)) k) (f4 := fun i => if i < k + 1 then lb (X / 2 ^ (64 * s + b)) i else 0) (by omega) (Nat.le_refl _) (upd_lt (lb (X / 2 ^ (64 * s + b))) k))
          have i2 : ¬ (k : Int) + s + 1 < 4 := by omega
          clear hv hc0
          generalize lb (X / 2 ^ (64 * s + b)) k = v at *
          generalize lb X (k + s) = a at *
          go_wp2_with fail
          go_roundw
          case rel => exact ⟨k + 1, by omega, by go_num, HS⟩
          case measure => simp [intOf] <;> omega
    · obtain rfl : k = 4 - s := by omega
      obtain ⟨h1, h2, h3, h4⟩ := hq.out
      have i2 : ¬ ((4 - s : Nat) : Int) < 4 - (s : Int) := by omega
      have K3 := Lib.hid (show FB (w.heap.size + 1 + 1) 4 (lb (X / 2 ^ (64 * s + b))) 37 wr from h3.ext (fun i hi => by
        by_cases h : i < 4 - s
        · rw [if_pos h]
        · rw [if_neg h]
          exact (shr_top HX.out (by omega)).symm))
      have K2 := Lib.hid h2
      have K4 := Lib.hid h4
      clear h1 h2 h3 h4 hq hk
      obtain ⟨f, hf⟩ : ∃ f, f = lb (X / 2 ^ (64 * s + b)) := ⟨_, rfl⟩
      rw [← hf] at K3
      have Hf := Lib.hid hf
      clear hf
      go_wp2_with (first | (refine wpList_load_row (by rfl) 37 (.tmp 5) (by rfl) _ (by rfl) _ _ _ _ K3.out UN4 rfl (IN4 f) ?_) | (refine wpList_store_row (by rfl) 37 _ _ rfl _ (FC 4 f).toArray rfl rfl _ _ K2.out (IN4 f) (SZ4 _ f) (FC_one 4 f) ?_))
      exact bodyPost_ret (results_cell 4 37 _ _ rfl rfl (ld4 K2.out)) rfl ⟨by rw [Hf.out], below_setRow K4.out (by omega)⟩
theorem build_N {o : Oper} {a : Act} {w : World} (ho : o.op = .build 37 #[]) : (execOp a.eval o).run Try.prog w = .ok (.value (.agg (FC 4 fun _ => 0).toArray)) w := by
  unfold execOp
  simp only [ho]
  kernel_rfl
set_option maxHeartbeats 4000000 in
set_option maxRecDepth 100000 in
theorem shr_calls (X : Nat) (n : Int) (w : World) (hX : X < (2 ^ 64) ^ 4) :
    Calls Try.prog 27 #[UV 4 X, .int .i64 n] w fun e w' => e = .returned (UV 4 (shrI X n)) ∧ Below w.heap.size w w' := by
  by_cases h0 : n ≤ 0
  · have HS := Lib.hid (show shrI X n = X from if_pos h0)
    unfold UV
    clear hX
    obtain ⟨f, hf⟩ : ∃ f, f = lb X := ⟨_, rfl⟩
    rw [← hf]
    have Hf := Lib.hid hf
    clear hf
    go_enter Try.func27, Try.ntmps27
    have k1 := nw1 w (.cells (FC 4 f).toArray 37)
    have K1 : Hid (FB w.heap.size 4 f 37 ((w.alloc (.cells (FC 4 f).toArray 37)).alloc (.cells (FC 4 fun _ => 0).toArray 37))) := Lib.hid (FB.alloc k1 _)
    have K2 : Hid (FB (w.heap.size + 1) 4 (fun _ => 0) 37 ((w.alloc (.cells (FC 4 f).toArray 37)).alloc (.cells (FC 4 fun _ => 0).toArray 37))) := Lib.hid (nw2 _ _ _)
    clear k1
    go_wp2_with (first | (refine wpList_load_row (by rfl) 37 (.tmp 2) (by rfl) _ (by rfl) _ _ _ _ K1.out UN4 rfl (IN4 f) ?_) | (refine wpList_store_row (by rfl) 37 _ _ rfl _ (FC 4 f).toArray rfl rfl _ _ K2.out (IN4 f) (SZ4 _ f) (FC_one 4 f) ?_))
    exact bodyPost_ret (results_cell 4 37 _ _ rfl rfl (ld4 K2.out)) rfl ⟨by rw [HS.out, Hf.out], below_setRow (bl2 _ _ _) (by omega)⟩
  · by_cases h1 : 256 ≤ n
    · have HS := Lib.hid (shrI_big hX h1)
      have h0' : 0 < n := by omega
      unfold UV
      clear hX h0
      obtain ⟨f, hf⟩ : ∃ f, f = lb X := ⟨_, rfl⟩
      rw [← hf]
      clear hf
      go_enter Try.func27, Try.ntmps27
      have K2 : Hid (FB (w.heap.size + 1) 4 (fun _ => 0) 37 ((w.alloc (.cells (FC 4 f).toArray 37)).alloc (.cells (FC 4 fun _ => 0).toArray 37))) := Lib.hid (nw2 _ _ _)
      go_wp2_with (first | (refine wpList_value (by rfl) _ (build_N rfl) ?_) | (refine wpList_store_row (by rfl) 37 _ _ rfl _ (FC 4 fun _ => 0).toArray rfl rfl _ _ K2.out (IN4 _) (SZ4 _ _) (FC_one 4 _) ?_))
      exact bodyPost_ret (results_cell 4 37 _ _ rfl rfl (ld4 K2.out)) rfl ⟨by rw [HS.out, lb_zero], below_setRow (bl2 _ _ _) (by omega)⟩
    · have hm := shr_mid X (n.toNat / 64) (n.toNat % 64) n w hX (by omega) (by omega) (by omega) (by omega)
      rw [show 64 * (n.toNat / 64) + n.toNat % 64 = n.toNat by omega] at hm
      rw [show shrI X n = X / 2 ^ n.toNat from if_neg h0]
      exact hm
end Go.Proofs.Ytalfgagcfjddcaa.Wi
