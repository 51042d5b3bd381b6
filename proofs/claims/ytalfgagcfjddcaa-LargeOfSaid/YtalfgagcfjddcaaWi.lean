/- The walks of chapter 4's functions on numbers of 256 bits. -/
import Derived.Test.YtalfgagcfjddcaaWiMath
import Derived.Test.YtalfgagcfjddcaaProg
namespace Go.Proofs.Ytalfgagcfjddcaa.Wi
open Go.RowKit Go.Proofs.Ytalfgagcfjddcaa.Mk Go.Proofs.Ytalfgagcfjddcaa.Ul
theorem UN4 : Try.prog.underlying 37 = some (.array 4 35) := by kernel_rfl
theorem IN4 (f : Nat → Nat) : (Try.prog.info? 37).map (·.size) = some (FC 4 f).toArray.size := by rw [FC_size]; kernel_rfl
theorem SZ4 (f g : Nat → Nat) : (FC 4 f).toArray.size = (FC 4 g).toArray.size := by rw [FC_size, FC_size]
theorem zero4 : #[Value.int .u64 0, .int .u64 0, .int .u64 0, .int .u64 0] = (FC 4 fun _ => 0).toArray := by rfl
theorem ld4 {g : Nat} {f f0 : Nat → Nat} {t : TypeId} {w : World} (h : FB g 4 f0 t w) : (loadVar 37 ⟨g, 0, none⟩).run Try.prog (w.setRow g (FC 4 f).toArray) = .ok (.agg (FC 4 f).toArray) (w.setRow g (FC 4 f).toArray) :=
  run_loadVar_row _ _ _ _ _ _ _ (setRow_heap _ _ _ _ _ _ h) UN4 rfl (IN4 f)
/-- four blocks of four cells, the last of them with nothing in it -/
def T3 (g1 g2 g3 g4 : Nat) (f1 f2 f3 : Nat → Nat) (w0 wr : World) : Prop := FB g4 4 (fun _ => 0) 37 wr ∧ FB g1 4 f1 37 wr ∧ FB g2 4 f2 37 wr ∧ FB g3 4 f3 37 wr ∧ Below w0.heap.size w0 wr
theorem T3.step {g1 g2 g3 g4 : Nat} {f1 f2 f3 f4 : Nat → Nat} {w0 wr : World} (h : T3 g1 g2 g3 g4 f1 f2 f3 w0 wr) (n : Nat) {k v : Nat} (hk : k < 4) (h1 : g1 ≠ g3) (h2 : g2 ≠ g3) (h4 : g4 ≠ g3) (h3 : w0.heap.size ≤ g3) (he : upd f3 k v = f4) :
    T3 g1 g2 g3 g4 f1 f2 f4 w0 ((wr.drewN n).setCell ⟨g3, k, none⟩ (.int .u64 (v : Nat))) := by
  rw [← he]
  exact ⟨(h.1.drewN n).other h4 _, (h.2.1.drewN n).other h1 _, (h.2.2.1.drewN n).other h2 _, (h.2.2.2.1.drewN n).set v hk, (bdN h.2.2.2.2 n).setCell (p := ⟨g3, k, none⟩) h3 _⟩
set_option maxHeartbeats 4000000 in
set_option maxRecDepth 100000 in
theorem add_calls (X Y : Nat) (w : World) :
    Calls Try.prog 30 #[UV 4 X, UV 4 Y] w fun e w' => e = .returned (.tuple #[UV 4 (X + Y), .bool (cr X Y 4 == 1)]) ∧ Below w.heap.size w w' := by
  have Hc0 := Lib.hid (cr_zero X Y)
  skip
  unfold UV
  go_enter Try.func30, Try.ntmps30
  go_wp2_with fail
  rw [zero4]
  generalize hW : World.alloc (World.alloc (World.alloc (World.alloc w _) _) _) _ = W
  have H0 : T3 w.heap.size (w.heap.size + 1) (w.heap.size + 1 + 1 + 1) (w.heap.size + 1 + 1) (lb X) (lb Y) (fun _ => 0) w W := by
    rw [← hW]
    exact ⟨FB.alloc (nw3 _ _ _ _) _, FB.alloc (FB.alloc (FB.alloc (nw1 _ _) _) _) _, FB.alloc (FB.alloc (nw2 _ _ _) _) _, nw4 _ _ _ _ _, bl4 _ _ _ _ _⟩
  clear hW
  have H0 := Lib.hid H0
  go_loopw [7, 12] (fun s7 s12 wr => ∃ k : Nat, k ≤ 4 ∧ s12 = .int .i64 k ∧ s7 = .int .u64 (cr X Y k) ∧ Hid (T3 w.heap.size (w.heap.size + 1) (w.heap.size + 1 + 1 + 1) (w.heap.size + 1 + 1) (lb X) (lb Y) (fun i => if i < k then lb (X + Y) i else 0) w wr)) (fun _ s12 _ => 4 - (intOf s12).toNat)
  case atStart => exact ⟨0, by omega, rfl, by rw [Hc0.out]; rfl, H0⟩
  case round =>
    obtain ⟨k, hk, rfl, rfl, hq⟩ := hrel
    by_cases hkl : k < 4
    · obtain ⟨h0, h1, h2, h3, h4⟩ := hq.out
      have c1 := h1.cell hkl
      have c2 := h2.cell hkl
      have c3 := h3.cell hkl
      have z3 := h3.free k
      have HK := Lib.hid (And.intro hq.out hkl)
      clear h0 h1 h2 h3 h4 hq
      have hst := add_step (lb_lt Y k) (lb_lt X k) (cr_le X Y k) (lb_add X Y k) (cr_succ X Y k)
      generalize lb X k = a at *
      generalize lb Y k = b at *
      generalize cr X Y k = c at *
      obtain ⟨t, ht⟩ : ∃ t, t = lb (X + Y) k := ⟨_, rfl⟩
      rw [← ht] at hst
      have E3 := Lib.hid (show upd (fun i => if i < k then lb (X + Y) i else 0) k t = fun i => if i < k + 1 then lb (X + Y) i else 0 by rw [ht]; exact upd_lt _ _)
      clear ht
      obtain ⟨s, wS, wT, hcase⟩ := hst
      rcases hcase with ⟨t1, t2⟩ | ⟨t1, t3, t2⟩ | ⟨t1, t3, t2⟩
      · have E2 := Lib.hid t2
        clear t2
        go_wp2_with fail
        go_quiet (fail)
        go_wp2_with fail
        go_roundw
        case rel => exact ⟨k + 1, by have := HK.out.2; omega, by go_num, by rw [E2.out]; rfl, Lib.hid (HK.out.1.step _ HK.out.2 (by omega) (by omega) (by omega) (by omega) E3.out)⟩
        case measure => simp [intOf] <;> omega
      · have E2 := Lib.hid t2
        clear t2
        go_wp2_with fail
        go_quiet (fail)
        go_wp2_with fail
        go_roundw
        case rel => exact ⟨k + 1, by have := HK.out.2; omega, by go_num, by rw [E2.out]; rfl, Lib.hid (HK.out.1.step _ HK.out.2 (by omega) (by omega) (by omega) (by omega) E3.out)⟩
        case measure => simp [intOf] <;> omega
      · have E2 := Lib.hid t2
        clear t2
        go_wp2_with fail
        go_quiet (fail)
        go_wp2_with fail
        go_roundw
        case rel => exact ⟨k + 1, by have := HK.out.2; omega, by go_num, by rw [E2.out]; rfl, Lib.hid (HK.out.1.step _ HK.out.2 (by omega) (by omega) (by omega) (by omega) E3.out)⟩
        case measure => simp [intOf] <;> omega
    · obtain rfl : k = 4 := by omega
      obtain ⟨h0, h1, h2, h3, h4⟩ := hq.out
      have h3' : FB (w.heap.size + 1 + 1 + 1) 4 (lb (X + Y)) 37 wr := h3.ext (fun i hi => if_pos hi)
      have K3 := Lib.hid h3'
      have K0 := Lib.hid h0
      have K4 := Lib.hid h4
      clear h0 h1 h2 h3 h4 h3' hq
      have hc := cr_le X Y 4
      obtain ⟨f, hf⟩ : ∃ f, f = lb (X + Y) := ⟨_, rfl⟩
      obtain ⟨c, hcr⟩ : ∃ c, c = cr X Y 4 := ⟨_, rfl⟩
      rw [← hf] at K3
      rw [← hcr] at hc ⊢
      have Hf := Lib.hid (And.intro hf hcr)
      clear hf hcr
      go_wp2_with (first | (refine wpList_load_row (by rfl) 37 (.tmp 6) (by rfl) _ (by rfl) _ _ _ _ K3.out UN4 rfl (IN4 f) ?_) | (refine wpList_store_row (by rfl) 37 _ _ rfl _ (FC 4 f).toArray rfl rfl _ _ K0.out (IN4 f) (SZ4 _ f) (FC_one 4 f) ?_))
      refine bodyPost_ret (res_cell_tmp 4 5 37 _ _ rfl rfl (ld4 K0.out)) rfl ⟨?_, below_setRow K4.out (by omega)⟩
      rw [← Hf.out.1, ← Hf.out.2]
      show Ending.returned (.tuple #[.agg (FC 4 f).toArray, .bool ((c : Int) == 1)]) = Ending.returned (.tuple #[.agg (FC 4 f).toArray, .bool (c == 1)])
      rw [int_one]
set_option maxHeartbeats 4000000 in
set_option maxRecDepth 100000 in
theorem sub_calls (X Y : Nat) (w : World) (hY : Y < 2 ^ 256) :
    Calls Try.prog 31 #[UV 4 X, UV 4 Y] w fun e w' => e = .returned (.tuple #[UV 4 (df X Y), .bool (bo X Y 4 == 1)]) ∧ Below w.heap.size w w' := by
  have Hc0 := Lib.hid (bo_zero X Y)
  have HY := Lib.hid hY
  clear hY
  unfold UV
  go_enter Try.func31, Try.ntmps31
  go_wp2_with fail
  rw [zero4]
  generalize hW : World.alloc (World.alloc (World.alloc (World.alloc w _) _) _) _ = W
  have H0 : T3 w.heap.size (w.heap.size + 1) (w.heap.size + 1 + 1 + 1) (w.heap.size + 1 + 1) (lb X) (lb Y) (fun _ => 0) w W := by
    rw [← hW]
    exact ⟨FB.alloc (nw3 _ _ _ _) _, FB.alloc (FB.alloc (FB.alloc (nw1 _ _) _) _) _, FB.alloc (FB.alloc (nw2 _ _ _) _) _, nw4 _ _ _ _ _, bl4 _ _ _ _ _⟩
  clear hW
  have H0 := Lib.hid H0
  go_loopw [7, 12] (fun s7 s12 wr => ∃ k : Nat, k ≤ 4 ∧ s12 = .int .i64 k ∧ s7 = .int .u64 (bo X Y k) ∧ Hid (T3 w.heap.size (w.heap.size + 1) (w.heap.size + 1 + 1 + 1) (w.heap.size + 1 + 1) (lb X) (lb Y) (fun i => if i < k then lb (df X Y) i else 0) w wr)) (fun _ s12 _ => 4 - (intOf s12).toNat)
  case atStart => exact ⟨0, by omega, rfl, by rw [Hc0.out]; rfl, H0⟩
  case round =>
    obtain ⟨k, hk, rfl, rfl, hq⟩ := hrel
    by_cases hkl : k < 4
    · obtain ⟨h0, h1, h2, h3, h4⟩ := hq.out
      have c1 := h1.cell hkl
      have c2 := h2.cell hkl
      have c3 := h3.cell hkl
      have z3 := h3.free k
      have HK := Lib.hid (And.intro hq.out hkl)
      clear h0 h1 h2 h3 h4 hq
      have hst := sub_step (lb_lt Y k) (lb_lt X k) (lb_lt (df X Y) k) (bo_le X Y k) (lb_sub (X := X) HY.out hkl) (bo_succ X Y k)
      generalize lb X k = a at *
      generalize lb Y k = b at *
      generalize bo X Y k = c at *
      obtain ⟨t, ht⟩ : ∃ t, t = lb (df X Y) k := ⟨_, rfl⟩
      rw [← ht] at hst
      have E3 := Lib.hid (show upd (fun i => if i < k then lb (df X Y) i else 0) k t = fun i => if i < k + 1 then lb (df X Y) i else 0 by rw [ht]; exact upd_lt _ _)
      clear ht
      obtain ⟨s, wS, wT, hcase⟩ := hst
      rcases hcase with ⟨t1, t2⟩ | ⟨t1, t3, t2⟩ | ⟨t1, t3, t2⟩
      · have E2 := Lib.hid t2
        clear t2
        go_wp2_with fail
        go_quiet (fail)
        go_wp2_with fail
        go_roundw
        case rel => exact ⟨k + 1, by have := HK.out.2; omega, by go_num, by rw [E2.out]; rfl, Lib.hid (HK.out.1.step _ HK.out.2 (by omega) (by omega) (by omega) (by omega) E3.out)⟩
        case measure => simp [intOf] <;> omega
      · have E2 := Lib.hid t2
        clear t2
        go_wp2_with fail
        go_quiet (fail)
        go_wp2_with fail
        go_roundw
        case rel => exact ⟨k + 1, by have := HK.out.2; omega, by go_num, by rw [E2.out]; rfl, Lib.hid (HK.out.1.step _ HK.out.2 (by omega) (by omega) (by omega) (by omega) E3.out)⟩
        case measure => simp [intOf] <;> omega
      · have E2 := Lib.hid t2
        clear t2
        go_wp2_with fail
        go_quiet (fail)
        go_wp2_with fail
        go_roundw
        case rel => exact ⟨k + 1, by have := HK.out.2; omega, by go_num, by rw [E2.out]; rfl, Lib.hid (HK.out.1.step _ HK.out.2 (by omega) (by omega) (by omega) (by omega) E3.out)⟩
        case measure => simp [intOf] <;> omega
    · obtain rfl : k = 4 := by omega
      obtain ⟨h0, h1, h2, h3, h4⟩ := hq.out
      have h3' : FB (w.heap.size + 1 + 1 + 1) 4 (lb (df X Y)) 37 wr := h3.ext (fun i hi => if_pos hi)
      have K3 := Lib.hid h3'
      have K0 := Lib.hid h0
      have K4 := Lib.hid h4
      clear h0 h1 h2 h3 h4 h3' hq
      have hc := bo_le X Y 4
      obtain ⟨f, hf⟩ : ∃ f, f = lb (df X Y) := ⟨_, rfl⟩
      obtain ⟨c, hcr⟩ : ∃ c, c = bo X Y 4 := ⟨_, rfl⟩
      rw [← hf] at K3
      rw [← hcr] at hc ⊢
      have Hf := Lib.hid (And.intro hf hcr)
      clear hf hcr
      go_wp2_with (first | (refine wpList_load_row (by rfl) 37 (.tmp 6) (by rfl) _ (by rfl) _ _ _ _ K3.out UN4 rfl (IN4 f) ?_) | (refine wpList_store_row (by rfl) 37 _ _ rfl _ (FC 4 f).toArray rfl rfl _ _ K0.out (IN4 f) (SZ4 _ f) (FC_one 4 f) ?_))
      refine bodyPost_ret (res_cell_tmp 4 5 37 _ _ rfl rfl (ld4 K0.out)) rfl ⟨?_, below_setRow K4.out (by omega)⟩
      rw [← Hf.out.1, ← Hf.out.2]
      show Ending.returned (.tuple #[.agg (FC 4 f).toArray, .bool ((c : Int) == 1)]) = Ending.returned (.tuple #[.agg (FC 4 f).toArray, .bool (c == 1)])
      rw [int_one]
end Go.Proofs.Ytalfgagcfjddcaa.Wi
