/- The walk of half a product. -/
import Derived.Test.YtfelbjiflceopaaLg
namespace Go.Proofs.Ytfelbjiflceopaa.Lg
open Go.RowKit Go.Proofs.Ytfelbjiflceopaa.Mk Go.Proofs.Ytfelbjiflceopaa.Ul Go.Proofs.Ytfelbjiflceopaa.Wi
/-- two blocks of five cells, the result's with nothing in it -/
def T4 (g1 g3 g4 : Nat) (f1 f3 : Nat → Nat) (w0 wr : World) : Prop := FB g4 5 (fun _ => 0) 26 wr ∧ FB g1 5 f1 26 wr ∧ FB g3 5 f3 26 wr ∧ Below w0.heap.size w0 wr
theorem T4.step {g1 g3 g4 : Nat} {f1 f3 f4 : Nat → Nat} {w0 wr : World} (h : T4 g1 g3 g4 f1 f3 w0 wr) {k v : Nat} (hk : k < 5) (h1 : g1 ≠ g3) (h4 : g4 ≠ g3) (h3 : w0.heap.size ≤ g3) (he : upd f3 k v = f4) :
    T4 g1 g3 g4 f1 f4 w0 (wr.setCell ⟨g3, k, none⟩ (.int .u64 (v : Nat))) := by
  rw [← he]
  exact ⟨h.1.other h4 _, h.2.1.other h1 _, h.2.2.1.set v hk, h.2.2.2.setCell (p := ⟨g3, k, none⟩) h3 _⟩
theorem T4.drewN {g1 g3 g4 : Nat} {f1 f3 : Nat → Nat} {w0 wr : World} (h : T4 g1 g3 g4 f1 f3 w0 wr) (n : Nat) : T4 g1 g3 g4 f1 f3 w0 (wr.drewN n) := ⟨h.1, h.2.1, h.2.2.1, bdN h.2.2.2 n⟩
theorem T4.drew {g1 g3 g4 : Nat} {f1 f3 : Nat → Nat} {w0 wr : World} (h : T4 g1 g3 g4 f1 f3 w0 wr) : T4 g1 g3 g4 f1 f3 w0 wr.drew := ⟨h.1, h.2.1, h.2.2.1, h.2.2.2.drew⟩
set_option maxHeartbeats 4000000 in
set_option maxRecDepth 100000 in
theorem half_calls (X y : Nat) (w : World) (hX : X < (2 ^ 64) ^ 5) (hy : y < 4294967296) :
    Calls Try.prog 52 #[UV 5 X, .int .u64 y] w fun e w' => e = .returned (.tuple #[UV 5 (X * y), .bool (fits (X * y))]) ∧ Below w.heap.size w w' := by
  have Hc0 := Lib.hid (mc_zero X y)
  have H5 := Lib.hid (mc5 (y := y) hX)
  clear hX
  unfold UV
  go_enter Try.func52, Try.ntmps52
  go_wp2_with fail
  rw [zero5]
  generalize hW : World.alloc (World.alloc (World.alloc w _) _) _ = W
  have H0 : Hid (T4 w.heap.size (w.heap.size + 1 + 1) (w.heap.size + 1) (lb X) (fun i => if i < 0 then lb (X * y) i else 0) w W) := Lib.hid (by
    rw [← hW]
    exact ⟨FB.alloc (nw2 _ _ _) _, FB.alloc (FB.alloc (nw1 _ _) _) _, nw3 _ _ _ _, bl3 _ _ _ _⟩)
  clear hW
  go_loopw [7, 11] (fun s7 s11 wr => ∃ k : Nat, k ≤ 5 ∧ s11 = .int .i64 k ∧ s7 = .int .u64 (mc X y k) ∧ Hid (T4 w.heap.size (w.heap.size + 1 + 1) (w.heap.size + 1) (lb X) (fun i => if i < k then lb (X * y) i else 0) w wr)) (fun _ s11 _ => 5 - (intOf s11).toNat)
  case atStart => exact ⟨0, by omega, rfl, by rw [Hc0.out]; rfl, H0⟩
  case round =>
    obtain ⟨k, hk, rfl, rfl, hq⟩ := hrel
    by_cases hkl : k < 5
    · obtain ⟨h0, h1, h3, h4⟩ := hq.out
      have c1 := h1.cell hkl
      have c3 := h3.cell hkl
      have z3 := h3.free k
      have HK := Lib.hid (And.intro hq.out hkl)
      clear h0 h1 h3 h4 hq
      have ha := lb_lt X k
      have hc := mc_le X y k
      have hh := mul_halves ha hy hc
      have hst := mc_step X y k
      rw [← hst.1, ← hst.2] at hh
      have HH := Lib.hid hh
      have E3 := Lib.hid (upd_lt (lb (X * y)) k)
      clear hc hh hst
      generalize lb X k = a at *
      generalize mc X y k = c at *
      go_wp2_with fail
      go_roundw
      case rel => exact ⟨k + 1, by have := HK.out.2; omega, by go_num, by rw [HH.out.1], by rw [HH.out.2]; exact Lib.hid (HK.out.1.step HK.out.2 (by omega) (by omega) (by omega) E3.out)⟩
      case measure => simp [intOf] <;> omega
    · obtain rfl : k = 5 := by omega
      obtain ⟨h0, h1, h3, h4⟩ := hq.out
      have h3' : FB (w.heap.size + 1 + 1) 5 (lb (X * y)) 26 wr := h3.ext (fun i hi => if_pos hi)
      have K3 := Lib.hid h3'
      have K0 := Lib.hid h0
      have K4 := Lib.hid h4
      clear h0 h1 h3 h4 h3' hq
      have hb : ((mc X y 5 : Int) == 0) = fits (X * y) := by
        unfold fits
        rw [Bool.eq_iff_iff, decide_eq_true_eq, ← H5.out, beq_iff_eq]
        omega
      have HB := Lib.hid hb
      obtain ⟨f, hf⟩ : ∃ f, f = lb (X * y) := ⟨_, rfl⟩
      rw [← hf] at K3
      have Hf := Lib.hid hf
      clear hf hb
      generalize hmc : mc X y 5 = c at *
      clear hmc
      go_wp2_with (first | (refine wpList_load_row (by rfl) 26 (.tmp 6) (by rfl) _ (by rfl) _ _ _ _ K3.out UN5 rfl (IN5 f) ?_) | (refine wpList_store_row (by rfl) 26 _ _ rfl _ (FC 5 f).toArray rfl rfl _ _ K0.out (IN5 f) (SZ5 _ f) (FC_one 5 f) ?_))
      exact bodyPost_ret (res_cell_tmp 4 5 26 _ _ rfl rfl (ld5 K0.out)) rfl ⟨by rw [← Hf.out, ← HB.out]; rfl, below_setRow K4.out (by omega)⟩
end Go.Proofs.Ytfelbjiflceopaa.Lg
