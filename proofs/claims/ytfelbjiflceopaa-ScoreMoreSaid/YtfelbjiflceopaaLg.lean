/- The walks of chapter 5's functions on numbers of 320 bits: sums. -/
import Derived.Test.YtfelbjiflceopaaLgMath
import Derived.Test.YtfelbjiflceopaaRow1
import Derived.Test.YtfelbjiflceopaaStepG
import Derived.IntWalk
import Derived.Test.YtfelbjiflceopaaProg
namespace Go.Proofs.Ytfelbjiflceopaa.Lg
open Go.RowKit Go.Proofs.Ytfelbjiflceopaa.Mk Go.Proofs.Ytfelbjiflceopaa.Ul Go.Proofs.Ytfelbjiflceopaa.Wi
theorem UN5 : Try.prog.underlying 26 = some (.array 5 24) := by kernel_rfl
theorem IN5 (f : Nat → Nat) : (Try.prog.info? 26).map (·.size) = some (FC 5 f).toArray.size := by rw [FC_size]; kernel_rfl
theorem SZ5 (f g : Nat → Nat) : (FC 5 f).toArray.size = (FC 5 g).toArray.size := by rw [FC_size, FC_size]
theorem zero5 : #[Value.int .u64 0, .int .u64 0, .int .u64 0, .int .u64 0, .int .u64 0] = (FC 5 fun _ => 0).toArray := by rfl
theorem ld5 {g : Nat} {f f0 : Nat → Nat} {t : TypeId} {w : World} (h : FB g 5 f0 t w) : (loadVar 26 ⟨g, 0, none⟩).run Try.prog (w.setRow g (FC 5 f).toArray) = .ok (.agg (FC 5 f).toArray) (w.setRow g (FC 5 f).toArray) :=
  run_loadVar_row _ _ _ _ _ _ _ (setRow_heap _ _ _ _ _ _ h) UN5 rfl (IN5 f)
theorem ldAt5 {w : World} {g : Nat} {f : Nat → Nat} {t : TypeId} (h : FB g 5 f t w) : (Instr.loadAt 26 (.pointer (some ⟨g, 0, none⟩))).run Try.prog w = .ok (.agg (FC 5 f).toArray) w := by
  simp only [Instr.loadAt, Instr.sureAddr, Sem.run_bind, Sem.run_pure, Result.andThen_ok, run_loadVar_row w g t 26 _ _ _ h UN5 rfl (IN5 f)]
theorem build_L {o : Oper} {a : Act} {w : World} (ho : o.op = .build 26 #[]) : (execOp a.eval o).run Try.prog w = .ok (.value (.agg (FC 5 fun _ => 0).toArray)) w := by
  unfold execOp
  simp only [ho]
  kernel_rfl
/-- three blocks of five cells, the result's with nothing in it -/
def T5 (g1 g2 g3 g4 : Nat) (f1 f2 f3 : Nat → Nat) (w0 wr : World) : Prop := FB g4 5 (fun _ => 0) 26 wr ∧ FB g1 5 f1 26 wr ∧ FB g2 5 f2 26 wr ∧ FB g3 5 f3 26 wr ∧ Below w0.heap.size w0 wr
theorem T5.step {g1 g2 g3 g4 : Nat} {f1 f2 f3 f4 : Nat → Nat} {w0 wr : World} (h : T5 g1 g2 g3 g4 f1 f2 f3 w0 wr) (n : Nat) {k v : Nat} (hk : k < 5) (h1 : g1 ≠ g3) (h2 : g2 ≠ g3) (h4 : g4 ≠ g3) (h3 : w0.heap.size ≤ g3) (he : upd f3 k v = f4) :
    T5 g1 g2 g3 g4 f1 f2 f4 w0 ((wr.drewN n).setCell ⟨g3, k, none⟩ (.int .u64 (v : Nat))) := by
  rw [← he]
  exact ⟨(h.1.drewN n).other h4 _, (h.2.1.drewN n).other h1 _, (h.2.2.1.drewN n).other h2 _, (h.2.2.2.1.drewN n).set v hk, (bdN h.2.2.2.2 n).setCell (p := ⟨g3, k, none⟩) h3 _⟩
set_option maxHeartbeats 4000000 in
set_option maxRecDepth 100000 in
theorem ladd_calls (X Y : Nat) (w : World) (hX : X < (2 ^ 64) ^ 5) (hY : Y < (2 ^ 64) ^ 5) :
    Calls Try.prog 53 #[UV 5 X, UV 5 Y] w fun e w' => e = .returned (LR (X + Y)) ∧ Below w.heap.size w w' := by
  have Hc0 := Lib.hid (cr_zero X Y)
  have H5 := Lib.hid (cr5 hX hY)
  clear hX hY
  unfold UV
  go_enter Try.func53, Try.ntmps53
  go_wp2_with fail
  rw [zero5]
  generalize hW : World.alloc (World.alloc (World.alloc (World.alloc w _) _) _) _ = W
  have H0 : T5 w.heap.size (w.heap.size + 1) (w.heap.size + 1 + 1 + 1) (w.heap.size + 1 + 1) (lb X) (lb Y) (fun _ => 0) w W := by
    rw [← hW]
    exact ⟨FB.alloc (nw3 _ _ _ _) _, FB.alloc (FB.alloc (FB.alloc (nw1 _ _) _) _) _, FB.alloc (FB.alloc (nw2 _ _ _) _) _, nw4 _ _ _ _ _, bl4 _ _ _ _ _⟩
  clear hW
  have H0 := Lib.hid H0
  go_loopw [7, 11] (fun s7 s11 wr => ∃ k : Nat, k ≤ 5 ∧ s11 = .int .i64 k ∧ s7 = .int .u64 (cr X Y k) ∧ Hid (T5 w.heap.size (w.heap.size + 1) (w.heap.size + 1 + 1 + 1) (w.heap.size + 1 + 1) (lb X) (lb Y) (fun i => if i < k then lb (X + Y) i else 0) w wr)) (fun _ s11 _ => 5 - (intOf s11).toNat)
  case atStart => exact ⟨0, by omega, rfl, by rw [Hc0.out]; rfl, H0⟩
  case round =>
    obtain ⟨k, hk, rfl, rfl, hq⟩ := hrel
    by_cases hkl : k < 5
    · obtain ⟨h0, h1, h2, h3, h4⟩ := hq.out
      have c1 := h1.cell hkl
      have c2 := h2.cell hkl
      have c3 := h3.cell hkl
      have z3 := h3.free k
      have HK := Lib.hid (And.intro hq.out hkl)
      clear h0 h1 h2 h3 h4 hq
      have ha := lb_lt X k
      have hb := lb_lt Y k
      have hc := cr_le X Y k
      have hh := add_halves ha hb hc
      rw [← lb_add, ← cr_succ] at hh
      have HH := Lib.hid hh
      have E3 := Lib.hid (upd_lt (lb (X + Y)) k)
      clear hc hh
      generalize lb X k = a at *
      generalize lb Y k = b at *
      generalize cr X Y k = c at *
      go_wp2_with fail
      go_quiet (fail)
      go_wp2_with fail
      go_quiet (fail)
      go_wp2_with fail
      go_roundw
      case rel => exact ⟨k + 1, by have := HK.out.2; omega, by go_num, by rw [HH.out.1], by rw [HH.out.2]; exact Lib.hid (HK.out.1.step _ HK.out.2 (by omega) (by omega) (by omega) (by omega) E3.out)⟩
      case measure => simp [intOf] <;> omega
    · obtain rfl : k = 5 := by omega
      obtain ⟨h0, h1, h2, h3, h4⟩ := hq.out
      have h3' : FB (w.heap.size + 1 + 1 + 1) 5 (lb (X + Y)) 26 wr := h3.ext (fun i hi => if_pos hi)
      have K3 := Lib.hid h3'
      have K0 := Lib.hid h0
      have K4 := Lib.hid h4
      clear h0 h1 h2 h3 h4 h3' hq
      by_cases hz : cr X Y 5 = 0
      · have HE := Lib.hid (LR_yes (H5.out.1 hz))
        unfold UV at HE
        obtain ⟨f, hf⟩ : ∃ f, f = lb (X + Y) := ⟨_, rfl⟩
        rw [← hf] at K3 HE
        rw [hz]
        clear hf hz
        go_wp2_with (first | (refine wpList_load_row (by rfl) 26 (.tmp 6) (by rfl) _ (by rfl) _ _ _ _ K3.out UN5 rfl (IN5 f) ?_) | (refine wpList_store_row (by rfl) 26 _ _ rfl _ (FC 5 f).toArray rfl rfl _ _ K0.out (IN5 f) (SZ5 _ f) (FC_one 5 f) ?_))
        exact bodyPost_ret (res_cell_tmp 4 5 26 _ _ rfl rfl (ld5 K0.out)) rfl ⟨by rw [HE.out]; rfl, below_setRow K4.out (by omega)⟩
      · have HE := Lib.hid (LR_no (fun h => hz (H5.out.2 h)))
        unfold UV at HE
        rw [lb_zero] at HE
        have hz3 : ((cr X Y 5 : Int) != 0) = true := by simp; omega
        clear hz
        generalize hcr : cr X Y 5 = c at hz3 ⊢
        clear hcr
        go_wp2_with (first | (refine wpList_value (by rfl) _ (build_L rfl) ?_) | (refine wpList_store_row (by rfl) 26 _ _ rfl _ (FC 5 fun _ => 0).toArray rfl rfl _ _ K0.out (IN5 _) (SZ5 _ _) (FC_one 5 _) ?_))
        exact bodyPost_ret (res_cell_tmp 4 5 26 _ _ rfl rfl (ld5 K0.out)) rfl ⟨by rw [HE.out]; rfl, below_setRow K4.out (by omega)⟩
end Go.Proofs.Ytfelbjiflceopaa.Lg
