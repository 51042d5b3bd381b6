/- The walk of chapter 5's law LargeOf. -/
import Derived.Test.YtalfgagcfjddcaaLaw05S
import Derived.Test.YtalfgagcfjddcaaLgC
import Derived.Test.YtalfgagcfjddcaaWiH
import Derived.Test.YtalfgagcfjddcaaWiC
import Derived.Test.YtalfgagcfjddcaaHf
namespace Go.Proofs.Ytalfgagcfjddcaa.Lg
open Go.RowKit Go.Proofs.Ytalfgagcfjddcaa.Mk Go.Proofs.Ytalfgagcfjddcaa.Ul Go.Proofs.Ytalfgagcfjddcaa.Wi Go.Proofs.Ytalfgagcfjddcaa.Wd Go.Proofs.Ytalfgagcfjddcaa.Hf
theorem beN_lt {h : List UInt8} (hl : h.length = 32) : beN h < (2 ^ 64) ^ 4 := beN32 hl
theorem bl256 {X : Nat} (h : X < (2 ^ 64) ^ 4) : X < (2 ^ 64) ^ 5 := Nat.lt_of_lt_of_le h (by decide)
theorem eqL_cells (f : Nat → Nat) (l : List Value) (hl : FC 5 f = l) (w : World) : (binOp .eql 49 (.agg (FC 5 f).toArray) (.agg l.toArray)).run Try.prog w = .ok (.bool true) w := by
  rw [← hl]
  have e1 : FC 5 f = ((List.range 5).map fun i => (f i : Int)).map (Value.int .u64) := by simp [FC]
  rw [e1, run_eql_ints w 49 35 .u64 5 UN5 U64' Try.sizeOf35 _ _ (by simp) (by simp)]
  simp
theorem ldU {w : World} {g : Nat} {v : Value} {i : Nat} (h : w.cell? ⟨g, i, none⟩ = some v) : (Instr.loadAt 35 (.pointer (some ⟨g, i, none⟩))).run Try.prog w = .ok v w := by go_simp
theorem UN4' : Try.prog.underlying 37 = some (.array 4 35) := by kernel_rfl
theorem ldAt4' {w : World} {g : Nat} {f : Nat → Nat} {t : TypeId} (h : FB g 4 f t w) : (Instr.loadAt 37 (.pointer (some ⟨g, 0, none⟩))).run Try.prog w = .ok (.agg (FC 4 f).toArray) w := by
  simp only [Instr.loadAt, Instr.sureAddr, Sem.run_bind, Sem.run_pure, Result.andThen_ok, run_loadVar_row w g t 37 _ _ _ h UN4' rfl (IN4 f)]
set_option maxHeartbeats 8000000 in
set_option maxRecDepth 100000 in
theorem largeOf_calls (x : Nat) (h : List UInt8) (w : World) (hx : x < 18446744073709551616) (hl : h.length = 32) : Calls Try.prog 10 #[.int .u64 x, hv h] w fun e w' => e = .returned (.bool true) ∧ Below w.heap.size w w' := by
  have HL := Lib.hid hl
  have hX := beN_lt hl
  have A1 := Lib.hid (fun w => of_calls h w hl)
  have A2 := Lib.hid (fun w => lwide_calls (beN h) w hX)
  have A3 := Lib.hid (fun w => lof_calls x w hx)
  have A4 := Lib.hid (fun w => llen_calls (beN h) w (bl256 hX))
  have A5 := Lib.hid (fun w => len_calls (beN h) w hX)
  have A6 := Lib.hid (fun w => awake5_calls w)
  have e1 := eqL_cells _ _ (lb_one hx)
  have e2 := eqL_cells (lb (beN h)) [.int .u64 (lb (beN h) 0 : Nat), .int .u64 (lb (beN h) 1 : Nat), .int .u64 (lb (beN h) 2 : Nat), .int .u64 (lb (beN h) 3 : Nat), .int .u64 0] (by rw [lb_wide hX]; rfl)
  have q2 := eqLg
  have S0 := Lib.hid (SQ.new w (.cells (hc h).toArray 23 (0, 0)))
  clear hx hl hX
  unfold UV hv at *
  generalize beN h = X at *
  generalize bl X = bx at *
  obtain ⟨F, hF⟩ : ∃ F, F = (FC 5 (lb x)).toArray := ⟨_, rfl⟩
  rw [← hF] at A3 e1
  clear hF
  obtain ⟨f, hf⟩ : ∃ f, f = lb X := ⟨_, rfl⟩
  rw [← hf] at A1 A2 A4 A5 e2
  clear hf
  go_enter Try.func10, Try.ntmps10
  go_wp2_with (first | (refine wpList_load_row (by rfl) 23 (.tmp 3) (by rfl) _ (by rfl) _ _ _ _ S0.out.a0 UH rfl (IHa HL.out) ?_))
  refine (A1.out _).mono ?_
  rintro e w1 ⟨rfl, hb1⟩
  have S := Lib.hid ((S0.out.keep hb1).alloc (.cells (FC 4 f).toArray 37 (0, 0)))
  clear hb1 S0
  go_wp2_with (first | (refine wpList_store_last rfl 37 _ _ rfl _ (FC 4 f).toArray rfl rfl (IN4 _) (by rw [FC_size]; rfl) (FC_one _ _) ?_) | (refine wpList_load_row (by rfl) 37 (.tmp 5) (by rfl) _ (by rfl) _ _ _ _ S.out.a0 UN4 rfl (IN4 _) ?_))
  refine (A2.out _).mono ?_
  rintro e w2 ⟨rfl, hb2⟩
  have S := Lib.hid ((S.out.keep hb2).alloc (oL f))
  clear hb2
  go_wp2_with (first | (refine wpList_store_last rfl 49 _ _ rfl _ (FC 5 f).toArray rfl rfl (IN5 _) (by rw [FC_size]; rfl) (FC_one _ _) ?_))
  generalize World.alloc w2 _ = W at *
  have M1 := Lib.hid (fun wx (hx : Below W.heap.size W wx) => ldAt5 ((S.out.keep hx).a0))
  have C0 := Lib.hid (fun wx (hx : Below W.heap.size W wx) => ldU (FB.cell (i := 0) (S.out.keep hx).a1 (by decide)))
  have C1 := Lib.hid (fun wx (hx : Below W.heap.size W wx) => ldU (FB.cell (i := 1) (S.out.keep hx).a1 (by decide)))
  have C2 := Lib.hid (fun wx (hx : Below W.heap.size W wx) => ldU (FB.cell (i := 2) (S.out.keep hx).a1 (by decide)))
  have C3 := Lib.hid (fun wx (hx : Below W.heap.size W wx) => ldU (FB.cell (i := 3) (S.out.keep hx).a1 (by decide)))
  have M2 := Lib.hid (fun wx (hx : Below W.heap.size W wx) => ldAt4' ((S.out.keep hx).a1))
  have P3 := Lib.hid (fun wx (_ : Below W.heap.size W wx) => A3.out wx)
  have P4 := Lib.hid (fun wx (_ : Below W.heap.size W wx) => A4.out wx)
  have P5 := Lib.hid (fun wx (_ : Below W.heap.size W wx) => A5.out wx)
  have P6 := Lib.hid (fun wx (_ : Below W.heap.size W wx) => A6.out wx)
  clear A1 A2 A3 A4 A5 A6
  refine wp_region_quiet_below (by kernel_rfl) (by kernel_rfl) ?_
  repeat (first | ((refine wpQuiet_load rfl 49 _ rfl _ rfl _ (rg_fact M1.out) ?_); simp only [Act.put, List.setIfInBounds_toArray, List.set_cons_zero, List.set_cons_succ]) | ((refine wpQuiet_load rfl 35 _ rfl _ rfl _ (rg_fact C0.out) ?_); simp only [Act.put, List.setIfInBounds_toArray, List.set_cons_zero, List.set_cons_succ]) | ((refine wpQuiet_load rfl 35 _ rfl _ rfl _ (rg_fact C1.out) ?_); simp only [Act.put, List.setIfInBounds_toArray, List.set_cons_zero, List.set_cons_succ]) | ((refine wpQuiet_load rfl 35 _ rfl _ rfl _ (rg_fact C2.out) ?_); simp only [Act.put, List.setIfInBounds_toArray, List.set_cons_zero, List.set_cons_succ]) | ((refine wpQuiet_load rfl 35 _ rfl _ rfl _ (rg_fact C3.out) ?_); simp only [Act.put, List.setIfInBounds_toArray, List.set_cons_zero, List.set_cons_succ]) | ((refine wpQuiet_load rfl 37 _ rfl _ rfl _ (rg_fact M2.out) ?_); simp only [Act.put, List.setIfInBounds_toArray, List.set_cons_zero, List.set_cons_succ]) | (((refine wpQuiet_call rfl 43 _ ?_ _ (rg_of P3.out) ?_); focus (intro wx; go_simp; done)); simp only [Act.put, List.setIfInBounds_toArray, List.set_cons_zero, List.set_cons_succ]) | (((refine wpQuiet_call rfl 39 _ ?_ _ (rg_of P4.out) ?_); focus (intro wx; go_simp; done)); simp only [Act.put, List.setIfInBounds_toArray, List.set_cons_zero, List.set_cons_succ]) | (((refine wpQuiet_call rfl 28 _ ?_ _ (rg_of P5.out) ?_); focus (intro wx; go_simp; done)); simp only [Act.put, List.setIfInBounds_toArray, List.set_cons_zero, List.set_cons_succ]) | (((refine wpQuiet_call rfl 41 _ ?_ _ (rg_of P6.out) ?_); focus (intro wx; go_simp; done)); simp only [Act.put, List.setIfInBounds_toArray, List.set_cons_zero, List.set_cons_succ]) | go_big_quiet_step (fail) | quiet_step (fail))
  refine wpQuiet_nil ?_
  rintro _ ⟨rp, rfl⟩
  have hb5 := below_regrown W rp.d rp.os
  generalize Sort.grow (redrawn W rp.d) rp.os = w5 at *
  have hfin := Lib.hid (below_up S.out.2 hb5)
  clear hb5
  go_wp2_with fail
  go_ret
  exact ⟨rfl, hfin.out⟩
end Go.Proofs.Ytalfgagcfjddcaa.Lg
