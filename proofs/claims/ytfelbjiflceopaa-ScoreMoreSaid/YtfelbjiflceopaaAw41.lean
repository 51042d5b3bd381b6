/- The walk of chapter 41's examples. -/
import Derived.Test.YtfelbjiflceopaaScC
import Derived.Deep.DeepCutAuto
namespace Go.Proofs.Ytfelbjiflceopaa.Sc
open Go.RowKit Go.Proofs.Ytfelbjiflceopaa.Mk Go.Proofs.Ytfelbjiflceopaa.Ul Go.Proofs.Ytfelbjiflceopaa.Wi Go.Proofs.Ytfelbjiflceopaa.Lg Go.Proofs.Ytfelbjiflceopaa.Up Go.Proofs.Ytfelbjiflceopaa.R5
theorem cnt_none {zs : List Int} {l : Int} (h : ∀ z ∈ zs, z < l) : cnt zs l = 0 := by
  unfold cnt plc
  rw [List.length_eq_zero_iff, List.filter_eq_nil_iff]
  intro i hi
  have hi := List.mem_range.1 hi
  rw [List.getElem?_eq_getElem hi]
  have := h zs[i] (List.getElem_mem hi)
  simp
  omega
theorem bst_far {zs : List Int} {m : Int} {n : Nat} (h : ∀ z ∈ zs, z < (n : Int)) : ∀ d, bst zs m (n + d) = bst zs m n
  | 0 => rfl
  | d + 1 => by
    rw [show n + (d + 1) = n + d + 1 from rfl, bst_no, bst_far h d]
    rintro ⟨_, h2⟩
    have : valS zs ((n + d : Nat) : Int) = 0 := by
      unfold valS
      split
      · rw [cnt_none (fun z hz => by have := h z hz; omega), Nat.zero_mul]
      · rfl
    omega
theorem aw41 : bst [0, 0, 3] 1 256 = (8, 3) ∧ bst [0, 0, 3] 2 256 = (3, 0) := by
  have h : ∀ z ∈ ([0, 0, 3] : List Int), z < ((4 : Nat) : Int) := by decide
  constructor
  · rw [show (256 : Nat) = 4 + 252 from rfl, bst_far h]
    decide +kernel
  · rw [show (256 : Nat) = 4 + 252 from rfl, bst_far h]
    decide +kernel
theorem sc83 : (scC 8 3).toArray = #[.int .u64 8, .int .u64 0, .int .u64 0, .int .u64 0, .int .u64 0, .int .i64 3] := by
  unfold scC
  rw [lb_one (by decide)]
  rfl
theorem sc30 : (scC 3 0).toArray = #[.int .u64 3, .int .u64 0, .int .u64 0, .int .u64 0, .int .u64 0, .int .i64 0] := by
  unfold scC
  rw [lb_one (by decide)]
  rfl
theorem zs3 {w : World} {g : Nat} (h : w.heap[g]? = some (.cells #[.int .i64 0, .int .i64 0, .int .i64 3] 3 (0, 0))) : ZS w (.slice (some ⟨g, 0, none⟩) 3 3) [0, 0, 3] :=
  SL.of_block (enc := E1 zI) (sz := 1) (t := 3) (l := [0, 0, 3]) h (fun x hx => rfl) (by decide) 3 rfl
theorem ld6 {w : World} {g : Nat} {a b c d e f : Value} (h : w.heap[g]? = some (.cells #[a, b, c, d, e, f] 35 (0, 0))) : (Instr.loadAt 35 (.pointer (some ⟨g, 0, none⟩))).run Try.prog w = .ok (.agg #[a, b, c, d, e, f]) w := by
  simp only [Instr.loadAt, Instr.sureAddr, Sem.run_bind, Sem.run_pure, Result.andThen_ok, run_loadVar_row w g _ 35 _ _ _ h USc rfl (by show _ = some 6; kernel_rfl)]
set_option maxHeartbeats 4000000 in
set_option maxRecDepth 100000 in
theorem awake41_calls (w : World) : Calls Try.prog 13 #[] w fun e w' => e = .returned (.bool true) ∧ Below w.heap.size w w' := by
  have A1 := (fun g wx h => best_calls (.slice (some ⟨g, 0, none⟩) 3 3) [0, 0, 3] 1 wx (zs3 h))
  have A2 := (fun g wx h => best_calls (.slice (some ⟨g, 0, none⟩) 3 3) [0, 0, 3] 2 wx (zs3 h))
  rw [aw41.1] at A1
  rw [aw41.2] at A2
  have A3 := (fun wx => lof_calls 8 wx (by decide))
  have A4 := (fun wx => lof_calls 3 wx (by decide))
  unfold UV at A3 A4
  rw [lb_one (by decide)] at A3 A4
  simp only [vSc] at A1 A2
  have e1 := eqSc (V := 8) (V' := 8) (L := 3) (L' := 3) (by decide) (by decide)
  have e2 := eqSc (V := 3) (V' := 3) (L := 0) (L' := 0) (by decide) (by decide)
  have g1 := eqScg 8 3 8 3
  have g2 := eqScg 3 0 3 0
  rw [show eqS 8 3 8 3 = true from by decide] at e1
  rw [show eqS 3 0 3 0 = true from by decide] at e2
  simp only [vSc, sc83] at e1 g1
  simp only [vSc, sc30] at e2 g2
  rw [sc83] at A1
  rw [sc30] at A2
  have A1 := Lib.hid A1
  have A2 := Lib.hid A2
  have A3 := Lib.hid A3
  have A4 := Lib.hid A4
  go_enter Try.func13, Try.ntmps13
  go_wp2_with fail
  refine (A1.out _ _ (heap_alloc_last _ _)).mono ?_
  rintro e w1 ⟨rfl, hb1⟩
  have S := Lib.hid ((SQ.new w (.cells #[.int .i64 0, .int .i64 0, .int .i64 3] 3 (0, 0))).keep hb1)
  clear hb1
  go_wp2_with fail
  refine (A2.out _ _ (heap_alloc_last _ _)).mono ?_
  rintro e w2 ⟨rfl, hb2⟩
  have S := Lib.hid ((S.out.alloc (.cells #[.int .i64 0, .int .i64 0, .int .i64 3] 3 (0, 0))).keep hb2)
  clear hb2
  go_upto_region 2 with fail
  have S := Lib.hid (S.out.alloc2 (.cells #[.int .u64 8, .int .u64 0, .int .u64 0, .int .u64 0, .int .u64 0, .int .i64 3] 35 (0, 0)) (.cells #[.int .u64 3, .int .u64 0, .int .u64 0, .int .u64 0, .int .u64 0, .int .i64 0] 35 (0, 0)))
  generalize World.alloc (World.alloc w2 _) _ = W at *
  have M1 := Lib.hid (fun wx (hx : Below W.heap.size W wx) => ld6 ((S.out.keep hx).a1))
  have M2 := Lib.hid (fun wx (hx : Below W.heap.size W wx) => ld6 ((S.out.keep hx).a0))
  have P3 := Lib.hid (fun wx (_ : Below W.heap.size W wx) => A3.out wx)
  have P4 := Lib.hid (fun wx (_ : Below W.heap.size W wx) => A4.out wx)
  clear A1 A2 A3 A4
  refine wp_region_quiet_below (by kernel_rfl) (by kernel_rfl) ?_
  repeat (first | ((refine wpQuiet_load rfl 35 _ rfl _ rfl _ (rg_fact M1.out) ?_); simp only [Act.put, List.setIfInBounds_toArray, List.set_cons_zero, List.set_cons_succ]) | ((refine wpQuiet_load rfl 35 _ rfl _ rfl _ (rg_fact M2.out) ?_); simp only [Act.put, List.setIfInBounds_toArray, List.set_cons_zero, List.set_cons_succ]) | (((refine wpQuiet_call rfl 40 _ ?_ _ (rg_of P3.out) ?_); focus (intro wx; go_simp; done)); simp only [Act.put, List.setIfInBounds_toArray, List.set_cons_zero, List.set_cons_succ]) | (((refine wpQuiet_call rfl 40 _ ?_ _ (rg_of P4.out) ?_); focus (intro wx; go_simp; done)); simp only [Act.put, List.setIfInBounds_toArray, List.set_cons_zero, List.set_cons_succ]) | go_big_quiet_step (fail) | quiet_step (fail))
  refine wpQuiet_nil ?_
  rintro _ ⟨rp, rfl⟩
  have hb5 := below_regrown W rp.d rp.os
  generalize Sort.grow (redrawn W rp.d) rp.os = w5 at *
  have hfin := Lib.hid (below_up S.out.2 hb5)
  clear hb5
  go_wp2_with fail
  go_ret
  exact ⟨rfl, hfin.out⟩
end Go.Proofs.Ytfelbjiflceopaa.Sc
