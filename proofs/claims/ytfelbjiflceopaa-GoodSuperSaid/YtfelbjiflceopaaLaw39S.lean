/- The walks of chapter 39's laws GoodLocal and GoodSuper. -/
import Derived.Test.YtfelbjiflceopaaLaw39
namespace Go.Proofs.Ytfelbjiflceopaa.Gd
open Go.RowKit Go.Proofs.Ytfelbjiflceopaa.Mk Go.Proofs.Ytfelbjiflceopaa.Ul Go.Proofs.Ytfelbjiflceopaa.Lg Go.Proofs.Ytfelbjiflceopaa.Up Go.Proofs.Ytfelbjiflceopaa.Rt
theorem ldI {w : World} {p : Addr} {v : Value} (h : w.cell? p = some v) : (Instr.loadAt 3 (.pointer (some p))).run Try.prog w = .ok v w := by go_simp
def oI3 (x y z : Int) : Obj := .cells #[.int .i64 x, .int .i64 y, .int .i64 z] 40 (0, 0)
def oI2 (x y : Int) : Obj := .cells #[.int .i64 x, .int .i64 y] 41 (0, 0)
set_option maxHeartbeats 8000000 in
set_option maxRecDepth 100000 in
theorem goodLocal_calls (n d level a b : Int) (w : World) :
    Calls Try.prog 9 #[.agg #[.int .i64 n, .int .i64 d, .int .i64 level], .agg #[.int .i64 a, .int .i64 b]] w fun e w' => e = .returned (.bool true) ∧ Below w.heap.size w w' := by
  have S0 := Lib.hid (SQ.new2 w (oI3 n d level) (oI2 a b))
  have A1 := Lib.hid (fun w => loc_calls n d level a b w)
  have A2 := Lib.hid (fun w => rloc_calls n d level a b w)
  have A6 := Lib.hid (fun w => awake39_calls w)
  have hqq : (locS n d level a b == locS n d level a b) = true := by simp
  generalize locS n d level a b = q at *
  have C0 := Lib.hid (fun (wx : World) (L : SQ [(w.heap.size + 1, oI2 a b), (w.heap.size, oI3 n d level)] w wx) => ldI (cell_of_row wx w.heap.size 0 _ _ _ L.a1))
  have C1 := Lib.hid (fun (wx : World) (L : SQ [(w.heap.size + 1, oI2 a b), (w.heap.size, oI3 n d level)] w wx) => ldI (cell_of_row wx w.heap.size 1 _ _ _ L.a1))
  have C2 := Lib.hid (fun (wx : World) (L : SQ [(w.heap.size + 1, oI2 a b), (w.heap.size, oI3 n d level)] w wx) => ldI (cell_of_row wx w.heap.size 2 _ _ _ L.a1))
  have D0 := Lib.hid (fun (wx : World) (L : SQ [(w.heap.size + 1, oI2 a b), (w.heap.size, oI3 n d level)] w wx) => ldI (cell_of_row wx (w.heap.size + 1) 0 _ _ _ L.a0))
  have D1 := Lib.hid (fun (wx : World) (L : SQ [(w.heap.size + 1, oI2 a b), (w.heap.size, oI3 n d level)] w wx) => ldI (cell_of_row wx (w.heap.size + 1) 1 _ _ _ L.a0))
  go_enter Try.func9, Try.ntmps9
  go_wp2_with fail
  change Code.wp _ _ _ _ ((w.alloc (oI3 n d level)).alloc (oI2 a b))
  generalize World.alloc (World.alloc w _) _ = W at *
  have L0 := Lib.hid (fun wx (hx : Below W.heap.size W wx) => C0.out wx (S0.out.keep hx))
  have L1 := Lib.hid (fun wx (hx : Below W.heap.size W wx) => C1.out wx (S0.out.keep hx))
  have L2 := Lib.hid (fun wx (hx : Below W.heap.size W wx) => C2.out wx (S0.out.keep hx))
  refine wp_region_quiet_below (by kernel_rfl) (by kernel_rfl) ?_
  repeat (first | ((refine wpQuiet_load rfl 3 _ rfl _ rfl _ (rg_fact L0.out) ?_); simp only [Act.put, List.setIfInBounds_toArray, List.set_cons_zero, List.set_cons_succ]) | ((refine wpQuiet_load rfl 3 _ rfl _ rfl _ (rg_fact L1.out) ?_); simp only [Act.put, List.setIfInBounds_toArray, List.set_cons_zero, List.set_cons_succ]) | ((refine wpQuiet_load rfl 3 _ rfl _ rfl _ (rg_fact L2.out) ?_); simp only [Act.put, List.setIfInBounds_toArray, List.set_cons_zero, List.set_cons_succ]) | go_big_quiet_step (fail) | quiet_step (fail))
  refine wpQuiet_nil ?_
  rintro _ ⟨rp, rfl⟩
  have hb1 := below_regrown W rp.d rp.os
  generalize Sort.grow (redrawn W rp.d) rp.os = w1 at *
  have S := Lib.hid (S0.out.keep hb1)
  clear hb1 S0 L0 L1 L2
  have L3 := Lib.hid (fun wx (hx : Below w1.heap.size w1 wx) => D0.out wx (S.out.keep hx))
  have L4 := Lib.hid (fun wx (hx : Below w1.heap.size w1 wx) => D1.out wx (S.out.keep hx))
  have P1 := Lib.hid (fun wx (_ : Below w1.heap.size w1 wx) => A1.out wx)
  have P2 := Lib.hid (fun wx (_ : Below w1.heap.size w1 wx) => A2.out wx)
  have P6 := Lib.hid (fun wx (_ : Below w1.heap.size w1 wx) => A6.out wx)
  clear A1 A2 A6 C0 C1 C2 D0 D1
  go_wp2_with fail
  refine wp_region_quiet_below (by kernel_rfl) (by kernel_rfl) ?_
  repeat (first | ((refine wpQuiet_load rfl 3 _ rfl _ rfl _ (rg_fact L3.out) ?_); simp only [Act.put, List.setIfInBounds_toArray, List.set_cons_zero, List.set_cons_succ]) | ((refine wpQuiet_load rfl 3 _ rfl _ rfl _ (rg_fact L4.out) ?_); simp only [Act.put, List.setIfInBounds_toArray, List.set_cons_zero, List.set_cons_succ]) | (((refine wpQuiet_call rfl 33 _ ?_ _ (rg_of P1.out) ?_); focus (intro wx; go_simp; done)); simp only [Act.put, List.setIfInBounds_toArray, List.set_cons_zero, List.set_cons_succ]) | (((refine wpQuiet_call rfl 34 _ ?_ _ (rg_of P2.out) ?_); focus (intro wx; go_simp; done)); simp only [Act.put, List.setIfInBounds_toArray, List.set_cons_zero, List.set_cons_succ]) | (((refine wpQuiet_call rfl 35 _ ?_ _ (rg_of P6.out) ?_); focus (intro wx; go_simp; done)); simp only [Act.put, List.setIfInBounds_toArray, List.set_cons_zero, List.set_cons_succ]) | go_big_quiet_step (fail) | quiet_step (fail))
  refine wpQuiet_nil ?_
  rintro _ ⟨rp, rfl⟩
  have hb5 := below_regrown w1 rp.d rp.os
  generalize Sort.grow (redrawn w1 rp.d) rp.os = w5 at *
  have hfin := Lib.hid (below_up S.out.2 hb5)
  clear hb5
  go_wp2_with fail
  go_ret
  exact ⟨rfl, hfin.out⟩
set_option maxHeartbeats 8000000 in
set_option maxRecDepth 100000 in
theorem goodSuper_calls (v : Value) (zs : List Int) (level m a b : Int) (w : World) (hz : ZS w v zs) :
    Calls Try.prog 10 #[v, .agg #[.int .i64 level, .int .i64 m], .agg #[.int .i64 a, .int .i64 b]] w fun e w' => e = .returned (.bool true) ∧ Below w.heap.size w w' := by
  have hbd := hz.len1
  have S0 := Lib.hid (SQ.new2 w (oI2 level m) (oI2 a b))
  have A6 := Lib.hid (fun w => awake39_calls w)
  have C0 := Lib.hid (fun (wx : World) (L : SQ [(w.heap.size + 1, oI2 a b), (w.heap.size, oI2 level m)] w wx) => ldI (cell_of_row wx w.heap.size 0 _ _ _ L.a1))
  have C1 := Lib.hid (fun (wx : World) (L : SQ [(w.heap.size + 1, oI2 a b), (w.heap.size, oI2 level m)] w wx) => ldI (cell_of_row wx w.heap.size 1 _ _ _ L.a1))
  have D0 := Lib.hid (fun (wx : World) (L : SQ [(w.heap.size + 1, oI2 a b), (w.heap.size, oI2 level m)] w wx) => ldI (cell_of_row wx (w.heap.size + 1) 0 _ _ _ L.a0))
  have D1 := Lib.hid (fun (wx : World) (L : SQ [(w.heap.size + 1, oI2 a b), (w.heap.size, oI2 level m)] w wx) => ldI (cell_of_row wx (w.heap.size + 1) 1 _ _ _ L.a0))
  obtain ⟨A, cap, rfl, _⟩ := hz.cell1
  by_cases hl : 60 < zs.length
  · have t0 : decide ((60 : Int) < (zs.length : Int)) = true := decide_eq_true (by omega)
    clear hl hz
    go_enter Try.func10, Try.ntmps10
    go_wp2_with fail
    change Code.wp _ _ _ _ ((w.alloc (oI2 level m)).alloc (oI2 a b))
    generalize World.alloc (World.alloc w _) _ = W at *
    have L0 := Lib.hid (fun wx (hx : Below W.heap.size W wx) => C0.out wx (S0.out.keep hx))
    have L1 := Lib.hid (fun wx (hx : Below W.heap.size W wx) => C1.out wx (S0.out.keep hx))
    clear C0 C1 D0 D1
    refine wp_region_quiet_below (by kernel_rfl) (by kernel_rfl) ?_
    repeat (first | ((refine wpQuiet_load rfl 3 _ rfl _ rfl _ (rg_fact L0.out) ?_); simp only [Act.put, List.setIfInBounds_toArray, List.set_cons_zero, List.set_cons_succ]) | ((refine wpQuiet_load rfl 3 _ rfl _ rfl _ (rg_fact L1.out) ?_); simp only [Act.put, List.setIfInBounds_toArray, List.set_cons_zero, List.set_cons_succ]) | go_big_quiet_step (fail) | quiet_step (fail))
    refine wpQuiet_nil ?_
    rintro _ ⟨rp, rfl⟩
    have hb1 := below_regrown W rp.d rp.os
    generalize Sort.grow (redrawn W rp.d) rp.os = w1 at *
    have S := Lib.hid (S0.out.keep hb1)
    clear hb1 S0 L0 L1
    go_wp2_with fail
    refine (A6.out _).mono ?_
    rintro e w2 ⟨rfl, hb2⟩
    have S := Lib.hid (S.out.keep hb2)
    clear hb2
    go_wp2_with fail
    go_ret
    exact ⟨rfl, S.out.2⟩
  · have t0 : decide ((60 : Int) < (zs.length : Int)) = false := decide_eq_false (by omega)
    have HZ := Lib.hid (fun wx (hx : Below w.heap.size w wx) => hz.below hx)
    have A1 := Lib.hid (fun wx (hx : Below w.heap.size w wx) => super_calls _ zs level m a b wx (HZ.out wx hx) (by omega))
    have A2 := Lib.hid (fun wx (hx : Below w.heap.size w wx) => rsuper_calls _ zs level m a b wx (HZ.out wx hx))
    have hqq : (supS zs level m a b == supS zs level m a b) = true := by simp
    clear hl hz HZ
    generalize supS zs level m a b = q at *
    go_enter Try.func10, Try.ntmps10
    go_wp2_with fail
    change Code.wp _ _ _ _ ((w.alloc (oI2 level m)).alloc (oI2 a b))
    generalize World.alloc (World.alloc w _) _ = W at *
    have L0 := Lib.hid (fun wx (hx : Below W.heap.size W wx) => C0.out wx (S0.out.keep hx))
    have L1 := Lib.hid (fun wx (hx : Below W.heap.size W wx) => C1.out wx (S0.out.keep hx))
    refine wp_region_quiet_below (by kernel_rfl) (by kernel_rfl) ?_
    repeat (first | ((refine wpQuiet_load rfl 3 _ rfl _ rfl _ (rg_fact L0.out) ?_); simp only [Act.put, List.setIfInBounds_toArray, List.set_cons_zero, List.set_cons_succ]) | ((refine wpQuiet_load rfl 3 _ rfl _ rfl _ (rg_fact L1.out) ?_); simp only [Act.put, List.setIfInBounds_toArray, List.set_cons_zero, List.set_cons_succ]) | go_big_quiet_step (fail) | quiet_step (fail))
    refine wpQuiet_nil ?_
    rintro _ ⟨rp, rfl⟩
    have hb1 := below_regrown W rp.d rp.os
    generalize Sort.grow (redrawn W rp.d) rp.os = w1 at *
    have S := Lib.hid (S0.out.keep hb1)
    clear hb1 S0 L0 L1
    have L3 := Lib.hid (fun wx (hx : Below w1.heap.size w1 wx) => D0.out wx (S.out.keep hx))
    have L4 := Lib.hid (fun wx (hx : Below w1.heap.size w1 wx) => D1.out wx (S.out.keep hx))
    have P1 := Lib.hid (fun wx (hx : Below w1.heap.size w1 wx) => A1.out wx (S.out.keep hx).2)
    have P2 := Lib.hid (fun wx (hx : Below w1.heap.size w1 wx) => A2.out wx (S.out.keep hx).2)
    have P6 := Lib.hid (fun wx (_ : Below w1.heap.size w1 wx) => A6.out wx)
    clear A1 A2 A6 C0 C1 D0 D1
    go_wp2_with fail
    refine wp_region_quiet_below (by kernel_rfl) (by kernel_rfl) ?_
    repeat (first | ((refine wpQuiet_load rfl 3 _ rfl _ rfl _ (rg_fact L3.out) ?_); simp only [Act.put, List.setIfInBounds_toArray, List.set_cons_zero, List.set_cons_succ]) | ((refine wpQuiet_load rfl 3 _ rfl _ rfl _ (rg_fact L4.out) ?_); simp only [Act.put, List.setIfInBounds_toArray, List.set_cons_zero, List.set_cons_succ]) | (((refine wpQuiet_call rfl 36 _ ?_ _ (rg_of P1.out) ?_); focus (intro wx; go_simp; done)); simp only [Act.put, List.setIfInBounds_toArray, List.set_cons_zero, List.set_cons_succ]) | (((refine wpQuiet_call rfl 37 _ ?_ _ (rg_of P2.out) ?_); focus (intro wx; go_simp; done)); simp only [Act.put, List.setIfInBounds_toArray, List.set_cons_zero, List.set_cons_succ]) | (((refine wpQuiet_call rfl 35 _ ?_ _ (rg_of P6.out) ?_); focus (intro wx; go_simp; done)); simp only [Act.put, List.setIfInBounds_toArray, List.set_cons_zero, List.set_cons_succ]) | go_big_quiet_step (fail) | quiet_step (fail))
    refine wpQuiet_nil ?_
    rintro _ ⟨rp, rfl⟩
    have hb5 := below_regrown w1 rp.d rp.os
    generalize Sort.grow (redrawn w1 rp.d) rp.os = w5 at *
    have hfin := Lib.hid (below_up S.out.2 hb5)
    clear hb5
    go_wp2_with fail
    go_ret
    exact ⟨rfl, hfin.out⟩
end Go.Proofs.Ytfelbjiflceopaa.Gd
