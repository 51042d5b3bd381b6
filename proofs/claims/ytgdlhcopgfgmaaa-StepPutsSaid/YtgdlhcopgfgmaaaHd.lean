/- The walks of a header's bytes. -/
import Derived.Test.YtgdlhcopgfgmaaaWdR
import Derived.Test.YtgdlhcopgfgmaaaHdMath
import Derived.Test.YtgdlhcopgfgmaaaStepG
namespace Go.Proofs.Ytgdlhcopgfgmaaa.Hd
open Go.RowKit Go.Proofs.Ytgdlhcopgfgmaaa.Mk Go.Proofs.Ytgdlhcopgfgmaaa.Wd Go.Proofs.Ytgdlhcopgfgmaaa.Cur
open Extern.Stop (cell)
def Hd.c (h : Hd) : List Value := .int .u32 h.ht :: (hc h.ln ++ (hc h.tx ++ [.int .u64 h.no]))
def Hd.v (h : Hd) : Value := .agg h.c.toArray
theorem Hd.c_len (h : Hd) (k : h.Ok) : h.c.length = 66 := by
  unfold Hd.c
  simp [hc_len, k.2.1, k.2.2.1]
theorem Hd.c_one (h : Hd) : h.c.toArray.all (·.oneCell') = true := by simp [Hd.c, hc, cell, Value.oneCell']
/-- block g holds a header's cells -/
def HB (g : Nat) (h : Hd) (t : TypeId) (w : World) : Prop := w.heap[g]? = some (.cells h.c.toArray t (0, 0))
theorem HB.c0 {g : Nat} {h : Hd} {t : TypeId} {w : World} (k : HB g h t w) : w.cell? ⟨g, 0, none⟩ = some (.int .u32 h.ht) := by
  rw [cell_of_row w g 0 _ _ _ k]; rfl
theorem HB.c65 {g : Nat} {h : Hd} {t : TypeId} {w : World} (k : HB g h t w) (o : h.Ok) : w.cell? ⟨g, 65, none⟩ = some (.int .u64 h.no) := by
  rw [cell_of_row w g 65 _ _ _ k, List.getElem?_toArray]
  unfold Hd.c
  rw [List.getElem?_cons_succ, List.getElem?_append_right (by rw [hc_len, o.2.1]; decide), hc_len, o.2.1, List.getElem?_append_right (by rw [hc_len, o.2.2.1]; decide), hc_len, o.2.2.1]
  rfl
theorem HB.ln {g : Nat} {h : Hd} {t : TypeId} {w : World} (k : HB g h t w) (o : h.Ok) : w.rangeAt g 1 (hc h.ln) := fun j v hv => by
  have hj : j < 32 := by have := (List.getElem?_eq_some_iff.1 hv).1; rwa [hc_len, o.2.1] at this
  rw [cell_of_row w g (1 + j) _ _ _ k, List.getElem?_toArray]
  unfold Hd.c
  rw [Nat.add_comm, List.getElem?_cons_succ, List.getElem?_append_left (by rw [hc_len, o.2.1]; exact hj)]
  exact hv
theorem HB.tx {g : Nat} {h : Hd} {t : TypeId} {w : World} (k : HB g h t w) (o : h.Ok) : w.rangeAt g 33 (hc h.tx) := fun j v hv => by
  have hj : j < 32 := by have := (List.getElem?_eq_some_iff.1 hv).1; rwa [hc_len, o.2.2.1] at this
  rw [cell_of_row w g (33 + j) _ _ _ k, List.getElem?_toArray]
  unfold Hd.c
  rw [show 33 + j = (32 + j) + 1 by omega, List.getElem?_cons_succ, List.getElem?_append_right (by rw [hc_len, o.2.1]; omega), hc_len, o.2.1, show 32 + j - 32 = j by omega, List.getElem?_append_left (by rw [hc_len, o.2.2.1]; exact hj)]
  exact hv
theorem HB.keep {g : Nat} {h : Hd} {t : TypeId} {w w' : World} (k : HB g h t w) (hb : Below w.heap.size w w') : HB g h t w' := (hb.block g (Array.getElem?_eq_some_iff.1 k).1).trans k
theorem IH : (Try.prog.info? 24).map (·.size) = some 32 := by kernel_rfl
theorem IHi : (Try.prog.info? 24).map (fun i => (i.zero, i.size, i.bytes)) = some (some (hv (List.replicate 32 0)), 32, 32) := by kernel_rfl
theorem UHs : Try.prog.underlying 62 = some (.slice 24) := by kernel_rfl
theorem UH : Try.prog.underlying 24 = some (.array 32 5) := by kernel_rfl
theorem UB : Try.prog.underlying 5 = some (.int .u8) := by kernel_rfl
theorem IHl {h : List UInt8} (hl : h.length = 32) : (Try.prog.info? 24).map (·.size) = some (hc h).length := by rw [IH, hc_len, hl]
theorem IHa {h : List UInt8} (hl : h.length = 32) : (Try.prog.info? 24).map (·.size) = some (hc h).toArray.size := by rw [IH]; simp [hc_len, hl]
theorem eqH {x y : List UInt8} (hx : x.length = 32) (hy : y.length = 32) : ∀ wx, (binOp .eql 24 (.agg (hc x).toArray) (.agg (hc y).toArray)).run Try.prog wx = .ok (.bool (x == y)) wx :=
  fun wx => run_eql_bytes (P := Try.prog) wx 24 5 32 UH UB Try.sizeOf5 x y hx hy
theorem neH {x y : List UInt8} (hx : x.length = 32) (hy : y.length = 32) : ∀ wx, (binOp .neq 24 (.agg (hc x).toArray) (.agg (hc y).toArray)).run Try.prog wx = .ok (.bool (!(x == y))) wx :=
  fun wx => run_neq_bytes (P := Try.prog) wx 24 5 32 UH UB Try.sizeOf5 x y hx hy
theorem run_load_u32 {w : World} {p : Addr} {s : Int} (h : w.cell? p = some (.int .u32 s)) : (Instr.loadAt 22 (.pointer (some p))).run Try.prog w = .ok (.int .u32 s) w := by go_simp
theorem run_load_u64 {w : World} {p : Addr} {s : Int} (h : w.cell? p = some (.int .u64 s)) : (Instr.loadAt 25 (.pointer (some p))).run Try.prog w = .ok (.int .u64 s) w := by go_simp
theorem run_conv {o : Oper} {a : Act} {P : Program} {w : World} {s d : TypeId} {x : Operand} {u r : Value} (ho : o.op = .convert s d x) (hx : a.eval x = u) (hr : (convert s d u).run P w = .ok r w) :
    (execOp a.eval o).run P w = .ok (.value r) w := by
  unfold execOp
  simp only [ho, hx, Sem.run_bind, hr, Result.andThen_ok, Sem.run_pure]
theorem conv_hash {g o : Nat} {l : List UInt8} {w : World} (h : w.rangeAt g o (hc l)) (hl : l.length = 32) : (convert 89 9 (.slice (some ⟨g, o, none⟩) 32 32)).run Try.prog w = .ok (.string (ba l)) w :=
  run_string_bytes (P := Try.prog) UBs UBy USt ⟨by rw [hl]; simp [maxLen], some ⟨g, o, none⟩, 32, by rw [hl], by rw [hl]; exact Nat.le_refl _, by simp [maxLen], fun _ => ⟨g, o, rfl, h⟩⟩
set_option maxHeartbeats 4000000 in
set_option maxRecDepth 100000 in
theorem bytes_calls (h : Hd) (w : World) (k : h.Ok) :
    Calls Try.prog 13 #[h.v] w fun e w' => e = .returned (.string (ba h.b)) ∧ Below w.heap.size w w' := by
  have hk0 : HB w.heap.size h 27 (w.alloc (.cells h.c.toArray 27)) := heap_new _ _
  have hB0 := Lib.hid (show Below w.heap.size w (w.alloc (.cells h.c.toArray 27)) from (Below.refl _ _).alloc (Nat.le_refl _) _)
  have Hfin := Lib.hid (show ba (beL 4 h.ht) ++ ba h.ln ++ ba h.tx ++ ba (beL 8 h.no) = ba h.b by rw [ba_append, ba_append, ba_append]; simp [Hd.b])
  have p1 : (ba (beL 4 h.ht)).size = 4 := by rw [ba_size, beL_len]
  have p2 : (ba h.ln).size = 32 := by rw [ba_size, k.2.1]
  have p3 : (ba h.tx).size = 32 := by rw [ba_size, k.2.2.1]
  have p4 : (ba (beL 8 h.no)).size = 8 := by rw [ba_size, beL_len]
  unfold Hd.v
  go_enter Try.func13, Try.ntmps13
  go_wp2_with fail
  generalize w.alloc (.cells h.c.toArray 27) = W at *
  have L0 : ∀ wx, Below W.heap.size W wx → (Instr.loadAt 22 (.pointer (some ⟨w.heap.size, 0, none⟩))).run Try.prog wx = .ok (.int .u32 h.ht) wx := fun wx hb => run_load_u32 (hk0.keep hb).c0
  have L1 : ∀ wx, Below W.heap.size W wx → (Instr.loadAt 25 (.pointer (some ⟨w.heap.size, 65, none⟩))).run Try.prog wx = .ok (.int .u64 h.no) wx := fun wx hb => run_load_u64 ((hk0.keep hb).c65 k)
  have C1 : ∀ wx, Below W.heap.size W wx → (convert 89 9 (.slice (some ⟨w.heap.size, 1, none⟩) 32 32)).run Try.prog wx = .ok (.string (ba h.ln)) wx := fun wx hb => conv_hash ((hk0.keep hb).ln k) k.2.1
  have C2 : ∀ wx, Below W.heap.size W wx → (convert 89 9 (.slice (some ⟨w.heap.size, 33, none⟩) 32 32)).run Try.prog wx = .ok (.string (ba h.tx)) wx := fun wx hb => conv_hash ((hk0.keep hb).tx k) k.2.2.1
  have P1 : ∀ wx, Below W.heap.size W wx → Calls Try.prog 50 #[.int .u32 h.ht] wx fun e w' => e = .returned (.string (ba (beL 4 h.ht))) ∧ Below wx.heap.size wx w' := fun wx _ => put32_calls h.ht wx k.1
  have P2 : ∀ wx, Below W.heap.size W wx → Calls Try.prog 51 #[.int .u64 h.no] wx fun e w' => e = .returned (.string (ba (beL 8 h.no))) ∧ Below wx.heap.size wx w' := fun wx _ => put64_calls h.no wx k.2.2.2
  generalize ba (beL 4 h.ht) = s1 at *
  generalize ba h.ln = s2 at *
  generalize ba h.tx = s3 at *
  generalize ba (beL 8 h.no) = s4 at *
  have q1 : ¬ 9223372036854775807 < s1.size + s2.size := by omega
  have q2 : ¬ 9223372036854775807 < s1.size + s2.size + s3.size := by omega
  have q3 : ¬ 9223372036854775807 < s1.size + s2.size + s3.size + s4.size := by omega
  clear p1 p2 p3 p4 hk0
  refine wp_region_quiet_below (by kernel_rfl) (by kernel_rfl) ?_
  repeat (first | (refine wpQuiet_load rfl 22 _ rfl _ rfl _ (rg_fact L0) ?_) | (refine wpQuiet_load rfl 25 _ rfl _ rfl _ (rg_fact L1) ?_) | (refine wpQuiet_value rfl _ (rg_fact (fun wx hb => run_conv rfl rfl (C1 wx hb))) ?_) | (refine wpQuiet_value rfl _ (rg_fact (fun wx hb => run_conv rfl rfl (C2 wx hb))) ?_) | ((refine wpQuiet_call rfl 50 _ ?_ _ (rg_of P1) ?_); focus (intro wx; go_simp; done)) | ((refine wpQuiet_call rfl 51 _ ?_ _ (rg_of P2) ?_); focus (intro wx; go_simp; done)) | go_big_quiet_step (fail) | quiet_step (fail))
  refine wpQuiet_nil ?_
  rintro _ ⟨rp, rfl⟩
  have hb3 := below_regrown W rp.d rp.os
  generalize Sort.grow (redrawn W rp.d) rp.os = w3 at *
  have hfin := Lib.hid (below_up hB0.out hb3)
  clear L0 L1 C1 C2 P1 P2 hb3 q1 q2 q3
  go_wp2_with fail
  go_ret
  exact ⟨by rw [← Hfin.out]; rfl, hfin.out⟩
set_option maxHeartbeats 4000000 in
set_option maxRecDepth 100000 in
theorem rbytes_calls (h : Hd) (w : World) (k : h.Ok) :
    Calls Try.prog 14 #[h.v] w fun e w' => e = .returned (.string (ba h.b)) ∧ Below w.heap.size w w' := by
  have hk0 : HB w.heap.size h 27 (w.alloc (.cells h.c.toArray 27)) := heap_new _ _
  have hB0 := Lib.hid (show Below w.heap.size w (w.alloc (.cells h.c.toArray 27)) from (Below.refl _ _).alloc (Nat.le_refl _) _)
  have Hfin := Lib.hid (show ba (beL 4 h.ht) ++ ba h.ln ++ ba h.tx ++ ba (beL 8 h.no) = ba h.b by rw [ba_append, ba_append, ba_append]; simp [Hd.b])
  have p1 : (ba (beL 4 h.ht)).size = 4 := by rw [ba_size, beL_len]
  have p2 : (ba h.ln).size = 32 := by rw [ba_size, k.2.1]
  have p3 : (ba h.tx).size = 32 := by rw [ba_size, k.2.2.1]
  have p4 : (ba (beL 8 h.no)).size = 8 := by rw [ba_size, beL_len]
  have u1 : IntKind.u64.wrap (h.ht : Int) = h.ht := by have := k.1; rw [IntKind.wrap_u64]; omega
  unfold Hd.v
  go_enter Try.func14, Try.ntmps14
  go_wp2_with fail
  generalize w.alloc (.cells h.c.toArray 27) = W at *
  have L0 : ∀ wx, Below W.heap.size W wx → (Instr.loadAt 22 (.pointer (some ⟨w.heap.size, 0, none⟩))).run Try.prog wx = .ok (.int .u32 h.ht) wx := fun wx hb => run_load_u32 (hk0.keep hb).c0
  have L1 : ∀ wx, Below W.heap.size W wx → (Instr.loadAt 25 (.pointer (some ⟨w.heap.size, 65, none⟩))).run Try.prog wx = .ok (.int .u64 h.no) wx := fun wx hb => run_load_u64 ((hk0.keep hb).c65 k)
  have L2 : ∀ wx, Below W.heap.size W wx → (Instr.loadAt 24 (.pointer (some ⟨w.heap.size, 1, none⟩))).run Try.prog wx = .ok (hv h.ln) wx := fun wx hb => run_loadAt_mid wx _ _ 24 (hc h.ln) _ ((hk0.keep hb).ln k) UH rfl (IHl k.2.1)
  have L3 : ∀ wx, Below W.heap.size W wx → (Instr.loadAt 24 (.pointer (some ⟨w.heap.size, 33, none⟩))).run Try.prog wx = .ok (hv h.tx) wx := fun wx hb => run_loadAt_mid wx _ _ 24 (hc h.tx) _ ((hk0.keep hb).tx k) UH rfl (IHl k.2.2.1)
  have P1 : ∀ wx, Below W.heap.size W wx → Calls Try.prog 52 #[.int .u64 h.ht, .int .i64 4] wx fun e w' => e = .returned (.string (ba (beL 4 h.ht))) ∧ Below wx.heap.size wx w' := fun wx _ => rput_calls h.ht 4 wx (by have := k.1; omega) (by decide)
  have P2 : ∀ wx, Below W.heap.size W wx → Calls Try.prog 52 #[.int .u64 h.no, .int .i64 8] wx fun e w' => e = .returned (.string (ba (beL 8 h.no))) ∧ Below wx.heap.size wx w' := fun wx _ => rput_calls h.no 8 wx k.2.2.2 (by decide)
  have P3 : ∀ wx, Below W.heap.size W wx → Calls Try.prog 53 #[hv h.ln] wx fun e w' => e = .returned (.string (ba h.ln)) ∧ Below wx.heap.size wx w' := fun wx _ => raw03_calls h.ln wx k.2.1
  have P4 : ∀ wx, Below W.heap.size W wx → Calls Try.prog 53 #[hv h.tx] wx fun e w' => e = .returned (.string (ba h.tx)) ∧ Below wx.heap.size wx w' := fun wx _ => raw03_calls h.tx wx k.2.2.1
  generalize ba (beL 4 h.ht) = s1 at *
  generalize ba h.ln = s2 at *
  generalize ba h.tx = s3 at *
  generalize ba (beL 8 h.no) = s4 at *
  have q1 : ¬ 9223372036854775807 < s1.size + s2.size := by omega
  have q2 : ¬ 9223372036854775807 < s1.size + s2.size + s3.size := by omega
  have q3 : ¬ 9223372036854775807 < s1.size + s2.size + s3.size + s4.size := by omega
  clear p1 p2 p3 p4 hk0
  refine wp_region_quiet_below (by kernel_rfl) (by kernel_rfl) ?_
  repeat (first | (refine wpQuiet_load rfl 22 _ rfl _ rfl _ (rg_fact L0) ?_) | (refine wpQuiet_load rfl 25 _ rfl _ rfl _ (rg_fact L1) ?_) | (refine wpQuiet_load rfl 24 _ rfl _ rfl _ (rg_fact L2) ?_) | (refine wpQuiet_load rfl 24 _ rfl _ rfl _ (rg_fact L3) ?_) | ((refine wpQuiet_call rfl 52 _ ?_ _ (rg_of P1) ?_); focus (intro wx; go_simp; done)) | ((refine wpQuiet_call rfl 52 _ ?_ _ (rg_of P2) ?_); focus (intro wx; go_simp; done)) | ((refine wpQuiet_call rfl 53 _ ?_ _ (rg_of P3) ?_); focus (intro wx; go_simp; done)) | ((refine wpQuiet_call rfl 53 _ ?_ _ (rg_of P4) ?_); focus (intro wx; go_simp; done)) | go_big_quiet_step (fail) | quiet_step (fail))
  refine wpQuiet_nil ?_
  rintro _ ⟨rp, rfl⟩
  have hb3 := below_regrown W rp.d rp.os
  generalize Sort.grow (redrawn W rp.d) rp.os = w3 at *
  have hfin := Lib.hid (below_up hB0.out hb3)
  clear L0 L1 L2 L3 P1 P2 P3 P4 hb3 q1 q2 q3
  go_wp2_with fail
  go_ret
  exact ⟨by rw [← Hfin.out]; rfl, hfin.out⟩
end Go.Proofs.Ytgdlhcopgfgmaaa.Hd
