/- The walk of what is taken as a step. -/
import Derived.Test.YtcaocnlchfbeaaaTk
import Derived.Test.YtcaocnlchfbeaaaBg
import Derived.Test.YtcaocnlchfbeaaaBa
namespace Go.Proofs.Ytcaocnlchfbeaaa.Tk
open Go.RowKit Go.Proofs.Ytcaocnlchfbeaaa.Mk Go.Proofs.Ytcaocnlchfbeaaa.Op Go.Proofs.Ytcaocnlchfbeaaa.Hd Go.Proofs.Ytcaocnlchfbeaaa.St Go.Proofs.Ytcaocnlchfbeaaa.Cur Go.Proofs.Ytcaocnlchfbeaaa.Stp
open Go.Proofs.Ytcaocnlchfbeaaa.Shape (depthI)
def sB (h : Hd) (o : Opn) (sv : Value) : Obj := .cells (sc h o sv).toArray 43 (0, 0)
theorem sc_len {h : Hd} (k : h.Ok) (o : Opn) (sv : Value) : (sc h o sv).length = 69 := by simp [sc, h.c_len k]
theorem USt : (Try.prog.underlying 43).map (fun d => match d with | .struct _ | .array _ _ => true | _ => false) = some true := by kernel_rfl
theorem ISt {h : Hd} (k : h.Ok) (o : Opn) (sv : Value) : (Try.prog.info? 43).map (·.size) = some (sc h o sv).toArray.size := by
  rw [List.size_toArray, sc_len k]
  kernel_rfl
theorem one_sc {h : Hd} (o : Opn) (A : Option Addr) (n c : Nat) : (sc h o (.slice A n c)).toArray.all (·.oneCell') = true := by
  have h1 := Hd.c_one h
  rw [Array.all_eq_true_iff_forall_mem] at h1 ⊢
  intro x hx
  unfold sc at hx
  rw [List.mem_toArray, List.mem_append] at hx
  rcases hx with hx | hx
  · exact h1 x (by simpa using hx)
  · simp at hx
    rcases hx with rfl | rfl | rfl <;> rfl
theorem zero_sc : (.cells Try.zeroCells43 43 (0, 0) : Obj) = sB hd0 op0 (.slice none 0 0) := rfl
theorem zst : Try.zeroCells43 = (sc hd0 op0 (.slice none 0 0)).toArray := rfl
theorem zsz {h : Hd} (k : h.Ok) (o : Opn) (sv : Value) : Try.zeroCells43.size = (sc h o sv).toArray.size := by
  rw [show (sc h o sv).toArray.size = 69 from by rw [List.size_toArray, sc_len k]]
  rfl
theorem rsz {h h2 : Hd} (k : h.Ok) (k2 : h2.Ok) (o o2 : Opn) (sv sv2 : Value) : (sc h o sv).toArray.size = (sc h2 o2 sv2).toArray.size := by
  rw [List.size_toArray, List.size_toArray, sc_len k, sc_len k2]
theorem lvSt {w : World} {g : Nat} {h : Hd} {o : Opn} {sv : Value} (k : h.Ok) (hw : w.heap[g]? = some (sB h o sv)) : (loadVar 43 ⟨g, 0, none⟩).run Try.prog w = .ok (.agg (sc h o sv).toArray) w := by
  obtain ⟨d, hd, hr⟩ := Option.map_eq_some_iff.1 USt
  exact run_loadVar_row (P := Try.prog) w g _ _ _ _ d hw hd (by cases d <;> simp_all) (ISt k o sv)
theorem ldSt {w : World} {g : Nat} {h : Hd} {o : Opn} {sv : Value} (k : h.Ok) (hw : w.heap[g]? = some (sB h o sv)) : (Instr.loadAt 43 (.pointer (some ⟨g, 0, none⟩))).run Try.prog w = .ok (.agg (sc h o sv).toArray) w := by
  simp only [Instr.loadAt, Instr.sureAddr, Sem.run_bind, Sem.run_pure, Result.andThen_ok, lvSt k hw]
theorem put_op {w : World} {g : Nat} {h : Hd} {o o2 : Opn} {sv : Value} {A : Option Addr} {n c : Nat} (k : h.Ok) (hw : w.heap[g]? = some (sB h o sv)) :
    (Instr.storeAt 41 (.pointer (some ⟨g, 66, none⟩)) (.agg (oc o2.i o2.c (.slice A n c)))).run Try.prog w = .ok () (w.setRow g (sc h o2 (.slice A n c)).toArray) := by
  have := run_storeAt_part (P := Try.prog) w g 66 _ 41 (sc h o sv) [.int .i64 o2.i, .int .i64 o2.c, .slice A n c] hw (by show _ = some 3; kernel_rfl) (by rw [sc_len k]; exact Nat.le_refl 69) (by intro v hv; simp at hv; rcases hv with rfl | rfl | rfl <;> rfl)
  have e : (sc h o sv).take 66 ++ [.int .i64 o2.i, .int .i64 o2.c, .slice A n c] ++ (sc h o sv).drop (66 + [Value.int .i64 o2.i, .int .i64 o2.c, .slice A n c].length) = sc h o2 (.slice A n c) := by
    unfold sc
    rw [List.take_left' (h.c_len k), List.drop_eq_nil_of_le (by simp [h.c_len k]), List.append_nil]
  rw [e] at this
  exact this
theorem wpList_store_op {ops : Array Oper} {rest : List Oper} {op : Oper} {a : Act} {w : World} {Q : Exit → Act → World → Prop} {h : Hd} {o o2 : Opn} {sv : Value} {g : Nat} {A : Option Addr} {n c : Nat} (hgd : op.guard = none) (x y : Operand) (ho : op.op = .store 41 x y)
    (hx : a.eval x = .pointer (some ⟨g, 66, none⟩)) (hy : a.eval y = .agg (oc o2.i o2.c (.slice A n c))) (k : h.Ok) (hw : w.heap[g]? = some (sB h o sv))
    (hn : wpList Try.prog ops Q rest (a.put op.dst undef) (w.setRow g (sc h o2 (.slice A n c)).toArray)) : wpList Try.prog ops Q (op :: rest) a w :=
  wpList_plain hgd fun _ hK => by
    unfold Oper.wp execOp
    simp only [ho, hx, hy, Sem.run_bind, put_op k hw, Result.andThen_ok, Sem.run_pure]
    exact hK _ _ hn
theorem built_St (parts : List (Nat × Value)) : Try.prog.built 43 parts = Instr.fill (#[((0 : Nat), (66 : Nat)), (66, 3)][·]?) (sc hd0 op0 (.slice none 0 0)).toArray parts := by
  rw [← zst]
  kernel_rfl
theorem built_h {h : Hd} (k : h.Ok) : Try.prog.built 43 [(0, .agg h.c.toArray)] = some (sc h op0 (.slice none 0 0)).toArray := by
  rw [built_St, fill_part _ _ h.c 0 0 _ rfl (by rw [h.c_len k]; rfl) (by rw [h.c_len k, sc_len hd0_ok]; decide), fill_end]
  congr 2
  rw [h.c_len k]
  unfold sc
  rw [List.take_zero, List.nil_append, Nat.zero_add, List.drop_left' (hd0.c_len hd0_ok)]
theorem run_bh {h : Hd} (k : h.Ok) (w : World) : (Instr.build 43 #[(0, h.v)]).run Try.prog w = .ok (.agg (sc h op0 (.slice none 0 0)).toArray) w := run_build w _ _ _ (built_h k)
theorem built_ho {h : Hd} {o : Opn} {sv : Value} (k : h.Ok) : Try.prog.built 43 [(0, .agg h.c.toArray), (1, .agg (oc o.i o.c sv))] = some (sc h o sv).toArray := by
  rw [built_St, fill_part _ _ h.c 0 0 _ rfl (by rw [h.c_len k]; rfl) (by rw [h.c_len k, sc_len hd0_ok]; decide)]
  have e : (sc hd0 op0 (.slice none 0 0)).take 0 ++ h.c ++ (sc hd0 op0 (.slice none 0 0)).drop (0 + h.c.length) = sc h op0 (.slice none 0 0) := by
    rw [h.c_len k]
    unfold sc
    rw [List.take_zero, List.nil_append, Nat.zero_add, List.drop_left' (hd0.c_len hd0_ok)]
  rw [e, fill_part _ _ [.int .i64 o.i, .int .i64 o.c, sv] 1 66 _ rfl rfl (by rw [sc_len k]; exact Nat.le_refl 69), fill_end]
  congr 2
  unfold sc
  rw [List.take_left' (h.c_len k), List.drop_eq_nil_of_le (by simp [h.c_len k]), List.append_nil]
theorem run_bho {h : Hd} {o : Opn} {sv : Value} (k : h.Ok) (w : World) : (Instr.build 43 #[(0, h.v), (1, .agg (oc o.i o.c sv))]).run Try.prog w = .ok (.agg (sc h o sv).toArray) w := run_build w _ _ _ (built_ho k)
/-- a step's value whose path is its own, from a block on -/
def SVn (B : Nat) (w : World) (v : Value) (h : Hd) (o : Opn) : Prop := ∃ sv, v = .agg (sc h o sv).toArray ∧ w.ownsRow B 35 32 sv o.p.length (o.p.flatMap hc) ∧ (∀ x ∈ o.p, x.length = 32) ∧ o.p.length ≤ 63
theorem SVn.sv {B : Nat} {w : World} {v : Value} {h : Hd} {o : Opn} (k : SVn B w v h o) : SV w v h o := by
  obtain ⟨sv, e, ho, h32, hl⟩ := k
  exact ⟨sv, e, SL.of_owns ho (fun x hx => by rw [hc_len]; exact h32 x hx) (by omega)⟩
set_option maxHeartbeats 8000000 in
set_option maxRecDepth 100000 in
theorem takeStep_calls (b : Nat) (c : C) (w : World) (h : CU b c w) (hl : c.b.length ≤ 9223372036854775807) :
    Calls Try.prog 22 #[.pointer (some ⟨b, 0, none⟩)] w fun r w' => ∃ v, r = .returned v ∧ SVn w.heap.size w' v (stepC c).1.1 (stepC c).1.2 ∧ CU b (stepC c).2 w' ∧ CW b w w' := by
  have hb := h.lt
  have hne : w.heap.size ≠ b := by omega
  have HG := Lib.hid (fun W (hW : CU b c W) => get_calls b c W hW hl)
  have hgl := getC_len c
  have hgo := getC_ok c
  have hoc : stepC c = if (openC (getC c).2).2.e ≠ 0 then ((hd0, op0), (openC (getC c).2).2) else (((getC c).1, (openC (getC c).2).1), (openC (getC c).2).2) := rfl
  generalize getC c = x at *
  obtain ⟨hd, d⟩ := x
  simp only at hoc hgl hgo HG
  have HO := Lib.hid (fun W (hW : CU b d W) => takeOpening_calls b d W hW (Nat.le_trans hgl hl))
  generalize openC d = y at *
  obtain ⟨o, d2⟩ := y
  simp only at hoc HO
  have Hoc := Lib.hid hoc
  have Hok := Lib.hid hgo
  have HE := Lib.hid (fun w h => err_calls b d2 w h)
  have H := Lib.hid h
  clear h hoc
  go_enter Try.func22, Try.ntmps22
  go_wp2_with fail
  generalize hW : World.alloc w _ = W0
  have z0 : W0.heap[w.heap.size]? = some (sB hd0 op0 (.slice none 0 0)) := by
    rw [← hW]
    exact heap_new w _
  have hB0 : Below w.heap.size w W0 := by
    rw [← hW]
    exact (Below.refl _ _).alloc (Nat.le_refl _) _
  have hsz : W0.heap.size = w.heap.size + 1 := by rw [← hW]; simp
  clear hW
  refine (HG.out W0 (H.out.keep hB0)).mono ?_
  rintro r w1 ⟨rfl, hu1, hw1⟩
  have y0 : w1.heap[w.heap.size]? = some (sB hd0 op0 (.slice none 0 0)) := (hw1.block _ (by omega) hne).trans z0
  have hs1 := hw1.size
  have Hu1 := Lib.hid hu1
  have HW1 := Lib.hid (show CW b w w1 from (But.of_below hB0).trans hw1 (fun _ _ e => e))
  have Y0 := Lib.hid y0
  have hbs := run_bh Hok.out
  clear z0 y0 hu1 hw1 hB0 hgo H HG
  dsimp only
  rename_i KK hKK
  refine hKK _ _ ?_
  clear hKK
  refine wpList_buildV (by rfl) 43 _ (by rfl) _ (by go_simp) _ (hbs _) ?_
  simp only [Act.put, List.setIfInBounds_toArray, List.set_cons_zero, List.set_cons_succ]
  clear hbs
  go_upto_region 2 with (first | (refine wpList_store_last rfl 43 _ _ rfl _ (sc hd op0 (.slice none 0 0)).toArray rfl rfl (ISt Hok.out _ _) (zsz Hok.out _ _) (one_sc _ _ _ _) ?_))
  generalize hW3 : World.alloc w1 _ = W3
  obtain ⟨g, hg⟩ : ∃ g, g = w1.heap.size := ⟨_, rfl⟩
  have Z3 : W3.heap[g]? = some (sB hd op0 (.slice none 0 0)) ∧ W3.heap[w.heap.size]? = some (sB hd0 op0 (.slice none 0 0)) ∧ CU b d W3 ∧ But (fun k => k = b) w W3 ∧ g < W3.heap.size := by
    rw [← hW3, hg]
    exact ⟨heap_new _ _, (Below.heap_alloc _ _ _ (by omega)).trans Y0.out, Hu1.out.keep ((Below.refl _ _).alloc (Nat.le_refl _) _), HW1.out.alloc _, by simp⟩
  rw [← hg]
  have hbg : b < g ∧ w.heap.size < g ∧ b < w.heap.size := by omega
  have Z3 := Lib.hid Z3
  have Z3g := Lib.hid Z3.out.2.2.2.2
  clear hW3 hg Y0 Hu1 HW1
  go_wp2_with fail
  refine (HO.out _ Z3.out.2.2.1).mono ?_
  rintro r w4 ⟨vo, rfl, ⟨sv, rfl, hsl, h32, h63⟩, hu4, hw4⟩
  obtain ⟨A, cp, rfl⟩ := own_slice hsl
  have Hs4 := Lib.hid (And.intro hsl (And.intro h32 h63))
  clear h32 h63
  have Z4 := Lib.hid (show w4.heap[g]? = some (sB hd op0 (.slice none 0 0)) ∧ w4.heap[w.heap.size]? = some (sB hd0 op0 (.slice none 0 0)) ∧ CU b d2 w4 ∧ But (fun k => k = b) w w4 ∧ g < w4.heap.size from
    ⟨(hw4.block _ Z3.out.2.2.2.2 (by omega)).trans Z3.out.1, (hw4.block _ (Array.getElem?_eq_some_iff.1 Z3.out.2.1).1 hne).trans Z3.out.2.1, hu4, Z3.out.2.2.2.1.trans hw4 (fun _ _ e => e), Nat.lt_of_lt_of_le Z3.out.2.2.2.2 hw4.size⟩)
  clear hsl hu4 hw4 Z3 HO
  go_upto_region 3 with (first | (refine wpList_store_op (by rfl) _ _ (by rfl) (by rfl) (by rfl) Hok.out Z4.out.1 ?_))
  have hg3 := Z3g.out
  have Z5 := Lib.hid (show (w4.setRow g (sc hd o (.slice A o.p.length cp)).toArray).heap[g]? = some (sB hd o (.slice A o.p.length cp)) ∧ (w4.setRow g (sc hd o (.slice A o.p.length cp)).toArray).heap[w.heap.size]? = some (sB hd0 op0 (.slice none 0 0)) ∧ CU b d2 (w4.setRow g (sc hd o (.slice A o.p.length cp)).toArray) ∧ But (fun k => k = b) w (w4.setRow g (sc hd o (.slice A o.p.length cp)).toArray) ∧ (w4.setRow g (sc hd o (.slice A o.p.length cp)).toArray).ownsRow W3.heap.size 35 32 (.slice A o.p.length cp) o.p.length (o.p.flatMap hc) from
    ⟨setRow_heap _ _ _ _ _ _ Z4.out.1, (setRow_other _ _ _ _ (by omega)).trans Z4.out.2.1, CU.row Z4.out.2.2.1 (by omega) _, But.row Z4.out.2.2.2.1 (by omega) _, own_but Hs4.out.1 (But.rowS (S := fun k => k = g) (But.refl _ _) rfl _) (fun _ e => by omega)⟩)
  clear Z4
  generalize w4.setRow g (sc hd o (.slice A o.p.length cp)).toArray = W5 at *
  go_wp2_with fail
  refine (HE.out _ Z5.out.2.2.1).mono ?_
  rintro r w6 ⟨rfl, rfl⟩
  by_cases he : d2.e = 0
  · have Hr := Lib.hid (Hoc.out.trans (if_neg (by simpa using he)))
    have t1 : (d2.e != 0) = false := by rw [he]; rfl
    clear he
    go_wp2_with (first | (refine wpList_loadg (by rfl) 43 (.tmp 3) (by rfl) _ (by rfl) _ (ldSt Hok.out Z5.out.1) ?_) | (refine wpList_store_row (by rfl) 43 _ _ rfl w.heap.size (sc hd o (.slice A o.p.length cp)).toArray rfl rfl _ _ Z5.out.2.1 (ISt Hok.out _ _) (rsz hd0_ok Hok.out _ _ _ _) (one_sc _ _ _ _) ?_))
    exact bodyPost_ret (results_cell 2 43 ⟨w.heap.size, 0, none⟩ _ rfl rfl (lvSt Hok.out (setRow_heap _ _ _ _ _ _ Z5.out.2.1))) rfl ⟨_, rfl, by rw [Hr.out]; exact ⟨_, rfl, own_mono (own_but Z5.out.2.2.2.2 (But.rowS (S := fun k => k = w.heap.size) (But.refl _ _) rfl _) (fun _ e => by omega)) (by omega), Hs4.out.2.1, Hs4.out.2.2⟩, by rw [Hr.out]; exact CU.row Z5.out.2.2.1 (by omega) _, But.row Z5.out.2.2.2.1 (Nat.le_refl _) _⟩
  · have Hr := Lib.hid (Hoc.out.trans (if_pos he))
    have t1 : (d2.e != 0) = true := by simpa using he
    clear he
    go_wp2_with (first | (refine wpList_store_row (by rfl) 43 _ _ rfl w.heap.size (sc hd0 op0 (.slice none 0 0)).toArray rfl rfl _ _ Z5.out.2.1 (ISt hd0_ok _ _) (rsz hd0_ok hd0_ok _ _ _ _) (one_sc _ _ _ _) ?_))
    exact bodyPost_ret (results_cell 2 43 ⟨w.heap.size, 0, none⟩ _ rfl rfl (lvSt hd0_ok (setRow_heap _ _ _ _ _ _ Z5.out.2.1))) rfl ⟨_, rfl, by rw [Hr.out]; exact ⟨_, rfl, World.ownsRow_nil _ _ _ _, fun x hx => (by cases hx), Nat.zero_le _⟩, by rw [Hr.out]; exact CU.row Z5.out.2.2.1 (by omega) _, But.row Z5.out.2.2.2.1 (Nat.le_refl _) _⟩
end Go.Proofs.Ytcaocnlchfbeaaa.Tk
