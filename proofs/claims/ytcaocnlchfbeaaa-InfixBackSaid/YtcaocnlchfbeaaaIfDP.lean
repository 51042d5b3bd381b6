/- The stores into the box of an infix, and the ends of its decoding. -/
import Derived.Test.YtcaocnlchfbeaaaIfD
namespace Go.Proofs.Ytcaocnlchfbeaaa.If
open Go.RowKit Go.Proofs.Ytcaocnlchfbeaaa.Mk Go.Proofs.Ytcaocnlchfbeaaa.Op Go.Proofs.Ytcaocnlchfbeaaa.Hd Go.Proofs.Ytcaocnlchfbeaaa.St Go.Proofs.Ytcaocnlchfbeaaa.Cur Go.Proofs.Ytcaocnlchfbeaaa.Stp Go.Proofs.Ytcaocnlchfbeaaa.Tk Go.Proofs.Ytcaocnlchfbeaaa.Pf
theorem wpList_st {ops : Array Oper} {rest : List Oper} {op : Oper} {a : Act} {w W' : World} {Q : Exit → Act → World → Prop} {ty : TypeId} (hgd : op.guard = none) (x y : Operand) (ho : op.op = .store ty x y)
    (px : Value) (hx : a.eval x = px) (vy : Value) (hy : a.eval y = vy) (hr : (Instr.storeAt ty px vy).run Try.prog w = .ok () W')
    (hn : wpList Try.prog ops Q rest (a.put op.dst undef) W') : wpList Try.prog ops Q (op :: rest) a w :=
  wpList_plain hgd fun _ hK => by
    unfold Oper.wp execOp
    simp only [ho, hx, hy, Sem.run_bind, hr, Result.andThen_ok, Sem.run_pure]
    exact hK _ _ hn
theorem st_l {w : World} {a : Addr} {A : Option Addr} {n k : Nat} {old : Value} (h : w.cell? a = some old) (hf : w.frozen? a = false) : (Instr.storeAt 23 (.pointer (some a)) (.slice A n k)).run Try.prog w = .ok () (w.setCell a (.slice A n k)) := by go_simp
theorem st_i {w : World} {a : Addr} {i : Int} {old : Value} (h : w.cell? a = some old) (hf : w.frozen? a = false) : (Instr.storeAt 3 (.pointer (some a)) (.int .i64 i)).run Try.prog w = .ok () (w.setCell a (.int .i64 i)) := by go_simp
theorem st_s {w : World} {a : Addr} {s : ByteArray} {old : Value} (h : w.cell? a = some old) (hf : w.frozen? a = false) : (Instr.storeAt 9 (.pointer (some a)) (.string s)).run Try.prog w = .ok () (w.setCell a (.string s)) := by go_simp
theorem setC_but (W : World) (g j : Nat) (v : Value) : But (fun k => k = g) W (W.setCell ⟨g, j, none⟩ v) := But.setCell (S := fun k => k = g) (But.refl _ _) (p := ⟨g, j, none⟩) rfl v
section
variable {w W : World} {b g : Nat} {c : C} {x : Inf} {v sv su : Value}
theorem DS.put_l (h : DS w b g c x v sv su W) {v2 : Value} {ts : List Tr} (hr : RW (g + 1) W v2 ts) (hn : ts.length ≤ 1024) :
    ∃ W', (Instr.storeAt 23 (.pointer (some ⟨g, 1, none⟩)) v2).run Try.prog W = .ok () W' ∧ DS w b g c ⟨x.a, ts.map Tr.ho, x.o, x.b, x.s, x.u⟩ v2 sv su W' := by
  obtain ⟨A, k, rfl⟩ := own_slice hr.row
  have c1 : W.cell? ⟨g, 1, none⟩ = some v := (iB_cell h.box 1).trans rfl
  exact ⟨_, st_l c1 (iB_free h.box 1), h.set (setC_but _ _ _ _) (iB_set h.box rfl) ⟨ts, hr, rfl, hn⟩ h.o h.u⟩
theorem DS.put_i (h : DS w b g c x v sv su W) (n : Int) :
    ∃ W', (Instr.storeAt 3 (.pointer (some ⟨g, 5, none⟩)) (.int .i64 n)).run Try.prog W = .ok () W' ∧ DS w b g c ⟨x.a, x.l, x.o, n, x.s, x.u⟩ v sv su W' := by
  have c1 : W.cell? ⟨g, 5, none⟩ = some (.int .i64 x.b) := (iB_cell h.box 5).trans rfl
  exact ⟨_, st_i c1 (iB_free h.box 5), h.set (setC_but _ _ _ _) (iB_set h.box rfl) h.l h.o h.u⟩
theorem DS.put_s (h : DS w b g c x v sv su W) (s : ByteArray) :
    ∃ W', (Instr.storeAt 9 (.pointer (some ⟨g, 6, none⟩)) (.string s)).run Try.prog W = .ok () W' ∧ DS w b g c ⟨x.a, x.l, x.o, x.b, s, x.u⟩ v sv su W' := by
  have c1 : W.cell? ⟨g, 6, none⟩ = some (.string x.s) := (iB_cell h.box 6).trans rfl
  exact ⟨_, st_s c1 (iB_free h.box 6), h.set (setC_but _ _ _ _) (iB_set h.box rfl) h.l h.o h.u⟩
theorem row_but (W : World) (g : Nat) (cs : Array Value) : But (fun k => k = g) W (W.setRow g cs) := But.rowS (S := fun k => k = g) (But.refl _ _) rfl cs
theorem DS.put_o (h : DS w b g c x v sv su W) {v2 : Value} {o2 : Opn} (hr : OVn (g + 1) W v2 o2) :
    ∃ s2 W', (Instr.storeAt 41 (.pointer (some ⟨g, 2, none⟩)) v2).run Try.prog W = .ok () W' ∧ DS w b g c ⟨x.a, x.l, o2, x.b, x.s, x.u⟩ v s2 su W' := by
  have hr' := hr
  obtain ⟨s2, rfl, ho, hx, hn⟩ := hr
  obtain ⟨A, k, rfl⟩ := own_slice ho
  have := run_storeAt_part (P := Try.prog) W g 2 _ 41 (ifc x v sv su).toList [.int .i64 o2.i, .int .i64 o2.c, .slice A o2.p.length k] h.box (by show _ = some 3; kernel_rfl) (by show 5 ≤ 10; decide) (by intro v hv; simp at hv; rcases hv with rfl | rfl | rfl <;> rfl)
  refine ⟨.slice A o2.p.length k, _, this, ?_⟩
  exact h.set (row_but _ _ _) (setRow_heap _ _ _ _ _ _ h.box) h.l hr' h.u
theorem DS.put_u (h : DS w b g c x v sv su W) {v2 : Value} {o2 : Opn} (hr : OVn (g + 1) W v2 o2) :
    ∃ s2 W', (Instr.storeAt 41 (.pointer (some ⟨g, 7, none⟩)) v2).run Try.prog W = .ok () W' ∧ DS w b g c ⟨x.a, x.l, x.o, x.b, x.s, o2⟩ v sv s2 W' := by
  have hr' := hr
  obtain ⟨s2, rfl, ho, hx, hn⟩ := hr
  obtain ⟨A, k, rfl⟩ := own_slice ho
  have := run_storeAt_part (P := Try.prog) W g 7 _ 41 (ifc x v sv su).toList [.int .i64 o2.i, .int .i64 o2.c, .slice A o2.p.length k] h.box (by show _ = some 3; kernel_rfl) (by show 10 ≤ 10; decide) (by intro v hv; simp at hv; rcases hv with rfl | rfl | rfl <;> rfl)
  refine ⟨.slice A o2.p.length k, _, this, ?_⟩
  exact h.set (row_but _ _ _) (setRow_heap _ _ _ _ _ _ h.box) h.l h.o hr'
theorem put_whole {W : World} {r : Nat} {x y : Inf} {v sv su v' sv' su' : Value} {A B C : Option Addr} {n m k a b c : Nat} (h : W.heap[r]? = some (iB y v' sv' su')) (hv : v = .slice A n a) (hs : sv = .slice B m b) (hu : su = .slice C k c) :
    (Instr.storeAt 76 (.pointer (some ⟨r, 0, none⟩)) (.agg (ifc x v sv su))).run Try.prog W = .ok () (W.setRow r (ifc x v sv su)) := by
  subst hv; subst hs; subst hu
  have h1 := one_if x A B C n m k a b c
  rw [Array.all_eq_true_iff_forall_mem] at h1
  exact run_storeAt_part (P := Try.prog) W r 0 _ 76 (ifc y v' sv' su').toList (ifc x (.slice A n a) (.slice B m b) (.slice C k c)).toList h (by show _ = some 10; kernel_rfl) (by show 10 ≤ 10; decide) (fun v hv => h1 v (Array.mem_toList_iff.1 hv))
theorem DS.put_res (h : DS w b g c x v sv su W) :
    ∃ W', (Instr.storeAt 76 (.pointer (some ⟨w.heap.size, 0, none⟩)) (.agg (ifc x v sv su))).run Try.prog W = .ok () W' ∧ W'.heap[w.heap.size]? = some (iB x v sv su) ∧ IV W' (.agg (ifc x v sv su)) x ∧ Below w.heap.size w W' := by
  obtain ⟨ts, l1, l2, l3⟩ := h.l
  obtain ⟨A, a, hv⟩ := own_slice l1.row
  obtain ⟨so, e1, ho, _⟩ := h.o
  obtain ⟨si, e2, hu, _⟩ := h.u
  cases e1
  cases e2
  obtain ⟨B, b', hs⟩ := own_slice ho
  obtain ⟨C', c', hu'⟩ := own_slice hu
  refine ⟨_, put_whole h.res hv hs hu', setRow_heap _ _ _ _ _ _ h.res, ?_, below_row h.bel (Nat.le_refl _)⟩
  have hb := row_but W w.heap.size (ifc x v sv su)
  have hlt : ∀ i, i = w.heap.size → i < g + 1 := fun i e => by have := h.lb; have := h.lg; omega
  have e3 := (ovn_but h.o hb hlt).ov
  have e4 := (ovn_but h.u hb hlt).ov
  obtain ⟨s3, e3, h3⟩ := e3
  obtain ⟨s4, e4, h4⟩ := e4
  cases e3
  cases e4
  exact ⟨v, sv, su, rfl, l2 ▸ (l1.but hb hlt).ss (by omega), h3, h4⟩
theorem nil_iv (W : World) : IV W (.agg (ifc inf0 nl nl nl)) inf0 := by
  have h : SL hc 32 W nl op0.p := by
    obtain ⟨s, e, h⟩ := (ovn0 0 W).ov
    cases e
    exact h
  exact ⟨nl, nl, nl, rfl, SS.nil _, h, h⟩
theorem DS.put_zero (h : DS w b g c x v sv su W) :
    ∃ W', (Instr.storeAt 76 (.pointer (some ⟨w.heap.size, 0, none⟩)) (.agg (ifc inf0 nl nl nl))).run Try.prog W = .ok () W' ∧ W'.heap[w.heap.size]? = some (iB inf0 nl nl nl) ∧ IV W' (.agg (ifc inf0 nl nl nl)) inf0 ∧ Below w.heap.size w W' :=
  ⟨_, put_whole h.res rfl rfl rfl, setRow_heap _ _ _ _ _ _ h.res, nil_iv _, below_row h.bel (Nat.le_refl _)⟩
theorem lvI {w : World} {g : Nat} {x : Inf} {v sv su : Value} (h : w.heap[g]? = some (iB x v sv su)) : (loadVar 76 ⟨g, 0, none⟩).run Try.prog w = .ok (.agg (ifc x v sv su)) w :=
  run_loadVar_row (P := Try.prog) w g _ 76 _ _ _ h UInf rfl (IInf x v sv su)
end
end Go.Proofs.Ytcaocnlchfbeaaa.If
