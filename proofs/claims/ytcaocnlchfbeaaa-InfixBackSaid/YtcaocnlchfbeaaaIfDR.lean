/- The walk of the document's DecodeInfix. -/
import Derived.Test.YtcaocnlchfbeaaaIfDW
import Derived.Test.YtcaocnlchfbeaaaPdR
namespace Go.Proofs.Ytcaocnlchfbeaaa.If
open Go.RowKit Go.Proofs.Ytcaocnlchfbeaaa.Mk Go.Proofs.Ytcaocnlchfbeaaa.Op Go.Proofs.Ytcaocnlchfbeaaa.Hd Go.Proofs.Ytcaocnlchfbeaaa.St Go.Proofs.Ytcaocnlchfbeaaa.Cur Go.Proofs.Ytcaocnlchfbeaaa.Stp Go.Proofs.Ytcaocnlchfbeaaa.Tk Go.Proofs.Ytcaocnlchfbeaaa.Pf
/-- what the walk carries: the answer's block, the box of the cursor's value at g -/
structure RS (w W : World) (g : Nat) (c : C) : Prop where
  res : W.heap[w.heap.size]? = some (iB inf0 nl nl nl)
  box : W.heap[g]? = some (cO c)
  bel : Below w.heap.size w W
  lg : w.heap.size < g
def FL (g : Nat) (W : World) (v : Value) (l : List HO) : Prop := ∃ ts, RW (g + 1) W v ts ∧ ts.map Tr.ho = l ∧ ts.length ≤ 1024
def FO (g : Nat) (W : World) (p : Nat) (sv : Value) (o : Opn) : Prop := W.heap[p]? = some (oB o.i o.c sv) ∧ g < p ∧ OVn (g + 1) W (.agg (oc o.i o.c sv)) o
section
variable {w W W' : World} {g p : Nat} {c : C} {v sv : Value} {l : List HO} {o : Opn}
theorem FL.but (h : FL g W v l) (hb : But (fun k => k = g) W W') : FL g W' v l := by
  obtain ⟨ts, h1, h2, h3⟩ := h
  exact ⟨ts, h1.but hb (fun i e => by omega), h2, h3⟩
theorem FO.but (h : FO g W p sv o) (hb : But (fun k => k = g) W W') : FO g W' p sv o :=
  ⟨(hb.block _ (Array.getElem?_eq_some_iff.1 h.1).1 (by have := h.2.1; omega)).trans h.1, h.2.1, ovn_but h.2.2 hb (fun i e => by omega)⟩
theorem bel_but (hb : Below W.heap.size W W') : But (fun k => k = g) W W' := But.of_below hb
theorem RS.lt (h : RS w W g c) : g + 1 ≤ W.heap.size := (Array.getElem?_eq_some_iff.1 h.box).1
theorem RS.call (h : RS w W g c) (hb : Below W.heap.size W W') : RS w W' g c :=
  ⟨(hb.block _ (Array.getElem?_eq_some_iff.1 h.res).1).trans h.res, (hb.block _ (Array.getElem?_eq_some_iff.1 h.box).1).trans h.box, below_up h.bel hb, h.lg⟩
theorem RS.set (h : RS w W g c) (c' : C) : ∃ W', (Instr.storeAt 45 (.pointer (some ⟨g, 0, none⟩)) (.agg #[.string (ba c'.b), .int .i64 c'.e])).run Try.prog W = .ok () W' ∧ RS w W' g c' ∧ But (fun k => k = g) W W' := by
  have h1 := run_storeAt_part (P := Try.prog) W g 0 _ 45 [.string (ba c.b), .int .i64 c.e] [.string (ba c'.b), .int .i64 c'.e] h.box (by show _ = some 2; kernel_rfl) (by show 2 ≤ 2; decide) (by intro v hv; simp at hv; rcases hv with rfl | rfl <;> rfl)
  have hb := row_but W g #[.string (ba c'.b), .int .i64 c'.e]
  have hl := h.lg
  refine ⟨_, h1, ⟨(hb.block _ (Array.getElem?_eq_some_iff.1 h.res).1 (by omega)).trans h.res, setRow_heap _ _ _ _ _ _ h.box, ?_, h.lg⟩, hb⟩
  exact below_row h.bel (Nat.le_of_lt h.lg)
theorem RS.put (h : RS w W g c) (ho : OVn (g + 1) W (.agg (oc o.i o.c sv)) o) : RS w (W.alloc (oB o.i o.c sv)) g c ∧ FO g (W.alloc (oB o.i o.c sv)) W.heap.size sv o := by
  have hB : Below W.heap.size W (W.alloc (oB o.i o.c sv)) := (Below.refl _ _).alloc (Nat.le_refl _) _
  exact ⟨h.call hB, heap_new _ _, h.lt, ovn_but ho (bel_but (g := g) hB) (fun i e => by omega)⟩
theorem rs_new {w1 : World} {k : C} (h : Below w.heap.size w w1) (hr : w1.heap[w.heap.size]? = some (iB inf0 nl nl nl)) : RS w ((w1.alloc (cO ⟨[], 0⟩)).setRow w1.heap.size #[.string (ba k.b), .int .i64 k.e]) w1.heap.size k := by
  have hlt := (Array.getElem?_eq_some_iff.1 hr).1
  refine ⟨?_, setRow_heap _ _ _ _ _ _ (heap_new _ (cO ⟨[], 0⟩)), below_row (h.alloc (Nat.le_of_lt hlt) _) (Nat.le_of_lt hlt), hlt⟩
  rw [setRow_other _ _ _ _ (by omega)]
  exact (((Below.refl _ _).alloc (Nat.le_refl _) _ : Below w1.heap.size w1 (w1.alloc (cO ⟨[], 0⟩))).block _ hlt).trans hr
theorem built_all (w : World) (x : Inf) (A B C : Option Addr) (n m k a b c : Nat) :
    (Instr.build 76 #[(0, .int .i64 x.a), (1, .slice A n a), (2, .agg (oc x.o.i x.o.c (.slice B m b))), (3, .int .i64 x.b), (4, .string x.s), (5, .agg (oc x.u.i x.u.c (.slice C k c)))]).run Try.prog w = .ok (.agg (ifc x (.slice A n a) (.slice B m b) (.slice C k c))) w := by
  kernel_rfl
theorem RS.fin (h : RS w W g c) {x : Inf} {A B C' : Option Addr} {n m k a b c' : Nat} (hl : FL g W (.slice A n a) x.l) (ho : OVn (g + 1) W (.agg (oc x.o.i x.o.c (.slice B m b))) x.o) (hu : OVn (g + 1) W (.agg (oc x.u.i x.u.c (.slice C' k c'))) x.u) :
    ∃ W', (Instr.storeAt 76 (.pointer (some ⟨w.heap.size, 0, none⟩)) (.agg (ifc x (.slice A n a) (.slice B m b) (.slice C' k c')))).run Try.prog W = .ok () W' ∧ W'.heap[w.heap.size]? = some (iB x (.slice A n a) (.slice B m b) (.slice C' k c')) ∧ IV W' (.agg (ifc x (.slice A n a) (.slice B m b) (.slice C' k c'))) x ∧ Below w.heap.size w W' := by
  have hb := row_but W w.heap.size (ifc x (.slice A n a) (.slice B m b) (.slice C' k c'))
  have hlt : ∀ i, i = w.heap.size → i < g + 1 := fun i e => by have := h.lg; omega
  obtain ⟨ts, l1, l2, l3⟩ := hl
  have e3 := (ovn_but ho hb hlt).ov
  have e4 := (ovn_but hu hb hlt).ov
  obtain ⟨s3, e3, h3⟩ := e3
  obtain ⟨s4, e4, h4⟩ := e4
  cases e3
  cases e4
  exact ⟨_, put_whole h.res rfl rfl rfl, setRow_heap _ _ _ _ _ _ h.res, ⟨_, _, _, rfl, l2 ▸ (l1.but hb hlt).ss (by omega), h3, h4⟩, below_row h.bel (Nat.le_refl _)⟩
theorem RS.zero (h : RS w W g c) :
    ∃ W', (Instr.storeAt 76 (.pointer (some ⟨w.heap.size, 0, none⟩)) (.agg (ifc inf0 nl nl nl))).run Try.prog W = .ok () W' ∧ W'.heap[w.heap.size]? = some (iB inf0 nl nl nl) ∧ IV W' (.agg (ifc inf0 nl nl nl)) inf0 ∧ Below w.heap.size w W' :=
  ⟨_, put_whole h.res rfl rfl rfl, setRow_heap _ _ _ _ _ _ h.res, nil_iv _, below_row h.bel (Nat.le_refl _)⟩
theorem ldOB (h : W.heap[p]? = some (oB o.i o.c sv)) : (Instr.loadAt 41 (.pointer (some ⟨p, 0, none⟩))).run Try.prog W = .ok (.agg (oc o.i o.c sv)) W := by
  simp only [Instr.loadAt, Instr.sureAddr, Sem.run_bind, Sem.run_pure, Result.andThen_ok, ldOpn h]
end
theorem bld_all {o : Oper} {a : Act} {w : World} {x : Inf} {y0 y1 y2 y3 y4 y5 : Operand} {A B C : Option Addr} {n m k p q r : Nat} (ho : o.op = .build 76 #[(0, y0), (1, y1), (2, y2), (3, y3), (4, y4), (5, y5)])
    (h0 : a.eval y0 = .int .i64 x.a) (h1 : a.eval y1 = .slice A n p) (h2 : a.eval y2 = .agg (oc x.o.i x.o.c (.slice B m q))) (h3 : a.eval y3 = .int .i64 x.b) (h4 : a.eval y4 = .string x.s) (h5 : a.eval y5 = .agg (oc x.u.i x.u.c (.slice C k r))) :
    (execOp a.eval o).run Try.prog w = .ok (.value (.agg (ifc x (.slice A n p) (.slice B m q) (.slice C k r)))) w := by
  have h := built_all w x A B C n m k p q r
  unfold execOp
  simp only [ho, List.map_toArray, List.map_cons, List.map_nil, h0, h1, h2, h3, h4, h5, Sem.run_bind, h, Result.andThen_ok, Sem.run_pure]
theorem bld_c {o : Oper} {a : Act} {w : World} {x : Operand} {s : ByteArray} (ho : o.op = .build 45 #[(0, x)]) (hx : a.eval x = .string s) : (execOp a.eval o).run Try.prog w = .ok (.value (.agg #[.string s, .int .i64 0])) w := by
  have h : (Instr.build 45 #[(0, .string s)]).run Try.prog w = .ok (.agg #[.string s, .int .i64 0]) w := by kernel_rfl
  unfold execOp
  simp only [ho, List.map_toArray, List.map_cons, List.map_nil, hx, Sem.run_bind, h, Result.andThen_ok, Sem.run_pure]
set_option maxHeartbeats 8000000 in
set_option maxRecDepth 100000 in
theorem rdecode_gen (s : ByteArray) (w : World) {n1 n4 : Nat} {k1 k2 k3 k4 k5 k6 : C} {l2 : List HO} {o3 o6 : Opn} {t5 : ByteArray} {e : Int}
    (N1 : Hid (∀ W, Calls Try.prog 61 #[.agg #[.string s, .int .i64 0], .int .u64 1024] W fun r w' => r = .returned (.tuple #[.int .u64 (n1 : Nat), .agg #[.string (ba k1.b), .int .i64 k1.e]]) ∧ Below W.heap.size W w'))
    (N2 : Hid (∀ W, Calls Try.prog 37 #[.agg #[.string (ba k1.b), .int .i64 k1.e]] W fun r w' => ∃ v ts, r = .returned (.tuple #[v, .agg #[.string (ba k2.b), .int .i64 k2.e]]) ∧ RW W.heap.size w' v ts ∧ ts.map Tr.ho = l2 ∧ ts.length ≤ 1024 ∧ Below W.heap.size W w'))
    (N3 : Hid (∀ W, Calls Try.prog 20 #[.agg #[.string (ba k2.b), .int .i64 k2.e]] W fun r w' => ∃ v, r = .returned (.tuple #[v, .agg #[.string (ba k3.b), .int .i64 k3.e]]) ∧ OVn W.heap.size w' v o3 ∧ Below W.heap.size W w'))
    (N4 : Hid (∀ W, Calls Try.prog 61 #[.agg #[.string (ba k3.b), .int .i64 k3.e], .int .u64 1024] W fun r w' => r = .returned (.tuple #[.int .u64 (n4 : Nat), .agg #[.string (ba k4.b), .int .i64 k4.e]]) ∧ Below W.heap.size W w'))
    (N5 : Hid (∀ W, Calls Try.prog 87 #[.agg #[.string (ba k4.b), .int .i64 k4.e], .int .i64 4096] W fun r w' => r = .returned (.tuple #[.string t5, .agg #[.string (ba k5.b), .int .i64 k5.e]]) ∧ Below W.heap.size W w'))
    (N6 : Hid (∀ W, Calls Try.prog 20 #[.agg #[.string (ba k5.b), .int .i64 k5.e]] W fun r w' => ∃ v, r = .returned (.tuple #[v, .agg #[.string (ba k6.b), .int .i64 k6.e]]) ∧ OVn W.heap.size w' v o6 ∧ Below W.heap.size W w'))
    (N7 : Hid (∀ W, Calls Try.prog 73 #[.agg #[.string (ba k6.b), .int .i64 k6.e]] W fun r w' => r = .returned (.int .i64 e) ∧ Below W.heap.size W w'))
    (HN : Hid (n1 ≤ 1024 ∧ n4 ≤ 1024)) :
    Calls Try.prog 55 #[.string s] w fun r w' => ∃ v, r = .returned (.tuple #[v, .int .i64 e]) ∧ IV w' v (if e ≠ 0 then inf0 else ⟨n1, l2, o3, n4, t5, o6⟩) ∧ Below w.heap.size w w' := by
  go_enter Try.func55, Try.ntmps55
  go_wp2_with (refine wpList_value (by rfl) _ (bld_c (s := s) (by rfl) (by rfl)) ?_)
  generalize hW : World.alloc w _ = W0
  have hr0 : W0.heap[w.heap.size]? = some (iB inf0 nl nl nl) := by rw [← hW]; exact heap_new w _
  have hb0 : Below w.heap.size w W0 := by rw [← hW]; exact (Below.refl _ _).alloc (Nat.le_refl _) _
  clear hW
  refine (N1.out W0).mono ?_
  rintro r w1 ⟨rfl, hb1⟩
  have D1 := Lib.hid (rs_new (k := k1) (below_up hb0 hb1) ((hb1.block _ (Array.getElem?_eq_some_iff.1 hr0).1).trans hr0))
  clear hr0 hb0 hb1 N1
  obtain ⟨g, hg⟩ : ∃ g, g = w1.heap.size := ⟨_, rfl⟩
  have L1 := Lib.hid (Tk.ldC D1.out.box)
  go_wp2_with (first | (refine wpList_store_row (by rfl) 45 _ _ (by rfl) w1.heap.size #[.string (ba k1.b), .int .i64 k1.e] (by rfl) (by rfl) _ _ (heap_new _ _) (Tk.IC2 _ _) rfl (Tk.oneC _ _) ?_) | (refine wpList_loadg (by rfl) 45 (.tmp 5) (by rfl) _ (by rfl) _ L1.out ?_))
  have D2 := Lib.hid (show RS w ((w1.alloc (cO ⟨[], 0⟩)).setRow w1.heap.size #[.string (ba k1.b), .int .i64 k1.e]) g k1 from by rw [hg]; exact D1.out)
  rw [← hg]
  rw [← hg] at D2
  clear hg L1 D1
  generalize hW : World.setRow _ _ _ = W1
  have D1 := Lib.hid (show RS w W1 g k1 from by rw [← hW]; exact D2.out)
  clear hW D2
  refine (N2.out W1).mono ?_
  rintro r w2 ⟨v2, ts, rfl, hr2, hl2, hn2, hb2⟩
  obtain ⟨A, a, rfl⟩ := own_slice hr2.row
  have f2 : FL g w2 (.slice A ts.length a) l2 := ⟨ts, rw_mono hr2 D1.out.lt, hl2, hn2⟩
  obtain ⟨W2, s2, d2, b2⟩ := (D1.out.call hb2).set k2
  have S2 := Lib.hid s2
  have D2 := Lib.hid d2
  have L2 := Lib.hid (Tk.ldC d2.box)
  have F2 := Lib.hid (f2.but b2)
  generalize ts.length = tl at *
  clear hr2 hl2 hn2 hb2 f2 s2 d2 b2 D1 N2
  go_wp2_with (first | (refine wpList_st (by rfl) (.tmp 5) (.tmp 22) (by rfl) _ (by rfl) _ (by rfl) S2.out ?_) | (refine wpList_loadg (by rfl) 45 (.tmp 5) (by rfl) _ (by rfl) _ L2.out ?_))
  refine (N3.out W2).mono ?_
  rintro r w3 ⟨v3, rfl, ho3, hb3⟩
  have hbo := bel_but (g := g) hb3
  have d3 := D2.out.call hb3
  have g2 := F2.out.but hbo
  have o3' := ovn_mono ho3 D2.out.lt
  obtain ⟨q3, rfl, hq3, -, -⟩ := ho3
  obtain ⟨B, b, rfl⟩ := own_slice hq3
  obtain ⟨d3', p3⟩ := d3.put o3'
  obtain ⟨W3, s3, d3'', b3⟩ := d3'.set k3
  have S3 := Lib.hid s3
  have D3 := Lib.hid d3''
  have L3 := Lib.hid (Tk.ldC d3''.box)
  have F3 := Lib.hid (And.intro ((g2.but (bel_but ((Below.refl _ _).alloc (Nat.le_refl _) _))).but b3) (p3.but b3))
  clear hb3 hbo d3 g2 o3' hq3 d3' p3 s3 d3'' b3 D2 F2 N3 S2 L2
  go_wp2_with (first | (refine wpList_store_last rfl 41 _ _ rfl _ (oc o3.i o3.c (.slice B o3.p.length b)) rfl rfl (IOpn _ _ _) rfl (one_oc _ _ _ _ _) ?_) | (refine wpList_st (by rfl) (.tmp 5) (.tmp 27) (by rfl) _ (by rfl) _ (by rfl) S3.out ?_) | (refine wpList_loadg (by rfl) 45 (.tmp 5) (by rfl) _ (by rfl) _ L3.out ?_))
  obtain ⟨h3, hh3⟩ : ∃ h3, h3 = w3.heap.size := ⟨_, rfl⟩
  rw [← hh3] at F3
  rw [← hh3]
  clear hh3 S3 L3
  refine (N4.out W3).mono ?_
  rintro r w4 ⟨rfl, hb4⟩
  obtain ⟨W4, s4, d4, b4⟩ := (D3.out.call hb4).set k4
  have S4 := Lib.hid s4
  have D4 := Lib.hid d4
  have L4 := Lib.hid (Tk.ldC d4.box)
  have F4 := Lib.hid (And.intro ((F3.out.1.but (bel_but hb4)).but b4) ((F3.out.2.but (bel_but hb4)).but b4))
  clear hb4 s4 d4 b4 D3 F3 N4
  go_wp2_with (first | (refine wpList_st (by rfl) (.tmp 5) (.tmp 32) (by rfl) _ (by rfl) _ (by rfl) S4.out ?_) | (refine wpList_loadg (by rfl) 45 (.tmp 5) (by rfl) _ (by rfl) _ L4.out ?_))
  refine (N5.out W4).mono ?_
  rintro r w5 ⟨rfl, hb5⟩
  obtain ⟨W5, s5, d5, b5⟩ := (D4.out.call hb5).set k5
  have S5 := Lib.hid s5
  have D5 := Lib.hid d5
  have L5 := Lib.hid (Tk.ldC d5.box)
  have F5 := Lib.hid (And.intro ((F4.out.1.but (bel_but hb5)).but b5) ((F4.out.2.but (bel_but hb5)).but b5))
  clear hb5 s5 d5 b5 D4 F4 N5 S4 L4
  go_wp2_with (first | (refine wpList_st (by rfl) (.tmp 5) (.tmp 37) (by rfl) _ (by rfl) _ (by rfl) S5.out ?_) | (refine wpList_loadg (by rfl) 45 (.tmp 5) (by rfl) _ (by rfl) _ L5.out ?_))
  refine (N6.out W5).mono ?_
  rintro r w6 ⟨v6, rfl, ho6, hb6⟩
  have hbo := bel_but (g := g) hb6
  have d6 := D5.out.call hb6
  have g6 := And.intro (F5.out.1.but hbo) (F5.out.2.but hbo)
  have o6' := ovn_mono ho6 D5.out.lt
  obtain ⟨q6, rfl, hq6, -, -⟩ := ho6
  obtain ⟨C1, c1, rfl⟩ := own_slice hq6
  obtain ⟨d6', p6⟩ := d6.put o6'
  obtain ⟨W6, s6, d6'', b6⟩ := d6'.set k6
  have S6 := Lib.hid s6
  have D6 := Lib.hid d6''
  have L6 := Lib.hid (Tk.ldC d6''.box)
  have F6 := Lib.hid (And.intro (And.intro ((g6.1.but (bel_but ((Below.refl _ _).alloc (Nat.le_refl _) _))).but b6) ((g6.2.but (bel_but ((Below.refl _ _).alloc (Nat.le_refl _) _))).but b6)) (p6.but b6))
  clear hb6 hbo d6 g6 o6' hq6 d6' p6 s6 d6'' b6 D5 F5 N6 S5 L5
  go_wp2_with (first | (refine wpList_store_last rfl 41 _ _ rfl _ (oc o6.i o6.c (.slice C1 o6.p.length c1)) rfl rfl (IOpn _ _ _) rfl (one_oc _ _ _ _ _) ?_) | (refine wpList_st (by rfl) (.tmp 5) (.tmp 42) (by rfl) _ (by rfl) _ (by rfl) S6.out ?_) | (refine wpList_loadg (by rfl) 45 (.tmp 5) (by rfl) _ (by rfl) _ L6.out ?_))
  obtain ⟨h6, hh6⟩ : ∃ h6, h6 = w6.heap.size := ⟨_, rfl⟩
  rw [← hh6] at F6
  rw [← hh6]
  clear hh6 S6 L6
  refine (N7.out W6).mono ?_
  rintro r w7 ⟨rfl, hb7⟩
  have D7 := Lib.hid (D6.out.call hb7)
  have F7 := Lib.hid (And.intro (And.intro (F6.out.1.1.but (bel_but hb7)) (F6.out.1.2.but (bel_but hb7))) (F6.out.2.but (bel_but hb7)))
  clear hb7 D6 F6 N7
  by_cases he : e = 0
  · subst he
    have HA := Lib.hid (ldOB F7.out.1.2.1)
    have HB := Lib.hid (ldOB F7.out.2.1)
    obtain ⟨W9, s9, a9, b9, c9⟩ := D7.out.fin (x := ⟨n1, l2, o3, n4, t5, o6⟩) F7.out.1.1 F7.out.1.2.2.2 F7.out.2.2.2
    have S9 := Lib.hid s9
    have A9 := Lib.hid a9
    have B9 := Lib.hid (And.intro b9 c9)
    clear s9 a9 b9 c9
    have hn1 := HN.out.1
    have hn4 := HN.out.2
    go_wp2_with (first | (refine wpList_loadg (by rfl) 41 (.tmp 7) (by rfl) _ (by rfl) _ HA.out ?_) | (refine wpList_loadg (by rfl) 41 (.tmp 10) (by rfl) _ (by rfl) _ HB.out ?_) | (refine wpList_value (by rfl) _ (bld_all (x := ⟨n1, l2, o3, n4, t5, o6⟩) (by rfl) (by rfl) (by rfl) (by rfl) (by rfl) (by rfl) (by rfl)) ?_) | (refine wpList_st (by rfl) (.tmp 2) (.tmp 57) (by rfl) _ (by rfl) _ (by rfl) S9.out ?_))
    exact bodyPost_ret (res_cell_tmp 2 3 76 ⟨w.heap.size, 0, none⟩ _ rfl rfl (lvI A9.out)) rfl ⟨_, rfl, B9.out⟩
  · have t1 : (e != 0) = true := by simpa using he
    have HE := Lib.hid he
    clear he
    obtain ⟨W9, s9, a9, b9, c9⟩ := D7.out.zero
    have S9 := Lib.hid s9
    have A9 := Lib.hid a9
    have B9 := Lib.hid (And.intro b9 c9)
    clear s9 a9 b9 c9
    go_wp2_with (first | (refine wpList_value (by rfl) _ (bld_0 (by rfl)) ?_) | (refine wpList_st (by rfl) (.tmp 2) (.tmp 47) (by rfl) _ (by rfl) _ (by rfl) S9.out ?_))
    exact bodyPost_ret (res_cell_tmp 2 3 76 ⟨w.heap.size, 0, none⟩ _ rfl rfl (lvI A9.out)) rfl ⟨_, rfl, B9.out⟩
theorem rdecode_calls (s : ByteArray) (w : World) (hs : s.size ≤ 9223372036854775807) :
    Calls Try.prog 55 #[.string s] w fun r w' => ∃ v, r = .returned (.tuple #[v, .int .i64 (decF (bs s)).2]) ∧ IV w' v (decF (bs s)).1 ∧ Below w.heap.size w w' := by
  have hl : (bs s).length ≤ 9223372036854775807 := by rw [bs_len]; exact hs
  have hn : ∀ W, Calls Try.prog 61 #[.agg #[.string s, .int .i64 0], .int .u64 1024] W fun r w' => r = .returned (.tuple #[.int .u64 ((d1 (bs s)).1 : Nat), .agg #[.string (ba (d1 (bs s)).2.b), .int .i64 (d1 (bs s)).2.e]]) ∧ Below W.heap.size W w' := fun W => by
    have h := rnum_calls ⟨bs s, 0⟩ 1024 W hl
    unfold cV cC at h
    dsimp only at h
    rw [ba_bs] at h
    exact h
  have h := rdecode_gen s w (e := doneC (d6 (bs s)).2) (Lib.hid hn)
    (Lib.hid (fun W => rget_calls (d1 (bs s)).2 W (Nat.le_trans (d1_len _) hl)))
    (Lib.hid (fun W => rtakeOpening_calls (d2 (bs s)).2 W (Nat.le_trans (d2_len _) hl)))
    (Lib.hid (fun W => rnum_calls (d3 (bs s)).2 1024 W (Nat.le_trans (d3_len _) hl)))
    (Lib.hid (fun W => rtext_calls (d4 (bs s)).2 4096 W (Nat.le_trans (d4_len _) hl) (by decide) (by decide)))
    (Lib.hid (fun W => rtakeOpening_calls (d5 (bs s)).2 W (Nat.le_trans (d5_len _) hl)))
    (Lib.hid (fun W => rdone_calls (d6 (bs s)).2 W))
    (Lib.hid ⟨d1_le _, d4_le _⟩)
  refine h.mono fun r w' ⟨v, e1, e2, e3⟩ => ⟨v, ?_, ?_, e3⟩
  · rw [e1, dec_e]
  · rw [dec_x]
    exact e2
end Go.Proofs.Ytcaocnlchfbeaaa.If
