/- The walk of what the document takes as an opening. -/
import Derived.Test.YtcaocnlchfbeaaaTk
import Derived.Deep.RegionHeld3
import Derived.Test.YtcaocnlchfbeaaaBa
namespace Go.Proofs.Ytcaocnlchfbeaaa.Tk
open Go.RowKit Go.Proofs.Ytcaocnlchfbeaaa.Mk Go.Proofs.Ytcaocnlchfbeaaa.Op Go.Proofs.Ytcaocnlchfbeaaa.Hd Go.Proofs.Ytcaocnlchfbeaaa.St Go.Proofs.Ytcaocnlchfbeaaa.Cur
open Go.Proofs.Ytcaocnlchfbeaaa.Shape (depthI)
def cO (c : C) : Obj := .cells #[.string (ba c.b), .int .i64 c.e] 45 (0, 0)
def eC (c : C) : Value := .agg #[.string (ba c.b), .int .i64 c.e]
theorem UC2 : Try.prog.underlying 45 = some (.struct (Try.prog.fieldsOf 45)) := by kernel_rfl
theorem IC2 (a b : Value) : (Try.prog.info? 45).map (·.size) = some (#[a, b] : Array Value).size := by show _ = some 2; kernel_rfl
theorem lvC {w : World} {g : Nat} {a b : Value} (h : w.heap[g]? = some (.cells #[a, b] 45 (0, 0))) : (loadVar 45 ⟨g, 0, none⟩).run Try.prog w = .ok (.agg #[a, b]) w := run_loadVar_row w g _ 45 _ _ _ h UC2 rfl (IC2 a b)
theorem ldC {w : World} {g : Nat} {a b : Value} (h : w.heap[g]? = some (.cells #[a, b] 45 (0, 0))) : (Instr.loadAt 45 (.pointer (some ⟨g, 0, none⟩))).run Try.prog w = .ok (.agg #[a, b]) w := by
  simp only [Instr.loadAt, Instr.sureAddr, Sem.run_bind, Sem.run_pure, Result.andThen_ok, lvC h]
theorem ldO {w : World} {g : Nat} {i n : Int} {sv : Value} (h : w.heap[g]? = some (oB i n sv)) : (Instr.loadAt 41 (.pointer (some ⟨g, 0, none⟩))).run Try.prog w = .ok (.agg (oc i n sv)) w := by
  simp only [Instr.loadAt, Instr.sureAddr, Sem.run_bind, Sem.run_pure, Result.andThen_ok, ldOpn h]
theorem YC {o : Oper} {a : Act} {w : World} {x : Operand} {g : Nat} {u v : Value} (h : w.heap[g]? = some (.cells #[u, v] 45 (0, 0))) (ho : o.op = .load 45 x := by rfl) (hx : a.eval x = .pointer (some ⟨g, 0, none⟩) := by rfl) : (execOp a.eval o).run Try.prog w = .ok (.value (.agg #[u, v])) w := by
  unfold execOp
  simp only [ho, hx, Sem.run_bind, ldC h, Result.andThen_ok, Sem.run_pure]
theorem YO {o : Oper} {a : Act} {w : World} {x : Operand} {g : Nat} {i n : Int} {sv : Value} (h : w.heap[g]? = some (oB i n sv)) (ho : o.op = .load 41 x := by rfl) (hx : a.eval x = .pointer (some ⟨g, 0, none⟩) := by rfl) : (execOp a.eval o).run Try.prog w = .ok (.value (.agg (oc i n sv))) w := by
  unfold execOp
  simp only [ho, hx, Sem.run_bind, ldO h, Result.andThen_ok, Sem.run_pure]
theorem nwA (w : World) (a b : Obj) : ((w.alloc a).alloc b).heap[w.heap.size]? = some a := (Below.heap_alloc _ _ _ (by simp)).trans (heap_new w a)
theorem nwB (w : World) (a b : Obj) : ((w.alloc a).alloc b).heap[w.heap.size + 1]? = some b := by
  have h := heap_new (w.alloc a) b
  rwa [World.size_alloc] at h
theorem hsz {h : List UInt8} (k : h.length = 32) : (hc h).toArray.size = 32 := by rw [List.size_toArray, hc_len, k]
theorem oneC (s : ByteArray) (e : Int) : (#[.string s, .int .i64 e] : Array Value).all (·.oneCell') = true := by simp [Value.oneCell']
/-- what a round of the loop keeps -/
structure PR (b g r q : Nat) (i n : Int) (w0 : World) (c : C) (sv v : Value) (p : HL) (w : World) : Prop where
  cu : w.heap[b]? = some (cO c)
  ob : w.heap[g]? = some (oB i n sv)
  own : w.ownsRow (g + 1) 35 32 v p.length (p.flatMap hc)
  but : Below w0.heap.size w0 w
  bs : g + 1 ≤ w.heap.size
  res : w.heap[r]? = some (oB 0 0 (.slice none 0 0))
  res2 : w.heap[q]? = some (cO ⟨[], 0⟩)
section
variable {b g r q : Nat} {i n : Int} {w0 w w2 : World} {c c2 : C} {sv v v2 : Value} {p : HL} {h : List UInt8}
theorem lt_of {o : Obj} {x : Nat} (h : w.heap[x]? = some o) : x < w.heap.size := (Array.getElem?_eq_some_iff.1 h).1
theorem PR.keep (k : PR b g r q i n w0 c sv v p w) (hb : Below w.heap.size w w2) : PR b g r q i n w0 c sv v p w2 :=
  ⟨(hb.block _ (lt_of k.cu)).trans k.cu, (hb.block g k.bs).trans k.ob, own_but k.own (But.of_below (S := fun _ => False) hb) (fun _ e => e.elim), below_up k.but hb, Nat.le_trans k.bs hb.size, (hb.block r (lt_of k.res)).trans k.res, (hb.block q (lt_of k.res2)).trans k.res2⟩
theorem PR.cur (k : PR b g r q i n w0 c sv v p w) (h0 : w0.heap.size ≤ b) (hb : b < g) (hr : r ≠ b) (hq : q ≠ b) : PR b g r q i n w0 c2 sv v p (w.setRow b #[.string (ba c2.b), .int .i64 c2.e]) :=
  ⟨setRow_heap _ _ _ _ _ _ k.cu, (setRow_other _ _ _ _ (by omega)).trans k.ob, own_but k.own (But.rowS (S := fun x => x = b) (But.refl _ _) rfl _) (fun _ e => by omega), below_row k.but h0, by simpa [World.setRow] using k.bs, (setRow_other _ _ _ _ hr).trans k.res, (setRow_other _ _ _ _ hq).trans k.res2⟩
theorem PR.app (k : PR b g r q i n w0 c sv v p w) (ho : w2.ownsRow (g + 1) 35 32 v2 (p.length + 1) (p.flatMap hc ++ hc h)) (hg : w.grownBy w2 v.ownBlock) (hb : b < g) (hr : r < g) (hq : q < g) (h0 : w0.heap.size ≤ g) : PR b g r q i n w0 c sv v2 (p ++ [h]) w2 := by
  have hrow : ∀ k', v.ownBlock = some k' → g + 1 ≤ k' := fun k' e => (k.own.lt k' e).1
  have hne : ∀ x, x < g + 1 → some x ≠ v.ownBlock := fun x hx e => by have := hrow x e.symm; omega
  refine ⟨(hg.block b (lt_of k.cu) (hne b (by omega))).trans k.cu, (hg.block g k.bs (hne g (by omega))).trans k.ob, ?_, k.but.grown hg k.but.size (fun x e => by have := hrow x e; omega), Nat.le_trans k.bs hg.size, (hg.block r (lt_of k.res) (hne r (by omega))).trans k.res, (hg.block q (lt_of k.res2) (hne q (by omega))).trans k.res2⟩
  have e1 : (p ++ [h]).length = p.length + 1 := by simp
  have e2 : (p ++ [h]).flatMap hc = p.flatMap hc ++ hc h := by simp
  rw [e1, e2]
  exact ho
theorem PR.put (k : PR b g r q i n w0 c sv v p w) (hb : b < g) (hr : r < g) (hq : q < g) (h0 : w0.heap.size ≤ g) : PR b g r q i n w0 c v v p (w.setCell ⟨g, 2, none⟩ v) :=
  ⟨(Below.heap_setCell _ _ _ _ (by simp; omega)).trans k.cu, ob_set k.ob, own_set k.own (by omega) _ _, k.but.setCell (p := ⟨g, 2, none⟩) h0 _, by simpa [World.setCell] using k.bs, (Below.heap_setCell _ _ _ _ (by simp; omega)).trans k.res, (Below.heap_setCell _ _ _ _ (by simp; omega)).trans k.res2⟩
end
set_option maxHeartbeats 8000000 in
set_option maxRecDepth 100000 in
theorem rtakeOpening_calls (c : C) (w : World) (hl : c.b.length ≤ 9223372036854775807) :
    Calls Try.prog 20 #[cV c] w fun r w' => ∃ v, r = .returned (.tuple #[v, cV (openC c).2]) ∧ OVn w.heap.size w' v (openC c).1 ∧ Below w.heap.size w w' := by
  have HN := Lib.hid (fun w => rnum_calls c 1048576 w hl)
  have hoc := openC_eq c
  have hnl := num_len c 1048576
  have hnm := num_le c 1048576
  generalize numC c 1048576 = x at *
  obtain ⟨n, d⟩ := x
  simp only at hoc hnl hnm HN
  unfold cV cC at *
  go_enter Try.func20, Try.ntmps20
  go_wp2_with fail
  generalize hW : World.alloc (World.alloc (World.alloc w _) _) _ = W0
  have z : W0.heap[w.heap.size]? = some (cO c) ∧ W0.heap[w.heap.size + 1]? = some (oB 0 0 (.slice none 0 0)) ∧ W0.heap[w.heap.size + 2]? = some (cO ⟨[], 0⟩) ∧ Below w.heap.size w W0 ∧ W0.heap.size = w.heap.size + 3 := by
    rw [← hW]
    refine ⟨(Below.heap_alloc _ _ _ (by simp <;> omega)).trans ((Below.heap_alloc _ _ _ (by simp)).trans (heap_new w _)), (Below.heap_alloc _ _ _ (by simp)).trans ?_, ?_, (((Below.refl _ _).alloc (Nat.le_refl _) _).alloc (by simp) _).alloc (by simp <;> omega) _, by simp⟩
    · have := heap_new (w.alloc (.cells #[.string (ba c.b), .int .i64 c.e] 45)) (oB 0 0 (.slice none 0 0))
      rwa [World.size_alloc] at this
    · have := heap_new ((w.alloc (.cells #[.string (ba c.b), .int .i64 c.e] 45)).alloc (oB 0 0 (.slice none 0 0))) (cO ⟨[], 0⟩)
      rwa [World.size_alloc, World.size_alloc] at this
  have Z := Lib.hid z
  clear hW z
  go_wp2_with (first | (refine wpList_loadg (by rfl) 45 (.tmp 1) (by rfl) _ (by rfl) _ (ldC Z.out.1) ?_))
  refine (HN.out _).mono ?_
  rintro r w1 ⟨rfl, hb1⟩
  have Z1 := Lib.hid (show w1.heap[w.heap.size]? = some (cO c) ∧ w1.heap[w.heap.size + 1]? = some (oB 0 0 (.slice none 0 0)) ∧ w1.heap[w.heap.size + 2]? = some (cO ⟨[], 0⟩) ∧ Below w.heap.size w w1 ∧ w.heap.size + 3 ≤ w1.heap.size from
    ⟨(hb1.block _ (lt_of Z.out.1)).trans Z.out.1, (hb1.block _ (lt_of Z.out.2.1)).trans Z.out.2.1, (hb1.block _ (lt_of Z.out.2.2.1)).trans Z.out.2.2.1, below_up Z.out.2.2.2.1 hb1, by have := hb1.size; have := Z.out.2.2.2.2; omega⟩)
  clear hb1 Z
  go_upto_region 2 with (first | (refine wpList_store_row (by rfl) 45 _ _ (by rfl) _ #[.string (ba (d).b), .int .i64 (d).e] (by rfl) (by rfl) _ _ Z1.out.1 (IC2 _ _) rfl (oneC _ _) ?_))
  have Z2 := Lib.hid (show (w1.setRow w.heap.size #[.string (ba d.b), .int .i64 d.e]).heap[w.heap.size]? = some (cO d) ∧ (w1.setRow w.heap.size #[.string (ba d.b), .int .i64 d.e]).heap[w.heap.size + 1]? = some (oB 0 0 (.slice none 0 0)) ∧ (w1.setRow w.heap.size #[.string (ba d.b), .int .i64 d.e]).heap[w.heap.size + 2]? = some (cO ⟨[], 0⟩) ∧ Below w.heap.size w (w1.setRow w.heap.size #[.string (ba d.b), .int .i64 d.e]) ∧ w.heap.size + 3 ≤ (w1.setRow w.heap.size #[.string (ba d.b), .int .i64 d.e]).heap.size from
    ⟨setRow_heap _ _ _ _ _ _ Z1.out.1, (setRow_other _ _ _ _ (by omega)).trans Z1.out.2.1, (setRow_other _ _ _ _ (by omega)).trans Z1.out.2.2.1, below_row Z1.out.2.2.2.1 (Nat.le_refl _), by simpa [World.setRow] using Z1.out.2.2.2.2⟩)
  clear Z1
  generalize w1.setRow w.heap.size #[.string (ba d.b), .int .i64 d.e] = W2 at *
  by_cases hn : n = 0
  · subst hn
    have Hoc := Lib.hid (hoc.trans (if_pos rfl))
    clear hoc hnm
    go_wp2_with fail
    have S_X0 : SQ [(w.heap.size, cO d)] w W2.drew := ⟨KQ.cons Z2.out.1 (KQ.nil _), Z2.out.2.2.2.1.drew⟩
    have G_X0 : W2.drew.heap[w.heap.size + 1]? = some (oB 0 0 (.slice none 0 0)) := Z2.out.2.1
    have K_X0 : W2.drew.heap[w.heap.size + 2]? = some (cO ⟨[], 0⟩) := Z2.out.2.2.1
    clear Z2
    have HN0 : Hid (∀ p ∈ [(w.heap.size, cO d)], p.1 ≠ w.heap.size + 1) := Lib.hid (fun p hp => by simp at hp; rw [hp]; simp)
    have HN1 : Hid (∀ p ∈ [(w.heap.size, cO d)], p.1 ≠ w.heap.size + 2) := Lib.hid (fun p hp => by simp at hp; rw [hp]; simp)
    refine wp_region_held_drew (S := SQ [(w.heap.size, cO d)] w) (by kernel_rfl) S_X0 (fun hHeld => ?_)
    generalize World.drew W2 = X0 at *
    clear hHeld
    refine wpAnyH_take (i := 0) (oi := ⟨some 18, _, _, _, _, _⟩) (v := .agg #[.int .i64 0, .int .i64 0, .slice none 0 0]) rfl (by kernel_rfl) (by kernel_rfl) (by kernel_rfl) (fun _ _ _ h => h) (Or.inl ⟨by rfl, by intro wx _; go_simp⟩) (by assumption) ?_
    try simp only [Act.put, List.setIfInBounds_toArray, List.set_cons_zero, List.set_cons_succ]
    refine wpAnyH_take (i := 1) (oi := ⟨some 19, _, _, _, _, _⟩) (v := .agg #[.string (ba d.b), .int .i64 d.e]) rfl (by kernel_rfl) (by kernel_rfl) (by kernel_rfl) (fun _ _ _ h => h) (Or.inl ⟨by rfl, by intro wx hx; exact YC hx.a0⟩) (by assumption) ?_
    try simp only [Act.put, List.setIfInBounds_toArray, List.set_cons_zero, List.set_cons_succ]
    refine wpAnyH_ready (rs := [2]) (by kernel_rfl) (by simp) ?_
    refine AllReadyH.cons rfl (fun K hK => ?_) AllReadyH.nil
    · refine step_store rfl 41 _ _ rfl _ rfl (.agg (oc 0 0 (.slice none 0 0))) rfl _ (run_storeAt_row (cells := oc 0 0 (.slice none 0 0)) G_X0 (IOpn _ _ _) rfl (one_oc _ _ _ _ _)) ?_
      generalize hW1 : World.setRow X0 _ _ = V1
      have S_V1 := hW1 ▸ S_X0.row (by omega) HN0.out
      have G_V1 := hW1 ▸ setRow_heap _ _ _ _ _ _ G_X0
      have K_V1 := hW1 ▸ (setRow_other _ _ _ _ (by omega)).trans K_X0
      try dsimp only
      refine hK.out _ _ S_V1 (fun _ => ?_)
      clear hK K
      refine wpAnyH_ready (rs := [3]) (by kernel_rfl) (by simp) ?_
      refine AllReadyH.cons rfl (fun K hK => ?_) AllReadyH.nil
      · refine step_store rfl 45 _ _ rfl _ rfl (.agg #[.string (ba (d).b), .int .i64 (d).e]) rfl _ (run_storeAt_row (cells := #[.string (ba (d).b), .int .i64 (d).e]) K_V1 (IC2 _ _) rfl (oneC _ _)) ?_
        generalize hW2 : World.setRow V1 _ _ = V2
        have S_V2 := hW2 ▸ S_V1.row (by omega) HN1.out
        have G_V2 := hW2 ▸ (setRow_other _ _ _ _ (by omega)).trans G_V1
        have K_V2 := hW2 ▸ setRow_heap _ _ _ _ _ _ K_V1
        try dsimp only
        refine hK.out _ _ S_V2 (fun _ => ?_)
        clear hK K
        refine wpAnyH_done (by kernel_rfl) ?_ _
        go_wp2_with fail
        exact bodyPost_ret (results_cell_cell 2 3 41 45 ⟨w.heap.size + 1, 0, none⟩ ⟨w.heap.size + 2, 0, none⟩ _ _ rfl rfl rfl (ldOpn G_V2) (lvC K_V2)) rfl ⟨_, by rw [Hoc.out], by rw [Hoc.out]; exact ovn0 _ _, S_V2.2⟩
  · obtain ⟨m, rfl⟩ : ∃ m, n = m + 1 := ⟨n - 1, by omega⟩
    have t0 : (((m + 1 : Nat) : Int) == 0) = false := by simp; omega
    rw [if_neg hn, Nat.add_sub_cancel] at hoc
    have HN2 := Lib.hid (fun w => rnum_calls d m w (Nat.le_trans hnl hl))
    have hml := num_len d m
    have hmm := num_le d m
    generalize numC d m = x at *
    obtain ⟨i, d2⟩ := x
    simp only at hoc hml hmm HN2
    unfold cV cC at HN2
    clear hn HN
    have t1 : ((m : Int) + 1 == 0) = false := by simp; omega
    have x1 : IntKind.u64.wrap ((m : Int) + 1 - 1) = (m : Int) := by rw [IntKind.wrap_u64]; omega
    have x2 : IntKind.u64.wrap ((m : Int)) = (m : Int) := by rw [IntKind.wrap_u64]; omega
    go_wp2_with (first | (refine wpList_loadg (by rfl) 45 (.tmp 1) (by rfl) _ (by rfl) _ (ldC Z2.out.1) ?_))
    refine (HN2.out _).mono ?_
    rintro r w3 ⟨rfl, hb3⟩
    have Z3 := Lib.hid (show w3.heap[w.heap.size]? = some (cO d) ∧ w3.heap[w.heap.size + 1]? = some (oB 0 0 (.slice none 0 0)) ∧ w3.heap[w.heap.size + 2]? = some (cO ⟨[], 0⟩) ∧ Below w.heap.size w w3 ∧ w.heap.size + 3 ≤ w3.heap.size from
      ⟨(hb3.block _ (lt_of Z2.out.1)).trans Z2.out.1, (hb3.block _ (lt_of Z2.out.2.1)).trans Z2.out.2.1, (hb3.block _ (lt_of Z2.out.2.2.1)).trans Z2.out.2.2.1, below_up Z2.out.2.2.2.1 hb3, Nat.le_trans Z2.out.2.2.2.2 hb3.size⟩)
    clear hb3 Z2 HN2
    have hd0 := depth_nn (n := m + 1) (i := i) (by omega)
    have hd1 := depth_le ((m + 1 : Nat) : Int) i (by omega)
    have HD := Lib.hid (fun w => Shape.rdepth_calls ((m + 1 : Nat) : Int) (i : Int) w (by omega) (by omega) (by omega) (by omega))
    obtain ⟨D, hD⟩ := Int.eq_ofNat_of_zero_le hd0
    rw [hD] at hoc HD hd1
    rw [Int.toNat_natCast] at hoc
    have Hoc := Lib.hid hoc
    clear hd0 hD hoc
    have hcast : ((m + 1 : Nat) : Int) = (m : Int) + 1 := by omega
    rw [hcast] at HD
    go_upto_region 6 with (first | (refine wpList_store_row (by rfl) 45 _ _ (by rfl) _ #[.string (ba (d2).b), .int .i64 (d2).e] (by rfl) (by rfl) _ _ Z3.out.1 (IC2 _ _) rfl (oneC _ _) ?_) | (refine wpList_store_last rfl 41 _ _ rfl _ (oc i (m + 1) (.slice none 0 0)) rfl rfl (IOpn _ _ _) (by rfl) (one_oc _ _ _ _ _) ?_))
    generalize hW4 : World.alloc _ _ = W4
    obtain ⟨g, hg⟩ : ∃ g, g = w3.heap.size := ⟨_, rfl⟩
    have hgs : (w3.setRow w.heap.size #[.string (ba d2.b), .int .i64 d2.e]).heap.size = g := by rw [hg]; simp [World.setRow]
    have hg2 : w.heap.size + 3 ≤ g := by rw [hg]; exact Z3.out.2.2.2.2
    have I4 : PR w.heap.size g (w.heap.size + 1) (w.heap.size + 2) i (m + 1) w d2 (.slice none 0 0) (.slice none 0 0) [] W4 := by
      rw [← hW4]
      refine ⟨(Below.heap_alloc _ _ _ (by rw [hgs]; omega)).trans (setRow_heap _ _ _ _ _ _ Z3.out.1), by rw [← hgs]; exact heap_new _ _, World.ownsRow_nil _ _ _ _, (below_row Z3.out.2.2.2.1 (Nat.le_refl _)).alloc (by rw [hgs]; omega) _, by rw [← hgs]; simp, (Below.heap_alloc _ _ _ (by rw [hgs]; omega)).trans ((setRow_other _ _ _ _ (by omega)).trans Z3.out.2.1), (Below.heap_alloc _ _ _ (by rw [hgs]; omega)).trans ((setRow_other _ _ _ _ (by omega)).trans Z3.out.2.2.1)⟩
    rw [← hg]
    clear hW4 Z3 hgs hg t0 x1 x2
    obtain ⟨c0, c1, c2⟩ := three (i := i) (c := m + 1) (sv := .slice none 0 0) I4.ob
    have I4 := Lib.hid I4
    go_wp2_with fail
    refine (HD.out _).mono ?_
    rintro r w5 ⟨rfl, hb5⟩
    have I5 := Lib.hid (I4.out.keep hb5)
    have hl2 : d2.b.length ≤ 9223372036854775807 := by omega
    clear hb5 I4 c0 c1 c2 HD
    go_wp2_with fail
    go_loopw [8] (fun s8 wr => ∃ (k : Nat) (cc : C) (p : HL) (A : Option Addr) (cap : Nat), k ≤ D ∧ s8 = .int .i64 k ∧ cc.b.length ≤ 9223372036854775807 ∧ p.length ≤ k ∧ Hid (loopC (D - k) cc p = loopC D d2 []) ∧ Hid (∀ x ∈ p, x.length = 32) ∧ Hid (PR w.heap.size g (w.heap.size + 1) (w.heap.size + 2) i (m + 1) w cc (.slice A p.length cap) (.slice A p.length cap) p wr)) (fun s8 _ => D - (intOf s8).toNat)
    case atStart => exact ⟨0, d2, [], none, 0, by omega, rfl, hl2, by simp, Lib.hid rfl, Lib.hid (by simp), I5⟩
    case round =>
      clear I5
      obtain ⟨k, cc, p, A, cap, hk, rfl, hcl, hpk, HL, H32, I⟩ := hrel
      have cE : wr.cell? ⟨w.heap.size, 1, none⟩ = some (.int .i64 cc.e) := by rw [cell_of_row _ _ _ _ _ _ I.out.cu]; rfl
      by_cases hgo : k < D ∧ cc.e = 0
      · obtain ⟨hk0, he0⟩ := hgo
        have HL2 := Lib.hid (show loopC (D - (k + 1)) (hashC cc).2 (p ++ [(hashC cc).1]) = loopC D d2 [] by
          rw [← HL.out, show D - k = D - (k + 1) + 1 by omega, loop_go he0])
        have tE : (cc.e == 0) = true := by simpa using he0
        clear HL he0
        obtain ⟨h, hh⟩ : ∃ h, h = (hashC cc).1 := ⟨_, rfl⟩
        have H32h := Lib.hid (show h.length = 32 by rw [hh]; exact hash_32 cc)
        have hcl2 := hash_len cc
        have HC := Lib.hid (fun w => rhash_calls cc w hcl)
        unfold cV cC hv at HC
        rw [← hh] at HC HL2
        have HP : Hid (p.length + 1 ≤ 63) := Lib.hid (by omega)
        clear hh
        generalize (hashC cc).2 = cc2 at *
        obtain ⟨i0, hi, hz0, hz1, hz2⟩ := info_parts IHi
        go_wp2_with (first | (refine wpList_loadg (by rfl) 45 (.tmp 1) (by rfl) _ (by rfl) _ (ldC I.out.cu) ?_))
        refine (HC.out _).mono ?_
        rintro r w6 ⟨rfl, hb6⟩
        have I6 := Lib.hid (I.out.keep hb6)
        clear hb6 I cE tE
        have hz6 : g + 1 ≤ w6.heap.size := I6.out.bs
        go_upto_region 11 with (first | (refine wpList_store_row (by rfl) 35 _ _ (by rfl) w6.heap.size (hc h).toArray (by rfl) (by rfl) _ _ (nwA w6 _ _) (Cur.IHa H32h.out) (by rw [hsz H32h.out]; rfl) (hc_one h) ?_) | (refine wpList_store_row (by rfl) 45 _ _ (by rfl) (w6.heap.size + 1) #[.string (ba cc2.b), .int .i64 cc2.e] (by rfl) (by rfl) _ _ ((setRow_other _ _ _ _ (by omega)).trans (nwB w6 _ _)) (IC2 _ _) rfl (oneC _ _) ?_))
        generalize hW8 : World.setRow (World.setRow _ _ _) _ _ = W8
        have P8 : PR w.heap.size g (w.heap.size + 1) (w.heap.size + 2) i (m + 1) w cc (.slice A p.length cap) (.slice A p.length cap) p W8 ∧ W8.heap[w6.heap.size]? = some (.cells (hc h).toArray 35 (0, 0)) ∧ W8.heap[w6.heap.size + 1]? = some (cO cc2) := by
          rw [← hW8]
          exact ⟨I6.out.keep (below_row (below_row (((Below.refl _ w6).alloc (Nat.le_refl _) _).alloc (by simp) _) (Nat.le_refl _)) (by omega)), (setRow_other _ _ _ _ (by omega)).trans (setRow_heap _ _ _ _ _ _ (nwA w6 _ _)), setRow_heap _ _ _ _ _ _ ((setRow_other _ _ _ _ (by omega)).trans (nwB w6 _ _))⟩
        have P8 := Lib.hid P8
        clear hW8 I6 HC
        go_upto_region 12 with (first | (refine wpList_loadg (by rfl) 45 (.tmp 10) (by rfl) _ (by rfl) _ (ldC P8.out.2.2) ?_) | (refine wpList_store_row (by rfl) 45 _ _ (by rfl) _ #[.string (ba (cc2).b), .int .i64 (cc2).e] (by rfl) (by rfl) _ _ P8.out.1.cu (IC2 _ _) rfl (oneC _ _) ?_))
        have P9 := Lib.hid (And.intro (P8.out.1.cur (c2 := cc2) (Nat.le_refl _) (by omega) (by omega) (by omega)) (((setRow_other W8 w.heap.size _ #[.string (ba cc2.b), .int .i64 cc2.e] (by omega)).trans P8.out.2.1 : (W8.setRow w.heap.size #[.string (ba cc2.b), .int .i64 cc2.e]).heap[w6.heap.size]? = some (.cells (hc h).toArray 35 (0, 0)))))
        clear P8
        generalize World.setRow W8 w.heap.size #[.string (ba cc2.b), .int .i64 cc2.e] = W9 at *
        obtain ⟨c0, c1, c2⟩ := three (i := i) (c := m + 1) (sv := .slice A p.length cap) P9.out.1.ob
        clear c0 c1
        go_wp2_with (first | (refine wpList_load_row (by rfl) 35 (.tmp 9) (by rfl) _ (by rfl) _ _ _ _ P9.out.2 Cur.UH rfl (Cur.IHa H32h.out) ?_) | (refine wpList_buildOne (by rfl) 39 35 32 (.tmp 55) (by rfl) (hc h).toArray _ _ (by rfl) (hsz H32h.out) IHi UHs (by decide) (by decide) ?_) | (at_builtin; refine wpList_append_lies _ rfl (.tmp 54) (.tmp 56) 39 rfl (g + 1) 35 i0 _ 32 32 UHs hi hz0 hz1 hz2 zcells (by decide) _ _ _ rfl (P9.out.1.own.alloc _) ⟨W9.heap.size, 0, none⟩ 1 1 (hc h) rfl (by rw [hc_len, H32h.out]) (World.news_of_block (heap_new W9 _)) (hc_one' h) (by decide) (by have := HP.out; simp only [maxLen]; omega) (by have := HP.out; omega) (by have := P9.out.1.bs; simp; omega) _ rfl ?_))
        intro gx capx W10 own gro _ _
        have P10 := Lib.hid ((P9.out.1.keep ((Below.refl _ W9).alloc (Nat.le_refl _) (.cells (hc h).toArray 35))).app own gro (by omega) (by omega) (by omega) (by omega))
        have d2 := (three P10.out.ob).2.2
        have f2 := ob_free P10.out.ob 2
        have P11 := Lib.hid (P10.out.put (by omega) (by omega) (by omega) (by omega))
        clear own gro P9 c2 P10
        go_wp2_with fail
        go_roundw
        case rel => exact ⟨k + 1, cc2, p ++ [h], _, _, by omega, by go_num, by omega, by simp; omega, HL2, Lib.hid (by intro x hx; rcases List.mem_append.1 hx with hx | hx; exact H32.out x hx; rw [List.mem_singleton.1 hx]; exact H32h.out), Lib.hid (by simpa using P11.out)⟩
        case measure => simp [intOf] <;> omega
      · have HL2 := Lib.hid ((loop_stop (p := p) (show D - k = 0 ∨ cc.e ≠ 0 by omega)).symm.trans HL.out)
        have HL3 := Lib.hid (show openC c = if cc.e ≠ 0 then (op0, cc) else (⟨(i : Int), ((m + 1 : Nat) : Int), p⟩, cc) by rw [Hoc.out, ← HL2.out])
        have hp63 : p.length ≤ 63 := by omega
        clear HL HL2 Hoc
        have hcond : (decide (k < D) = false) ∨ (decide (k < D) = true ∧ (cc.e == 0) = false) := by
          by_cases e1 : k < D
          · refine .inr ⟨decide_eq_true e1, ?_⟩
            rw [beq_eq_false_iff_ne]
            exact fun e2 => hgo ⟨e1, e2⟩
          · exact .inl (decide_eq_false e1)
        clear hgo
        have HN0 : Hid (∀ x ∈ [(g, oB i (m + 1) (.slice A p.length cap)), (w.heap.size, cO cc)], x.1 ≠ w.heap.size + 1) := Lib.hid (fun x hx => by simp at hx; rcases hx with rfl | rfl <;> simp <;> omega)
        have HN1 : Hid (∀ x ∈ [(g, oB i (m + 1) (.slice A p.length cap)), (w.heap.size, cO cc)], x.1 ≠ w.heap.size + 2) := Lib.hid (fun x hx => by simp at hx; rcases hx with rfl | rfl <;> simp <;> omega)
        rcases hcond with t2 | ⟨t2, t3⟩
        all_goals
          go_upto_region 13 with fail
          by_cases he : cc.e = 0
          · have Hr := Lib.hid (HL3.out.trans (if_neg (by simpa using he)))
            rw [hcast] at Hr
            have t4 : (cc.e != 0) = false := by rw [he]; rfl
            clear he
            go_wp2_with fail
            have S_X0 : SQ [(g, oB i (m + 1) (.slice A p.length cap)), (w.heap.size, cO cc)] w wr.drew := ⟨KQ.cons I.out.ob (KQ.cons I.out.cu (KQ.nil _)), I.out.but.drew⟩
            have G_X0 : wr.drew.heap[w.heap.size + 1]? = some (oB 0 0 (.slice none 0 0)) := I.out.res
            have K_X0 : wr.drew.heap[w.heap.size + 2]? = some (cO ⟨[], 0⟩) := I.out.res2
            have O_X0 : wr.drew.ownsRow (g + 1) 35 32 (.slice A p.length cap) p.length (p.flatMap hc) := own_but I.out.own (But.of_below (S := fun _ => False) (Below.refl _ _).drew) (fun _ e => e.elim)
            clear I cE
            refine wp_region_held_drew (S := SQ [(g, oB i (m + 1) (.slice A p.length cap)), (w.heap.size, cO cc)] w) (by kernel_rfl) S_X0 (fun hHeld => ?_)
            generalize World.drew wr = X0 at *
            clear hHeld
            refine wpAnyH_take (i := 0) (oi := ⟨some 64, _, _, _, _, _⟩) (v := .agg (oc i (m + 1) (.slice A p.length cap))) rfl (by kernel_rfl) (by kernel_rfl) (by kernel_rfl) (fun _ _ _ h => h) (Or.inl ⟨by rfl, by intro wx hx; exact YO hx.a0⟩) (by assumption) ?_
            try simp only [Act.put, List.setIfInBounds_toArray, List.set_cons_zero, List.set_cons_succ]
            refine wpAnyH_take (i := 1) (oi := ⟨some 65, _, _, _, _, _⟩) (v := .agg #[.string (ba cc.b), .int .i64 cc.e]) rfl (by kernel_rfl) (by kernel_rfl) (by kernel_rfl) (fun _ _ _ h => h) (Or.inl ⟨by rfl, by intro wx hx; exact YC hx.a1⟩) (by assumption) ?_
            try simp only [Act.put, List.setIfInBounds_toArray, List.set_cons_zero, List.set_cons_succ]
            refine wpAnyH_ready (rs := [2]) (by kernel_rfl) (by simp) ?_
            refine AllReadyH.cons rfl (fun K hK => ?_) AllReadyH.nil
            · refine step_store rfl 41 _ _ rfl _ rfl (.agg (oc i (m + 1) (.slice A p.length cap))) rfl _ (run_storeAt_row (cells := oc i (m + 1) (.slice A p.length cap)) G_X0 (IOpn _ _ _) rfl (one_oc _ _ _ _ _)) ?_
              generalize hW1 : World.setRow X0 _ _ = V1
              have S_V1 := hW1 ▸ S_X0.row (by omega) HN0.out
              have G_V1 := hW1 ▸ setRow_heap _ _ _ _ _ _ G_X0
              have K_V1 := hW1 ▸ (setRow_other _ _ _ _ (by omega)).trans K_X0
              have O_V1 := hW1 ▸ own_but O_X0 (But.rowS (S := fun x => x = w.heap.size + 1) (But.refl _ _) rfl _) (fun _ e => by omega)
              try dsimp only
              refine hK.out _ _ S_V1 (fun _ => ?_)
              clear hK K
              refine wpAnyH_ready (rs := [3]) (by kernel_rfl) (by simp) ?_
              refine AllReadyH.cons rfl (fun K hK => ?_) AllReadyH.nil
              · refine step_store rfl 45 _ _ rfl _ rfl (.agg #[.string (ba (cc).b), .int .i64 (cc).e]) rfl _ (run_storeAt_row (cells := #[.string (ba (cc).b), .int .i64 (cc).e]) K_V1 (IC2 _ _) rfl (oneC _ _)) ?_
                generalize hW2 : World.setRow V1 _ _ = V2
                have S_V2 := hW2 ▸ S_V1.row (by omega) HN1.out
                have G_V2 := hW2 ▸ (setRow_other _ _ _ _ (by omega)).trans G_V1
                have K_V2 := hW2 ▸ setRow_heap _ _ _ _ _ _ K_V1
                have O_V2 := hW2 ▸ own_but O_V1 (But.rowS (S := fun x => x = w.heap.size + 2) (But.refl _ _) rfl _) (fun _ e => by omega)
                try dsimp only
                refine hK.out _ _ S_V2 (fun _ => ?_)
                clear hK K
                refine wpAnyH_done (by kernel_rfl) ?_ _
                go_wp2_with fail
                exact bodyPost_ret (results_cell_cell 2 3 41 45 ⟨w.heap.size + 1, 0, none⟩ ⟨w.heap.size + 2, 0, none⟩ _ _ rfl rfl rfl (ldOpn G_V2) (lvC K_V2)) rfl ⟨_, by rw [Hr.out], by rw [Hr.out]; exact ⟨_, rfl, own_mono O_V2 (by omega), H32.out, hp63⟩, S_V2.2⟩
          · have Hr := Lib.hid (HL3.out.trans (if_pos he))
            have t4 : (cc.e != 0) = true := by simpa using he
            clear he
            go_wp2_with fail
            have S_X0 : SQ [(g, oB i (m + 1) (.slice A p.length cap)), (w.heap.size, cO cc)] w wr.drew := ⟨KQ.cons I.out.ob (KQ.cons I.out.cu (KQ.nil _)), I.out.but.drew⟩
            have G_X0 : wr.drew.heap[w.heap.size + 1]? = some (oB 0 0 (.slice none 0 0)) := I.out.res
            have K_X0 : wr.drew.heap[w.heap.size + 2]? = some (cO ⟨[], 0⟩) := I.out.res2
            clear I cE
            refine wp_region_held_drew (S := SQ [(g, oB i (m + 1) (.slice A p.length cap)), (w.heap.size, cO cc)] w) (by kernel_rfl) S_X0 (fun hHeld => ?_)
            generalize World.drew wr = X0 at *
            clear hHeld
            refine wpAnyH_take (i := 0) (oi := ⟨some 62, _, _, _, _, _⟩) (v := .agg #[.int .i64 0, .int .i64 0, .slice none 0 0]) rfl (by kernel_rfl) (by kernel_rfl) (by kernel_rfl) (fun _ _ _ h => h) (Or.inl ⟨by rfl, by intro wx _; go_simp⟩) (by assumption) ?_
            try simp only [Act.put, List.setIfInBounds_toArray, List.set_cons_zero, List.set_cons_succ]
            refine wpAnyH_take (i := 1) (oi := ⟨some 63, _, _, _, _, _⟩) (v := .agg #[.string (ba cc.b), .int .i64 cc.e]) rfl (by kernel_rfl) (by kernel_rfl) (by kernel_rfl) (fun _ _ _ h => h) (Or.inl ⟨by rfl, by intro wx hx; exact YC hx.a1⟩) (by assumption) ?_
            try simp only [Act.put, List.setIfInBounds_toArray, List.set_cons_zero, List.set_cons_succ]
            refine wpAnyH_ready (rs := [2]) (by kernel_rfl) (by simp) ?_
            refine AllReadyH.cons rfl (fun K hK => ?_) AllReadyH.nil
            · refine step_store rfl 41 _ _ rfl _ rfl (.agg (oc 0 0 (.slice none 0 0))) rfl _ (run_storeAt_row (cells := oc 0 0 (.slice none 0 0)) G_X0 (IOpn _ _ _) rfl (one_oc _ _ _ _ _)) ?_
              generalize hW1 : World.setRow X0 _ _ = V1
              have S_V1 := hW1 ▸ S_X0.row (by omega) HN0.out
              have G_V1 := hW1 ▸ setRow_heap _ _ _ _ _ _ G_X0
              have K_V1 := hW1 ▸ (setRow_other _ _ _ _ (by omega)).trans K_X0
              try dsimp only
              refine hK.out _ _ S_V1 (fun _ => ?_)
              clear hK K
              refine wpAnyH_ready (rs := [3]) (by kernel_rfl) (by simp) ?_
              refine AllReadyH.cons rfl (fun K hK => ?_) AllReadyH.nil
              · refine step_store rfl 45 _ _ rfl _ rfl (.agg #[.string (ba (cc).b), .int .i64 (cc).e]) rfl _ (run_storeAt_row (cells := #[.string (ba (cc).b), .int .i64 (cc).e]) K_V1 (IC2 _ _) rfl (oneC _ _)) ?_
                generalize hW2 : World.setRow V1 _ _ = V2
                have S_V2 := hW2 ▸ S_V1.row (by omega) HN1.out
                have G_V2 := hW2 ▸ (setRow_other _ _ _ _ (by omega)).trans G_V1
                have K_V2 := hW2 ▸ setRow_heap _ _ _ _ _ _ K_V1
                try dsimp only
                refine hK.out _ _ S_V2 (fun _ => ?_)
                clear hK K
                refine wpAnyH_done (by kernel_rfl) ?_ _
                go_wp2_with fail
                exact bodyPost_ret (results_cell_cell 2 3 41 45 ⟨w.heap.size + 1, 0, none⟩ ⟨w.heap.size + 2, 0, none⟩ _ _ rfl rfl rfl (ldOpn G_V2) (lvC K_V2)) rfl ⟨_, by rw [Hr.out], by rw [Hr.out]; exact ovn0 _ _, S_V2.2⟩
end Go.Proofs.Ytcaocnlchfbeaaa.Tk
