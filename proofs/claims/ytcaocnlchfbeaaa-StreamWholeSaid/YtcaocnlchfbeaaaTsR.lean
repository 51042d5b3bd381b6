/- The walk of the reference's taking of a step. -/
import Derived.Test.YtcaocnlchfbeaaaTkR
import Derived.Test.YtcaocnlchfbeaaaTs
import Derived.Test.YtcaocnlchfbeaaaBg
namespace Go.Proofs.Ytcaocnlchfbeaaa.Tk
open Go.RowKit Go.Proofs.Ytcaocnlchfbeaaa.Mk Go.Proofs.Ytcaocnlchfbeaaa.Op Go.Proofs.Ytcaocnlchfbeaaa.Hd Go.Proofs.Ytcaocnlchfbeaaa.St Go.Proofs.Ytcaocnlchfbeaaa.Cur Go.Proofs.Ytcaocnlchfbeaaa.Stp
open Go.Proofs.Ytcaocnlchfbeaaa.Shape (depthI)
def hB (h : Hd) : Obj := .cells h.c.toArray 38 (0, 0)
theorem YHd {o : Oper} {a : Act} {w : World} {x : Operand} {g : Nat} {h : Hd} (k : h.Ok) (hw : w.heap[g]? = some (hB h)) (ho : o.op = .load 38 x := by rfl) (hx : a.eval x = .pointer (some ⟨g, 0, none⟩) := by rfl) : (execOp a.eval o).run Try.prog w = .ok (.value h.v) w := by
  unfold execOp
  simp only [ho, hx, Sem.run_bind, loadAt_Hd hw k, Result.andThen_ok, Sem.run_pure]
theorem YB2 {op : Oper} {a : Act} {w : World} {x y : Operand} {h : Hd} {o : Opn} {sv : Value} (k : h.Ok) (ho : op.op = .build 43 #[(0, x), (1, y)] := by rfl) (hx : a.eval x = h.v := by rfl) (hy : a.eval y = .agg (oc o.i o.c sv) := by rfl) : (execOp a.eval op).run Try.prog w = .ok (.value (.agg (sc h o sv).toArray)) w := by
  have e : ((#[(0, x), (1, y)] : Array (Nat × Operand)).map fun (i, x) => (i, a.eval x)) = #[(0, h.v), (1, .agg (oc o.i o.c sv))] := by simp [hx, hy]
  unfold execOp
  simp only [ho, e, Sem.run_bind, run_bho k w, Result.andThen_ok, Sem.run_pure]
theorem YB0 {op : Oper} {a : Act} {w : World} (ho : op.op = .build 43 #[] := by rfl) : (execOp a.eval op).run Try.prog w = .ok (.value (.agg (sc hd0 op0 (.slice none 0 0)).toArray)) w := by
  unfold execOp
  simp only [ho]
  kernel_rfl
theorem ldSO {w : World} {g : Nat} {h : Hd} {o : Opn} {sv : Value} (k : h.Ok) (hw : w.heap[g]? = some (sB h o sv)) : (loadVar 43 ⟨g, 0, none⟩).run Try.prog w = .ok (.agg (sc h o sv).toArray) w := lvSt k hw
set_option maxHeartbeats 8000000 in
set_option maxRecDepth 100000 in
theorem rtakeStep_calls (c : C) (w : World) (hl : c.b.length ≤ 9223372036854775807) :
    Calls Try.prog 19 #[cV c] w fun r w' => ∃ v, r = .returned (.tuple #[v, cV (stepC c).2]) ∧ SVn w.heap.size w' v (stepC c).1.1 (stepC c).1.2 ∧ Below w.heap.size w w' := by
  have HG := Lib.hid (fun w => rget_calls c w hl)
  have hgl := getC_len c
  have hgo := getC_ok c
  have hoc : stepC c = if (openC (getC c).2).2.e ≠ 0 then ((hd0, op0), (openC (getC c).2).2) else (((getC c).1, (openC (getC c).2).1), (openC (getC c).2).2) := rfl
  generalize getC c = x at *
  obtain ⟨hd, d⟩ := x
  simp only at hoc hgl hgo HG
  have HO := Lib.hid (fun w => rtakeOpening_calls d w (Nat.le_trans hgl hl))
  generalize openC d = y at *
  obtain ⟨o, d2⟩ := y
  simp only at hoc HO
  have Hoc := Lib.hid hoc
  have Hok := Lib.hid hgo
  clear hoc hgo hgl
  unfold cV cC at *
  go_enter Try.func19, Try.ntmps19
  go_wp2_with fail
  generalize hW : World.alloc (World.alloc (World.alloc w _) _) _ = W0
  have z : W0.heap[w.heap.size]? = some (cO c) ∧ W0.heap[w.heap.size + 1]? = some (sB hd0 op0 (.slice none 0 0)) ∧ W0.heap[w.heap.size + 2]? = some (cO ⟨[], 0⟩) ∧ Below w.heap.size w W0 ∧ W0.heap.size = w.heap.size + 3 := by
    rw [← hW]
    refine ⟨(Below.heap_alloc _ _ _ (by simp <;> omega)).trans ((Below.heap_alloc _ _ _ (by simp)).trans (heap_new w _)), (Below.heap_alloc _ _ _ (by simp)).trans ?_, ?_, (((Below.refl _ _).alloc (Nat.le_refl _) _).alloc (by simp) _).alloc (by simp <;> omega) _, by simp⟩
    · have := heap_new (w.alloc (.cells #[.string (ba c.b), .int .i64 c.e] 45)) (sB hd0 op0 (.slice none 0 0))
      rwa [World.size_alloc] at this
    · have := heap_new ((w.alloc (.cells #[.string (ba c.b), .int .i64 c.e] 45)).alloc (sB hd0 op0 (.slice none 0 0))) (cO ⟨[], 0⟩)
      rwa [World.size_alloc, World.size_alloc] at this
  have Z := Lib.hid z
  clear hW z
  go_wp2_with (first | (refine wpList_loadg (by rfl) 45 (.tmp 1) (by rfl) _ (by rfl) _ (ldC Z.out.1) ?_))
  refine (HG.out _).mono ?_
  rintro r w1 ⟨rfl, hb1⟩
  have Z1 := Lib.hid (show w1.heap[w.heap.size]? = some (cO c) ∧ w1.heap[w.heap.size + 1]? = some (sB hd0 op0 (.slice none 0 0)) ∧ w1.heap[w.heap.size + 2]? = some (cO ⟨[], 0⟩) ∧ Below w.heap.size w w1 ∧ w.heap.size + 3 ≤ w1.heap.size from
    ⟨(hb1.block _ (lt_of Z.out.1)).trans Z.out.1, (hb1.block _ (lt_of Z.out.2.1)).trans Z.out.2.1, (hb1.block _ (lt_of Z.out.2.2.1)).trans Z.out.2.2.1, below_up Z.out.2.2.2.1 hb1, by have := hb1.size; have := Z.out.2.2.2.2; omega⟩)
  have Z1l := Lib.hid (lt_of Z1.out.1)
  clear hb1 Z HG
  go_upto_region 2 with (first | (refine wpList_store_last rfl 38 _ _ rfl _ hd.c.toArray rfl rfl (IHd Hok.out) (zero_size Hok.out) (Hd.c_one _) ?_) | (refine wpList_store_row (by rfl) 45 _ _ (by rfl) _ #[.string (ba (d).b), .int .i64 (d).e] (by rfl) (by rfl) _ _ ((Below.heap_alloc _ _ _ Z1l.out).trans Z1.out.1) (IC2 _ _) rfl (oneC _ _) ?_))
  generalize hW3 : World.setRow _ _ _ = W3
  obtain ⟨g, hg⟩ : ∃ g, g = w1.heap.size := ⟨_, rfl⟩
  have Z3 := Lib.hid (show W3.heap[w.heap.size]? = some (cO d) ∧ W3.heap[w.heap.size + 1]? = some (sB hd0 op0 (.slice none 0 0)) ∧ W3.heap[w.heap.size + 2]? = some (cO ⟨[], 0⟩) ∧ Below w.heap.size w W3 ∧ w.heap.size + 3 ≤ g ∧ g < W3.heap.size ∧ W3.heap[g]? = some (hB hd) from by
    have h3 := Z1.out.2.2.2.2
    rw [← hW3, hg]
    exact ⟨setRow_heap _ _ _ _ _ _ ((Below.heap_alloc _ _ _ Z1l.out).trans Z1.out.1), (setRow_other _ _ _ _ (by omega)).trans ((Below.heap_alloc _ _ _ (by omega)).trans Z1.out.2.1), (setRow_other _ _ _ _ (by omega)).trans ((Below.heap_alloc _ _ _ (by omega)).trans Z1.out.2.2.1), below_row (Z1.out.2.2.2.1.alloc (by omega) _) (Nat.le_refl _), h3, by simp [World.setRow], (setRow_other _ _ _ _ (by omega)).trans (heap_new _ _)⟩)
  rw [← hg]
  clear hW3 hg Z1 Z1l
  go_wp2_with (first | (refine wpList_loadg (by rfl) 45 (.tmp 1) (by rfl) _ (by rfl) _ (ldC Z3.out.1) ?_))
  refine (HO.out _).mono ?_
  rintro r w4 ⟨vo, rfl, ⟨sv, rfl, hsl, h32, h63⟩, hb4⟩
  obtain ⟨A, cp, rfl⟩ := own_slice hsl
  have hs3 := Z3.out.2.2.2.2.2.1
  have Z4 := Lib.hid (show w4.heap[w.heap.size]? = some (cO d) ∧ w4.heap[w.heap.size + 1]? = some (sB hd0 op0 (.slice none 0 0)) ∧ w4.heap[w.heap.size + 2]? = some (cO ⟨[], 0⟩) ∧ Below w.heap.size w w4 ∧ w.heap.size + 3 ≤ g ∧ W3.heap.size ≤ w4.heap.size ∧ w4.heap[g]? = some (hB hd) from
    ⟨(hb4.block _ (lt_of Z3.out.1)).trans Z3.out.1, (hb4.block _ (lt_of Z3.out.2.1)).trans Z3.out.2.1, (hb4.block _ (lt_of Z3.out.2.2.1)).trans Z3.out.2.2.1, below_up Z3.out.2.2.2.1 hb4, Z3.out.2.2.2.2.1, hb4.size, (hb4.block _ Z3.out.2.2.2.2.2.1).trans Z3.out.2.2.2.2.2.2⟩)
  have Hs4 := Lib.hid (And.intro hsl (And.intro h32 h63))
  have Z4l := Lib.hid (lt_of Z4.out.1)
  clear hb4 Z3 HO hsl h32 h63
  go_upto_region 3 with (first | (refine wpList_store_last rfl 41 _ _ rfl _ (oc o.i o.c (.slice A o.p.length cp)) rfl rfl (IOpn _ _ _) (by rfl) (one_oc _ _ _ _ _) ?_) | (refine wpList_store_row (by rfl) 45 _ _ (by rfl) _ #[.string (ba (d2).b), .int .i64 (d2).e] (by rfl) (by rfl) _ _ ((Below.heap_alloc _ _ _ Z4l.out).trans Z4.out.1) (IC2 _ _) rfl (oneC _ _) ?_))
  generalize hW5 : World.setRow _ _ _ = W5
  obtain ⟨q, hq⟩ : ∃ q, q = w4.heap.size := ⟨_, rfl⟩
  have Z5 := Lib.hid (show W5.heap[w.heap.size]? = some (cO d2) ∧ W5.heap[w.heap.size + 1]? = some (sB hd0 op0 (.slice none 0 0)) ∧ W5.heap[w.heap.size + 2]? = some (cO ⟨[], 0⟩) ∧ Below w.heap.size w W5 ∧ w.heap.size + 3 ≤ g ∧ g < q ∧ W5.heap[g]? = some (hB hd) ∧ W5.heap[q]? = some (oB o.i o.c (.slice A o.p.length cp)) ∧ W5.ownsRow (w.heap.size + 3) 35 32 (.slice A o.p.length cp) o.p.length (o.p.flatMap hc) from by
    have h3 := Z4.out.2.2.2.2.1
    have h4 := Z4.out.2.2.2.2.2.1
    rw [← hW5, hq]
    exact ⟨setRow_heap _ _ _ _ _ _ ((Below.heap_alloc _ _ _ Z4l.out).trans Z4.out.1), (setRow_other _ _ _ _ (by omega)).trans ((Below.heap_alloc _ _ _ (by omega)).trans Z4.out.2.1), (setRow_other _ _ _ _ (by omega)).trans ((Below.heap_alloc _ _ _ (by omega)).trans Z4.out.2.2.1), below_row (Z4.out.2.2.2.1.alloc (by omega) _) (Nat.le_refl _), h3, by omega, (setRow_other _ _ _ _ (by omega)).trans ((Below.heap_alloc _ _ _ (by omega)).trans Z4.out.2.2.2.2.2.2), (setRow_other _ _ _ _ (by omega)).trans (heap_new _ _),
      own_mono (own_but (own_but Hs4.out.1 (But.of_below (S := fun _ => False) ((Below.refl _ _).alloc (Nat.le_refl _) _)) (fun _ e => e.elim)) (But.rowS (S := fun k => k = w.heap.size) (But.refl _ _) rfl _) (fun _ e => by omega)) (by omega)⟩)
  have H4 := Lib.hid Hs4.out.2
  rw [← hq]
  clear hW5 hq Z4 Z4l Hs4 hs3
  have cE : W5.cell? ⟨w.heap.size, 1, none⟩ = some (.int .i64 d2.e) := by rw [cell_of_row _ _ _ _ _ _ Z5.out.1]; rfl
  have hg3 := Z5.out.2.2.2.2.1
  have hgq := Z5.out.2.2.2.2.2.1
  have G_X0 : W5.drew.heap[w.heap.size + 1]? = some (sB hd0 op0 (.slice none 0 0)) := Z5.out.2.1
  have K_X0 : W5.drew.heap[w.heap.size + 2]? = some (cO ⟨[], 0⟩) := Z5.out.2.2.1
  have O_X0 : W5.drew.ownsRow (w.heap.size + 3) 35 32 (.slice A o.p.length cp) o.p.length (o.p.flatMap hc) := own_but Z5.out.2.2.2.2.2.2.2.2 (But.of_below (S := fun _ => False) (Below.refl _ _).drew) (fun _ e => e.elim)
  have Hx := Lib.hid (And.intro G_X0 (And.intro K_X0 O_X0))
  clear G_X0 K_X0 O_X0
  by_cases he : d2.e = 0
  · have Hr := Lib.hid (Hoc.out.trans (if_neg (by simpa using he)))
    have t1 : (d2.e != 0) = false := by rw [he]; rfl
    clear he
    go_wp2_with fail
    have S_X0 : SQ [(g, hB hd), (q, oB o.i o.c (.slice A o.p.length cp)), (w.heap.size, cO d2)] w W5.drew := ⟨KQ.cons Z5.out.2.2.2.2.2.2.1 (KQ.cons Z5.out.2.2.2.2.2.2.2.1 (KQ.cons Z5.out.1 (KQ.nil _))), Z5.out.2.2.2.1.drew⟩
    obtain ⟨G_X0, K_X0, O_X0⟩ := Hx.out
    clear Z5 cE
    have HN0 : Hid (∀ x ∈ [(g, hB hd), (q, oB o.i o.c (.slice A o.p.length cp)), (w.heap.size, cO d2)], x.1 ≠ w.heap.size + 1) := Lib.hid (fun x hx => by simp at hx; rcases hx with rfl | rfl | rfl <;> simp <;> omega)
    have HN1 : Hid (∀ x ∈ [(g, hB hd), (q, oB o.i o.c (.slice A o.p.length cp)), (w.heap.size, cO d2)], x.1 ≠ w.heap.size + 2) := Lib.hid (fun x hx => by simp at hx; rcases hx with rfl | rfl | rfl <;> simp <;> omega)
    refine wp_region_held_drew (S := SQ [(g, hB hd), (q, oB o.i o.c (.slice A o.p.length cp)), (w.heap.size, cO d2)] w) (by kernel_rfl) S_X0 (fun hHeld => ?_)
    generalize World.drew W5 = X0 at *
    clear hHeld Hx
    refine wpAnyH_take (i := 0) (oi := ⟨some 21, _, _, _, _, _⟩) (v := hd.v) rfl (by kernel_rfl) (by kernel_rfl) (by kernel_rfl) (fun _ _ _ h => h) (Or.inl ⟨by rfl, by intro wx hx; exact YHd Hok.out hx.a0⟩) (by assumption) ?_
    try simp only [Act.put, List.setIfInBounds_toArray, List.set_cons_zero, List.set_cons_succ]
    refine wpAnyH_take (i := 1) (oi := ⟨some 22, _, _, _, _, _⟩) (v := .agg (oc o.i o.c (.slice A o.p.length cp))) rfl (by kernel_rfl) (by kernel_rfl) (by kernel_rfl) (fun _ _ _ h => h) (Or.inl ⟨by rfl, by intro wx hx; exact YO hx.a1⟩) (by assumption) ?_
    try simp only [Act.put, List.setIfInBounds_toArray, List.set_cons_zero, List.set_cons_succ]
    refine wpAnyH_take (i := 2) (oi := ⟨some 23, _, _, _, _, _⟩) (v := .agg (sc hd o (.slice A o.p.length cp)).toArray) rfl (by kernel_rfl) (by kernel_rfl) (by kernel_rfl) (fun _ _ _ h => h) (Or.inl ⟨by rfl, by intro wx hx; exact YB2 Hok.out⟩) (by assumption) ?_
    try simp only [Act.put, List.setIfInBounds_toArray, List.set_cons_zero, List.set_cons_succ]
    refine wpAnyH_take (i := 3) (oi := ⟨some 24, _, _, _, _, _⟩) (v := .agg #[.string (ba d2.b), .int .i64 d2.e]) rfl (by kernel_rfl) (by kernel_rfl) (by kernel_rfl) (fun _ _ _ h => h) (Or.inl ⟨by rfl, by intro wx hx; exact YC hx.a2⟩) (by assumption) ?_
    try simp only [Act.put, List.setIfInBounds_toArray, List.set_cons_zero, List.set_cons_succ]
    refine wpAnyH_ready (rs := [4]) (by kernel_rfl) (by simp) ?_
    refine AllReadyH.cons rfl (fun K hK => ?_) AllReadyH.nil
    · refine step_store rfl 43 _ _ rfl _ rfl (.agg (sc hd o (.slice A o.p.length cp)).toArray) rfl _ (run_storeAt_row (cells := (sc hd o (.slice A o.p.length cp)).toArray) G_X0 (ISt Hok.out _ _) (rsz hd0_ok Hok.out _ _ _ _) (one_sc _ _ _ _)) ?_
      generalize hW1 : World.setRow X0 _ _ = V1
      have S_V1 := hW1 ▸ S_X0.row (by omega) HN0.out
      have G_V1 := hW1 ▸ setRow_heap _ _ _ _ _ _ G_X0
      have K_V1 := hW1 ▸ (setRow_other _ _ _ _ (by omega)).trans K_X0
      have O_V1 := hW1 ▸ own_but O_X0 (But.rowS (S := fun x => x = w.heap.size + 1) (But.refl _ _) rfl _) (fun _ e => by omega)
      try dsimp only
      refine hK.out _ _ S_V1 (fun _ => ?_)
      clear hK K
      refine wpAnyH_ready (rs := [5]) (by kernel_rfl) (by simp) ?_
      refine AllReadyH.cons rfl (fun K hK => ?_) AllReadyH.nil
      · refine step_store rfl 45 _ _ rfl _ rfl (.agg #[.string (ba (d2).b), .int .i64 (d2).e]) rfl _ (run_storeAt_row (cells := #[.string (ba (d2).b), .int .i64 (d2).e]) K_V1 (IC2 _ _) rfl (oneC _ _)) ?_
        generalize hW2 : World.setRow V1 _ _ = V2
        have S_V2 := hW2 ▸ S_V1.row (by omega) HN1.out
        have G_V2 := hW2 ▸ (setRow_other _ _ _ _ (by omega)).trans G_V1
        have K_V2 := hW2 ▸ setRow_heap _ _ _ _ _ _ K_V1
        have O_V2 := hW2 ▸ own_but O_V1 (But.rowS (S := fun x => x = w.heap.size + 2) (But.refl _ _) rfl _) (fun _ e => by omega)
        try dsimp only
        refine hK.out _ _ S_V2 (fun _ => ?_)
        clear hK K
        refine wpAnyH_done (by kernel_rfl) ?_ _
        go_wp2_with fail
        exact bodyPost_ret (results_cell_cell 2 3 43 45 ⟨w.heap.size + 1, 0, none⟩ ⟨w.heap.size + 2, 0, none⟩ _ _ rfl rfl rfl (lvSt Hok.out G_V2) (lvC K_V2)) rfl ⟨_, by rw [Hr.out], by rw [Hr.out]; exact ⟨_, rfl, own_mono O_V2 (by omega), H4.out.1, H4.out.2⟩, S_V2.2⟩
  · have Hr := Lib.hid (Hoc.out.trans (if_pos he))
    have t1 : (d2.e != 0) = true := by simpa using he
    clear he
    go_wp2_with fail
    have S_X0 : SQ [(w.heap.size, cO d2)] w W5.drew := ⟨KQ.cons Z5.out.1 (KQ.nil _), Z5.out.2.2.2.1.drew⟩
    obtain ⟨G_X0, K_X0, O_X0⟩ := Hx.out
    clear Z5 cE
    have HN0 : Hid (∀ x ∈ [(w.heap.size, cO d2)], x.1 ≠ w.heap.size + 1) := Lib.hid (fun x hx => by simp at hx; rw [hx]; simp)
    have HN1 : Hid (∀ x ∈ [(w.heap.size, cO d2)], x.1 ≠ w.heap.size + 2) := Lib.hid (fun x hx => by simp at hx; rw [hx]; simp)
    refine wp_region_held_drew (S := SQ [(w.heap.size, cO d2)] w) (by kernel_rfl) S_X0 (fun hHeld => ?_)
    generalize World.drew W5 = X0 at *
    clear hHeld Hx
    refine wpAnyH_take (i := 0) (oi := ⟨some 19, _, _, _, _, _⟩) (v := .agg (sc hd0 op0 (.slice none 0 0)).toArray) rfl (by kernel_rfl) (by kernel_rfl) (by kernel_rfl) (fun _ _ _ h => h) (Or.inl ⟨by rfl, by intro wx hx; exact YB0⟩) (by assumption) ?_
    try simp only [Act.put, List.setIfInBounds_toArray, List.set_cons_zero, List.set_cons_succ]
    refine wpAnyH_take (i := 1) (oi := ⟨some 20, _, _, _, _, _⟩) (v := .agg #[.string (ba d2.b), .int .i64 d2.e]) rfl (by kernel_rfl) (by kernel_rfl) (by kernel_rfl) (fun _ _ _ h => h) (Or.inl ⟨by rfl, by intro wx hx; exact YC hx.a0⟩) (by assumption) ?_
    try simp only [Act.put, List.setIfInBounds_toArray, List.set_cons_zero, List.set_cons_succ]
    refine wpAnyH_ready (rs := [2]) (by kernel_rfl) (by simp) ?_
    refine AllReadyH.cons rfl (fun K hK => ?_) AllReadyH.nil
    · refine step_store rfl 43 _ _ rfl _ rfl (.agg (sc hd0 op0 (.slice none 0 0)).toArray) rfl _ (run_storeAt_row (cells := (sc hd0 op0 (.slice none 0 0)).toArray) G_X0 (ISt hd0_ok _ _) (rsz hd0_ok hd0_ok _ _ _ _) (one_sc _ _ _ _)) ?_
      generalize hW1 : World.setRow X0 _ _ = V1
      have S_V1 := hW1 ▸ S_X0.row (by omega) HN0.out
      have G_V1 := hW1 ▸ setRow_heap _ _ _ _ _ _ G_X0
      have K_V1 := hW1 ▸ (setRow_other _ _ _ _ (by omega)).trans K_X0
      have O_V1 := hW1 ▸ own_but O_X0 (But.rowS (S := fun x => x = w.heap.size + 1) (But.refl _ _) rfl _) (fun _ e => by omega)
      try dsimp only
      refine hK.out _ _ S_V1 (fun _ => ?_)
      clear hK K
      refine wpAnyH_ready (rs := [3]) (by kernel_rfl) (by simp) ?_
      refine AllReadyH.cons rfl (fun K hK => ?_) AllReadyH.nil
      · refine step_store rfl 45 _ _ rfl _ rfl (.agg #[.string (ba (d2).b), .int .i64 (d2).e]) rfl _ (run_storeAt_row (cells := #[.string (ba (d2).b), .int .i64 (d2).e]) K_V1 (IC2 _ _) rfl (oneC _ _)) ?_
        generalize hW2 : World.setRow V1 _ _ = V2
        have S_V2 := hW2 ▸ S_V1.row (by omega) HN1.out
        have G_V2 := hW2 ▸ (setRow_other _ _ _ _ (by omega)).trans G_V1
        have K_V2 := hW2 ▸ setRow_heap _ _ _ _ _ _ K_V1
        have O_V2 := hW2 ▸ own_but O_V1 (But.rowS (S := fun x => x = w.heap.size + 2) (But.refl _ _) rfl _) (fun _ e => by omega)
        try dsimp only
        refine hK.out _ _ S_V2 (fun _ => ?_)
        clear hK K
        refine wpAnyH_done (by kernel_rfl) ?_ _
        go_wp2_with fail
        exact bodyPost_ret (results_cell_cell 2 3 43 45 ⟨w.heap.size + 1, 0, none⟩ ⟨w.heap.size + 2, 0, none⟩ _ _ rfl rfl rfl (lvSt hd0_ok G_V2) (lvC K_V2)) rfl ⟨_, by rw [Hr.out], by rw [Hr.out]; exact ⟨_, rfl, World.ownsRow_nil _ _ _ _, fun x hx => (by cases hx), Nat.zero_le _⟩, S_V2.2⟩
end Go.Proofs.Ytcaocnlchfbeaaa.Tk
