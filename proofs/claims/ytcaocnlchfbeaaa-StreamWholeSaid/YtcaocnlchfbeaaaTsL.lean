/- The walk of chapter 29's law StepTakes. -/
import Derived.Test.YtcaocnlchfbeaaaTsR
import Derived.Test.YtcaocnlchfbeaaaBi
namespace Go.Proofs.Ytcaocnlchfbeaaa.Tk
open Go.RowKit Go.Proofs.Ytcaocnlchfbeaaa.Mk Go.Proofs.Ytcaocnlchfbeaaa.Op Go.Proofs.Ytcaocnlchfbeaaa.Hd Go.Proofs.Ytcaocnlchfbeaaa.St Go.Proofs.Ytcaocnlchfbeaaa.Cur Go.Proofs.Ytcaocnlchfbeaaa.Stp
section
variable {P : Program} {ops : Array Oper} {o : Oper} {a : Act} {w : World} {K : Act → World → Prop} {Q : Exit → Act → World → Prop} {E : Prop}
theorem step_call (hw : Region.wanted o (yielded ops a.tmps) = true) (f : FuncId) (args : Array Value) (hrun : (execOp a.eval o).run P w = .ok (.enter f args) w) {post : Ending → World → Prop} (hc : Calls P f args w post)
    (h : ∀ e w', post e w' → ∃ v, e = .returned v ∧ K (a.put o.dst v) w') : if Region.wanted o (yielded ops a.tmps) = true then Oper.wp P o a w K Q else E := by
  rw [if_pos hw]
  unfold Oper.wp
  rw [hrun, Oper.upon_enter]
  refine hc.mono fun e w' hp => ?_
  obtain ⟨v, rfl, hk⟩ := h e w' hp
  exact hk
end
theorem wp_callS {P : Program} {o : Oper} {a : Act} {w : World} {K : Act → World → Prop} {Q : Exit → Act → World → Prop} (f : FuncId) (args : Array Value) (hrun : (execOp a.eval o).run P w = .ok (.enter f args) w) {post : Ending → World → Prop} (hc : Calls P f args w post)
    (h : ∀ e w', post e w' → ∃ v, e = .returned v ∧ K (a.put o.dst v) w') : Oper.wp P o a w K Q := by
  unfold Oper.wp
  rw [hrun, Oper.upon_enter]
  refine hc.mono fun e w' hp => ?_
  obtain ⟨v, rfl, hk⟩ := h e w' hp
  exact hk
theorem step_ok (c : C) : (stepC c).1.1.Ok := by
  unfold stepC
  dsimp only
  split
  · exact hd0_ok
  · exact getC_ok c
theorem step_len (c : C) : (stepC c).2.b.length ≤ c.b.length := by
  have h1 := open_len (getC c).2
  have h2 := getC_len c
  unfold stepC
  dsimp only
  split <;> exact Nat.le_trans h1 h2
theorem SQ.cw {L : List (Nat × Obj)} {w w1 w2 : World} {b : Nat} (h : SQ L w w1) (k : CW b w1 w2) (hb : w.heap.size ≤ b) (hL : ∀ p ∈ L, p.1 ≠ b) : SQ L w w2 :=
  ⟨h.1.but k (fun p hp e => hL p hp e), h.2.trans (k.below h.2.size hb)⟩
theorem YSt {o : Oper} {a : Act} {w : World} {x : Operand} {g : Nat} {h : Hd} {p : Opn} {sv : Value} (k : h.Ok) (hw : w.heap[g]? = some (sB h p sv)) (ho : o.op = .load 43 x := by rfl) (hx : a.eval x = .pointer (some ⟨g, 0, none⟩) := by rfl) : (execOp a.eval o).run Try.prog w = .ok (.value (.agg (sc h p sv).toArray)) w := by
  unfold execOp
  simp only [ho, hx, Sem.run_bind, ldSt k hw, Result.andThen_ok, Sem.run_pure]
theorem c0C {w : World} {g : Nat} {c : C} (h : w.heap[g]? = some (cO c)) : w.cell? ⟨g, 0, none⟩ = some (.string (ba c.b)) := by rw [cell_of_row _ _ _ _ _ _ h]; rfl
theorem c1C {w : World} {g : Nat} {c : C} (h : w.heap[g]? = some (cO c)) : w.cell? ⟨g, 1, none⟩ = some (.int .i64 c.e) := by rw [cell_of_row _ _ _ _ _ _ h]; rfl
theorem own_bel {w w' : World} {B : Nat} {e : TypeId} {sz : Nat} {v : Value} {n : Nat} {xs : List Value} (h : w.ownsRow B e sz v n xs) (hb : Below w.heap.size w w') : w'.ownsRow B e sz v n xs :=
  own_but h (But.of_below (S := fun _ => False) hb) (fun _ e => e.elim)
theorem own_cw {w w' : World} {B b : Nat} {e : TypeId} {sz : Nat} {v : Value} {n : Nat} {xs : List Value} (h : w.ownsRow B e sz v n xs) (hb : CW b w w') (hlt : b < B) : w'.ownsRow B e sz v n xs :=
  own_but h hb (fun _ e => by rw [e]; exact hlt)
theorem sameO_self (a : Opn) : sameO a a = true := by simp [sameO]
set_option maxHeartbeats 40000000 in
set_option maxRecDepth 100000 in
theorem lawTakes_calls (s : ByteArray) (w : World) (hs : s.size ≤ 140737488351232) : Calls Try.prog 4 #[.string s] w fun e w' => e = .returned (.bool true) ∧ Below w.heap.size w w' := by
  have hl : (bs s).length ≤ 9223372036854775807 := by rw [bs_len]; omega
  have HR : Hid (∀ w, Calls Try.prog 19 #[.agg #[.string s, .int .i64 0]] w fun r w' => ∃ v, r = .returned (.tuple #[v, cV (stepC ⟨bs s, 0⟩).2]) ∧ SVn w.heap.size w' v (stepC ⟨bs s, 0⟩).1.1 (stepC ⟨bs s, 0⟩).1.2 ∧ Below w.heap.size w w') := Lib.hid (fun w => rtakeStep_calls ⟨bs s, 0⟩ w hl)
  have HQ : Hid (∀ w, Calls Try.prog 20 #[.agg #[.string s, .int .i64 0]] w fun r w' => ∃ v, r = .returned (.tuple #[v, cV (openC ⟨bs s, 0⟩).2]) ∧ OVn w.heap.size w' v (openC ⟨bs s, 0⟩).1 ∧ Below w.heap.size w w') := Lib.hid (fun w => rtakeOpening_calls ⟨bs s, 0⟩ w hl)
  have HS := Lib.hid (fun b W (hW : CU b ⟨bs s, 0⟩ W) => takeStep_calls b ⟨bs s, 0⟩ W hW hl)
  have HO := Lib.hid (fun b W (hW : CU b ⟨bs s, 0⟩ W) => takeOpening_calls b ⟨bs s, 0⟩ W hW hl)
  have hok := step_ok ⟨bs s, 0⟩
  have hl1 := Nat.le_trans (step_len ⟨bs s, 0⟩) hl
  have hl2 := Nat.le_trans (open_len ⟨bs s, 0⟩) hl
  generalize stepC ⟨bs s, 0⟩ = x at *
  generalize openC ⟨bs s, 0⟩ = y at *
  obtain ⟨⟨hd, o⟩, d⟩ := x
  obtain ⟨p, q⟩ := y
  simp only at HR HQ HS HO hok hl1 hl2
  unfold cV cC at *
  have Hok := Lib.hid hok
  clear hok hl
  go_enter Try.func4, Try.ntmps4
  go_wp2_with fail
  refine (read_calls _ _).mono ?_
  rintro r w1 ⟨rfl, hu1, hb1⟩
  have Z1 := Lib.hid (And.intro hu1 (And.intro hb1 hu1.lt))
  clear hu1 hb1
  go_wp2_with fail
  refine (read_calls _ _).mono ?_
  rintro r w2 ⟨rfl, hu2, hb2⟩
  have Z2 := Lib.hid (show CU w.heap.size ⟨bs s, 0⟩ w2 ∧ CU w1.heap.size ⟨bs s, 0⟩ w2 ∧ Below w.heap.size w w2 ∧ w.heap.size < w1.heap.size ∧ w1.heap.size < w2.heap.size from ⟨Z1.out.1.keep hb2, hu2, below_up Z1.out.2.1 hb2, Z1.out.2.2, hu2.lt⟩)
  clear hu2 hb2 Z1
  generalize w1.heap.size = b2 at *
  go_wp2_with fail
  refine (HR.out _).mono ?_
  rintro r w3 ⟨vo, rfl, ⟨sv, rfl, hsl, h32, h63⟩, hb3⟩
  obtain ⟨A, cp, rfl⟩ := own_slice hsl
  have Hs3 := Lib.hid (And.intro hsl (And.intro h32 h63))
  have Z3 := Lib.hid (show CU w.heap.size ⟨bs s, 0⟩ w3 ∧ CU b2 ⟨bs s, 0⟩ w3 ∧ Below w.heap.size w w3 ∧ w.heap.size < b2 ∧ b2 < w2.heap.size ∧ w2.heap.size ≤ w3.heap.size from ⟨Z2.out.1.keep hb3, Z2.out.2.1.keep hb3, below_up Z2.out.2.2.1 hb3, Z2.out.2.2.2.1, Z2.out.2.2.2.2, hb3.size⟩)
  have IS3 := Lib.hid (ISt Hok.out o (.slice A o.p.length cp))
  have RS3 := Lib.hid (rsz hd0_ok Hok.out op0 o (.slice none 0 0) (.slice A o.p.length cp))
  have OS3 := Lib.hid (one_sc (h := hd) o A o.p.length cp)
  clear hb3 Z2 hsl h32 h63 HR
  go_upto_region 3 with (first | (refine wpList_store_row rfl 43 _ _ rfl w3.heap.size (sc hd o (.slice A o.p.length cp)).toArray rfl rfl _ _ (nwA _ _ _) IS3.out RS3.out OS3.out ?_) | (refine wpList_store_row rfl 45 _ _ rfl (w3.heap.size + 1) #[.string (ba d.b), .int .i64 d.e] rfl rfl _ _ ((setRow_other _ _ _ _ (by omega)).trans (nwB _ _ _)) (IC2 _ _) rfl (oneC _ _) ?_))
  generalize hW4 : World.setRow (World.setRow _ _ _) _ _ = W4
  obtain ⟨g, hg⟩ : ∃ g, g = w3.heap.size := ⟨_, rfl⟩
  have Z4 := Lib.hid (show CU w.heap.size ⟨bs s, 0⟩ W4 ∧ CU b2 ⟨bs s, 0⟩ W4 ∧ Below w.heap.size w W4 ∧ w.heap.size < b2 ∧ b2 < g ∧ g + 2 ≤ W4.heap.size ∧ W4.heap[g]? = some (sB hd o (.slice A o.p.length cp)) ∧ W4.heap[g + 1]? = some (cO d) ∧ W4.ownsRow (b2 + 1) 35 32 (.slice A o.p.length cp) o.p.length (o.p.flatMap hc) from by
    have h1 := Z3.out.2.2.2.1
    have h2 := Z3.out.2.2.2.2.1
    have h3 := Z3.out.2.2.2.2.2
    have hba := below2 w3 (.cells Try.zeroCells43 43) (cO ⟨[], 0⟩)
    rw [← hW4, hg]
    refine ⟨CU.row (CU.row (Z3.out.1.keep hba) (by omega) _) (by omega) _, CU.row (CU.row (Z3.out.2.1.keep hba) (by omega) _) (by omega) _, below_row (below_row (below_up Z3.out.2.2.1 hba) (by omega)) (by omega), h1, by omega, by simp [World.setRow], (setRow_other _ _ _ _ (by omega)).trans (setRow_heap _ _ _ _ _ _ (nwA _ _ _)), setRow_heap _ _ _ _ _ _ ((setRow_other _ _ _ _ (by omega)).trans (nwB _ _ _)), ?_⟩
    exact own_mono (own_bel Hs3.out.1 (below_row (below_row hba (Nat.le_refl _)) (by omega))) (by omega))
  rw [← hg]
  have H3 := Lib.hid Hs3.out.2
  clear hW4 hg Z3 Hs3 IS3 RS3 OS3
  go_wp2_with fail
  refine (HQ.out _).mono ?_
  rintro r w5 ⟨vo, rfl, ⟨sv, rfl, hsl, h32, h63⟩, hb5⟩
  obtain ⟨B, cq, rfl⟩ := own_slice hsl
  have Hs5 := Lib.hid (And.intro hsl (And.intro h32 h63))
  have Z5 := Lib.hid (show CU w.heap.size ⟨bs s, 0⟩ w5 ∧ CU b2 ⟨bs s, 0⟩ w5 ∧ Below w.heap.size w w5 ∧ w.heap.size < b2 ∧ b2 < g ∧ g + 2 ≤ W4.heap.size ∧ W4.heap.size ≤ w5.heap.size ∧ w5.heap[g]? = some (sB hd o (.slice A o.p.length cp)) ∧ w5.heap[g + 1]? = some (cO d) ∧ w5.ownsRow (b2 + 1) 35 32 (.slice A o.p.length cp) o.p.length (o.p.flatMap hc) from
    ⟨Z4.out.1.keep hb5, Z4.out.2.1.keep hb5, below_up Z4.out.2.2.1 hb5, Z4.out.2.2.2.1, Z4.out.2.2.2.2.1, Z4.out.2.2.2.2.2.1, hb5.size, (hb5.block _ (lt_of Z4.out.2.2.2.2.2.2.1)).trans Z4.out.2.2.2.2.2.2.1, (hb5.block _ (lt_of Z4.out.2.2.2.2.2.2.2.1)).trans Z4.out.2.2.2.2.2.2.2.1, own_bel Z4.out.2.2.2.2.2.2.2.2 hb5⟩)
  clear hb5 Z4 hsl h32 h63 HQ
  go_upto_region 4 with (first | (refine wpList_store_row rfl 41 _ _ rfl w5.heap.size (oc p.i p.c (.slice B p.p.length cq)) rfl rfl _ _ (nwA _ _ _) (IOpn _ _ _) (by rfl) (one_oc _ _ _ _ _) ?_) | (refine wpList_store_row rfl 45 _ _ rfl (w5.heap.size + 1) #[.string (ba q.b), .int .i64 q.e] rfl rfl _ _ ((setRow_other _ _ _ _ (by omega)).trans (nwB _ _ _)) (IC2 _ _) rfl (oneC _ _) ?_))
  generalize hW6 : World.setRow (World.setRow _ _ _) _ _ = W6
  obtain ⟨u, hu⟩ : ∃ u, u = w5.heap.size := ⟨_, rfl⟩
  have Z6 := Lib.hid (show CU w.heap.size ⟨bs s, 0⟩ W6 ∧ CU b2 ⟨bs s, 0⟩ W6 ∧ (w.heap.size < b2 ∧ b2 < g ∧ g + 2 ≤ u) ∧ SQ [(g, sB hd o (.slice A o.p.length cp)), (g + 1, cO d), (u, oB p.i p.c (.slice B p.p.length cq)), (u + 1, cO q)] w W6 ∧ W6.ownsRow (b2 + 1) 35 32 (.slice A o.p.length cp) o.p.length (o.p.flatMap hc) ∧ W6.ownsRow (b2 + 1) 35 32 (.slice B p.p.length cq) p.p.length (p.p.flatMap hc) from by
    have h1 := Z5.out.2.2.2.1
    have h2 := Z5.out.2.2.2.2.1
    have h3 := Z5.out.2.2.2.2.2.1
    have h4 := Z5.out.2.2.2.2.2.2.1
    have hba := below2 w5 (oB 0 0 (.slice none 0 0)) (cO ⟨[], 0⟩)
    have hbb := below_row (cs := #[.string (ba q.b), .int .i64 q.e]) (g := w5.heap.size + 1) (below_row (cs := oc p.i p.c (.slice B p.p.length cq)) hba (Nat.le_refl _)) (by omega)
    rw [← hW6, hu]
    refine ⟨Z5.out.1.keep hbb, Z5.out.2.1.keep hbb, ⟨h1, h2, by omega⟩, ⟨KQ.cons ((hbb.block _ (lt_of Z5.out.2.2.2.2.2.2.2.1)).trans Z5.out.2.2.2.2.2.2.2.1) (KQ.cons ((hbb.block _ (lt_of Z5.out.2.2.2.2.2.2.2.2.1)).trans Z5.out.2.2.2.2.2.2.2.2.1) (KQ.cons ((setRow_other _ _ _ _ (by omega)).trans (setRow_heap _ _ _ _ _ _ (nwA _ _ _))) (KQ.cons (setRow_heap _ _ _ _ _ _ ((setRow_other _ _ _ _ (by omega)).trans (nwB _ _ _))) (KQ.nil _)))), below_up Z5.out.2.2.1 hbb⟩, own_bel Z5.out.2.2.2.2.2.2.2.2.2 hbb, own_mono (own_bel Hs5.out.1 hbb) (by omega)⟩)
  rw [← hu]
  have H5 := Lib.hid Hs5.out.2
  obtain ⟨h1, h2, h3⟩ := Z6.out.2.2.1
  have hbw : w.heap.size ≤ b2 := by omega
  have HNa : Hid (∀ x ∈ [(g, sB hd o (.slice A o.p.length cp)), (g + 1, cO d), (u, oB p.i p.c (.slice B p.p.length cq)), (u + 1, cO q)], x.1 ≠ w.heap.size) := Lib.hid (fun x hx => by simp at hx; rcases hx with rfl | rfl | rfl | rfl <;> simp <;> omega)
  have HNb : Hid (∀ x ∈ [(g, sB hd o (.slice A o.p.length cp)), (g + 1, cO d), (u, oB p.i p.c (.slice B p.p.length cq)), (u + 1, cO q)], x.1 ≠ b2) := Lib.hid (fun x hx => by simp at hx; rcases hx with rfl | rfl | rfl | rfl <;> simp <;> omega)
  have HN12 : w.heap.size ≠ b2 := by omega
  clear hW6 hu Z5 Hs5
  have S_X0 : SQ [(g, sB hd o (.slice A o.p.length cp)), (g + 1, cO d), (u, oB p.i p.c (.slice B p.p.length cq)), (u + 1, cO q)] w W6.drew := Z6.out.2.2.2.1.drew
  have A_X0 := own_bel Z6.out.2.2.2.2.1 (Below.refl _ W6).drew
  have B_X0 := own_bel Z6.out.2.2.2.2.2 (Below.refl _ W6).drew
  have C_X0 : CU w.heap.size ⟨bs s, 0⟩ W6.drew := Z6.out.1.keep (Below.refl _ W6).drew
  have D_X0 : CU b2 ⟨bs s, 0⟩ W6.drew := Z6.out.2.1.keep (Below.refl _ W6).drew
  clear Z6
  go_wp2_with fail
  refine wp_region_held_drew (S := SQ [(g, sB hd o (.slice A o.p.length cp)), (g + 1, cO d), (u, oB p.i p.c (.slice B p.p.length cq)), (u + 1, cO q)] w) (by kernel_rfl) S_X0 (fun hHeld => ?_)
  generalize World.drew W6 = X0 at *
  clear hHeld
  have zd : (ba d.b).size = d.b.length := rfl
  have zq : (ba q.b).size = q.b.length := rfl
  refine wpAnyH_take (i := 0) (oi := ⟨some 25, _, _, _, _, _⟩) (v := .pointer (some ⟨w.heap.size, 0, none⟩)) rfl (by kernel_rfl) (by kernel_rfl) (by kernel_rfl) (fun _ _ _ h => h) (Or.inl ⟨by kernel_rfl, by intro wx _; go_simp⟩) (by assumption) ?_
  try simp only [Act.put, List.setIfInBounds_toArray, List.set_cons_zero, List.set_cons_succ]
  refine wpAnyH_take (i := 2) (oi := ⟨some 27, _, _, _, _, _⟩) (v := .agg (sc hd o (.slice A o.p.length cp)).toArray) rfl (by kernel_rfl) (by kernel_rfl) (by kernel_rfl) (fun _ _ _ h => h) (Or.inl ⟨by kernel_rfl, by intro wx hx; exact YSt Hok.out hx.a0⟩) (by assumption) ?_
  try simp only [Act.put, List.setIfInBounds_toArray, List.set_cons_zero, List.set_cons_succ]
  refine wpAnyH_ready (rs := [1]) (by kernel_rfl) (by simp) ?_
  refine AllReadyH.cons rfl (fun K hK => ?_) AllReadyH.nil
  · rw [if_pos (by kernel_rfl)]
    refine wp_callS _ _ (by go_simp) (HS.out _ _ C_X0) ?_
    rintro e V1 ⟨v1, rfl, hv1, hu1, hw1⟩
    refine ⟨_, rfl, ?_⟩
    have S_V1 := SQ.cw S_X0 hw1 (Nat.le_refl _) HNa.out
    have A_V1 := own_cw A_X0 hw1 (by omega)
    have B_V1 := own_cw B_X0 hw1 (by omega)
    have C_V1 := hu1
    have D_V1 := CU.other D_X0 hw1 (by omega)
    try dsimp only
    refine hK.out (Act.put _ (some 26) _) _ S_V1 (fun _ => ?_)
    try simp only [Act.put, List.setIfInBounds_toArray, List.set_cons_zero, List.set_cons_succ]
    clear hK K
    refine wpAnyH_ready (rs := [3]) (by kernel_rfl) (by simp) ?_
    refine AllReadyH.cons rfl (fun K hK => ?_) AllReadyH.nil
    · rw [if_pos (by kernel_rfl)]
      refine wp_callS _ _ (by go_simp) (rssame_calls hd hd o o _ _ V1 hv1.sv (SVn.sv ⟨_, rfl, A_V1, H3.out.1, H3.out.2⟩) Hok.out Hok.out) ?_
      rintro e V2 ⟨rfl, hb2⟩
      refine ⟨_, rfl, ?_⟩
      rw [sameS_self]
      have S_V2 := S_V1.keep hb2
      have A_V2 := own_bel A_V1 hb2
      have B_V2 := own_bel B_V1 hb2
      have C_V2 := C_V1.keep hb2
      have D_V2 := D_V1.keep hb2
      try dsimp only
      refine hK.out (Act.put _ (some 28) _) _ S_V2 (fun _ => ?_)
      try simp only [Act.put, List.setIfInBounds_toArray, List.set_cons_zero, List.set_cons_succ]
      clear hK K
      refine wpAnyH_take (i := 4) (oi := ⟨some 29, _, _, _, _, _⟩) (v := .bool true) rfl (by kernel_rfl) (by kernel_rfl) (by kernel_rfl) (fun _ _ _ h => h) (Or.inl ⟨by kernel_rfl, by intro wx _; go_simp⟩) (by assumption) ?_
      try simp only [Act.put, List.setIfInBounds_toArray, List.set_cons_zero, List.set_cons_succ]
      refine wpAnyH_take (i := 5) (oi := ⟨some 30, _, _, _, _, _⟩) (v := .pointer (some ⟨w.heap.size, 0, none⟩)) rfl (by kernel_rfl) (by kernel_rfl) (by kernel_rfl) (fun _ _ _ h => h) (Or.inl ⟨by kernel_rfl, by intro wx _; go_simp⟩) (by assumption) ?_
      try simp only [Act.put, List.setIfInBounds_toArray, List.set_cons_zero, List.set_cons_succ]
      refine wpAnyH_take (i := 7) (oi := ⟨some 32, _, _, _, _, _⟩) (v := .pointer (some ⟨g + 1, 0, none⟩)) rfl (by kernel_rfl) (by kernel_rfl) (by kernel_rfl) (fun _ _ _ h => h) (Or.inl ⟨by kernel_rfl, by intro wx _; go_simp⟩) (by assumption) ?_
      try simp only [Act.put, List.setIfInBounds_toArray, List.set_cons_zero, List.set_cons_succ]
      refine wpAnyH_take (i := 8) (oi := ⟨some 33, _, _, _, _, _⟩) (v := .string (ba d.b)) rfl (by kernel_rfl) (by kernel_rfl) (by kernel_rfl) (fun _ _ _ h => h) (Or.inl ⟨by kernel_rfl, by intro wx hx; have c0 := c0C hx.a1; go_simp⟩) (by assumption) ?_
      try simp only [Act.put, List.setIfInBounds_toArray, List.set_cons_zero, List.set_cons_succ]
      refine wpAnyH_take (i := 9) (oi := ⟨some 34, _, _, _, _, _⟩) (v := .int .i64 (d.b.length : Int)) rfl (by kernel_rfl) (by kernel_rfl) (by kernel_rfl) (fun _ _ _ h => h) (Or.inl ⟨by kernel_rfl, by intro wx _; go_simp⟩) (by assumption) ?_
      try simp only [Act.put, List.setIfInBounds_toArray, List.set_cons_zero, List.set_cons_succ]
      refine wpAnyH_ready (rs := [6]) (by kernel_rfl) (by simp) ?_
      refine AllReadyH.cons rfl (fun K hK => ?_) AllReadyH.nil
      · rw [if_pos (by kernel_rfl)]
        refine wp_callS _ _ (by go_simp) (left_calls _ d V2 C_V2) ?_
        rintro e w9 ⟨rfl, hw9⟩
        refine ⟨_, rfl, ?_⟩
        rw [hw9]
        clear hw9 w9
        refine hK.out (Act.put _ (some 31) _) _ S_V2 (fun _ => ?_)
        try simp only [Act.put, List.setIfInBounds_toArray, List.set_cons_zero, List.set_cons_succ]
        clear hK K
        refine wpAnyH_take (i := 10) (oi := ⟨some 35, _, _, _, _, _⟩) (v := .bool true) rfl (by kernel_rfl) (by kernel_rfl) (by kernel_rfl) (fun _ _ _ h => h) (Or.inl ⟨by kernel_rfl, by intro wx _; go_simp⟩) (by assumption) ?_
        try simp only [Act.put, List.setIfInBounds_toArray, List.set_cons_zero, List.set_cons_succ]
        refine wpAnyH_take (i := 11) (oi := ⟨some 36, _, _, _, _, _⟩) (v := .bool true) rfl (by kernel_rfl) (by kernel_rfl) (by kernel_rfl) (fun _ _ _ h => h) (Or.inl ⟨by kernel_rfl, by intro wx _; go_simp⟩) (by assumption) ?_
        try simp only [Act.put, List.setIfInBounds_toArray, List.set_cons_zero, List.set_cons_succ]
        refine wpAnyH_take (i := 12) (oi := ⟨some 37, _, _, _, _, _⟩) (v := .bool true) rfl (by kernel_rfl) (by kernel_rfl) (by kernel_rfl) (fun _ _ _ h => h) (Or.inl ⟨by kernel_rfl, by intro wx _; go_simp⟩) (by assumption) ?_
        try simp only [Act.put, List.setIfInBounds_toArray, List.set_cons_zero, List.set_cons_succ]
        refine wpAnyH_take (i := 13) (oi := ⟨some 38, _, _, _, _, _⟩) (v := .pointer (some ⟨w.heap.size, 0, none⟩)) rfl (by kernel_rfl) (by kernel_rfl) (by kernel_rfl) (fun _ _ _ h => h) (Or.inl ⟨by kernel_rfl, by intro wx _; go_simp⟩) (by assumption) ?_
        try simp only [Act.put, List.setIfInBounds_toArray, List.set_cons_zero, List.set_cons_succ]
        refine wpAnyH_take (i := 15) (oi := ⟨some 40, _, _, _, _, _⟩) (v := .pointer (some ⟨g + 1, 1, none⟩)) rfl (by kernel_rfl) (by kernel_rfl) (by kernel_rfl) (fun _ _ _ h => h) (Or.inl ⟨by kernel_rfl, by intro wx _; go_simp⟩) (by assumption) ?_
        try simp only [Act.put, List.setIfInBounds_toArray, List.set_cons_zero, List.set_cons_succ]
        refine wpAnyH_take (i := 16) (oi := ⟨some 41, _, _, _, _, _⟩) (v := .int .i64 d.e) rfl (by kernel_rfl) (by kernel_rfl) (by kernel_rfl) (fun _ _ _ h => h) (Or.inl ⟨by kernel_rfl, by intro wx hx; have c0 := c1C hx.a1; go_simp⟩) (by assumption) ?_
        try simp only [Act.put, List.setIfInBounds_toArray, List.set_cons_zero, List.set_cons_succ]
        refine wpAnyH_ready (rs := [14]) (by kernel_rfl) (by simp) ?_
        refine AllReadyH.cons rfl (fun K hK => ?_) AllReadyH.nil
        · rw [if_pos (by kernel_rfl)]
          refine wp_callS _ _ (by go_simp) (err_calls _ d V2 C_V2) ?_
          rintro e w9 ⟨rfl, hw9⟩
          refine ⟨_, rfl, ?_⟩
          rw [hw9]
          clear hw9 w9
          refine hK.out (Act.put _ (some 39) _) _ S_V2 (fun _ => ?_)
          try simp only [Act.put, List.setIfInBounds_toArray, List.set_cons_zero, List.set_cons_succ]
          clear hK K
          refine wpAnyH_take (i := 17) (oi := ⟨some 42, _, _, _, _, _⟩) (v := .bool true) rfl (by kernel_rfl) (by kernel_rfl) (by kernel_rfl) (fun _ _ _ h => h) (Or.inl ⟨by kernel_rfl, by intro wx _; go_simp⟩) (by assumption) ?_
          try simp only [Act.put, List.setIfInBounds_toArray, List.set_cons_zero, List.set_cons_succ]
          refine wpAnyH_take (i := 18) (oi := ⟨some 43, _, _, _, _, _⟩) (v := .bool true) rfl (by kernel_rfl) (by kernel_rfl) (by kernel_rfl) (fun _ _ _ h => h) (Or.inl ⟨by kernel_rfl, by intro wx _; go_simp⟩) (by assumption) ?_
          try simp only [Act.put, List.setIfInBounds_toArray, List.set_cons_zero, List.set_cons_succ]
          refine wpAnyH_take (i := 19) (oi := ⟨some 44, _, _, _, _, _⟩) (v := .bool true) rfl (by kernel_rfl) (by kernel_rfl) (by kernel_rfl) (fun _ _ _ h => h) (Or.inl ⟨by kernel_rfl, by intro wx _; go_simp⟩) (by assumption) ?_
          try simp only [Act.put, List.setIfInBounds_toArray, List.set_cons_zero, List.set_cons_succ]
          refine wpAnyH_take (i := 20) (oi := ⟨some 45, _, _, _, _, _⟩) (v := .pointer (some ⟨b2, 0, none⟩)) rfl (by kernel_rfl) (by kernel_rfl) (by kernel_rfl) (fun _ _ _ h => h) (Or.inl ⟨by kernel_rfl, by intro wx _; go_simp⟩) (by assumption) ?_
          try simp only [Act.put, List.setIfInBounds_toArray, List.set_cons_zero, List.set_cons_succ]
          refine wpAnyH_take (i := 22) (oi := ⟨some 47, _, _, _, _, _⟩) (v := .agg (oc p.i p.c (.slice B p.p.length cq))) rfl (by kernel_rfl) (by kernel_rfl) (by kernel_rfl) (fun _ _ _ h => h) (Or.inl ⟨by kernel_rfl, by intro wx hx; exact YO hx.a2⟩) (by assumption) ?_
          try simp only [Act.put, List.setIfInBounds_toArray, List.set_cons_zero, List.set_cons_succ]
          refine wpAnyH_ready (rs := [21]) (by kernel_rfl) (by simp) ?_
          refine AllReadyH.cons rfl (fun K hK => ?_) AllReadyH.nil
          · rw [if_pos (by kernel_rfl)]
            refine wp_callS _ _ (by go_simp) (HO.out _ _ D_V2) ?_
            rintro e V5 ⟨v5, rfl, hv5, hu5, hw5⟩
            refine ⟨_, rfl, ?_⟩
            have S_V5 := SQ.cw S_V2 hw5 (by omega) HNb.out
            have A_V5 := own_cw A_V2 hw5 (by omega)
            have B_V5 := own_cw B_V2 hw5 (by omega)
            have C_V5 := CU.other C_V2 hw5 (by omega)
            have D_V5 := hu5
            try dsimp only
            refine hK.out (Act.put _ (some 46) _) _ S_V5 (fun _ => ?_)
            try simp only [Act.put, List.setIfInBounds_toArray, List.set_cons_zero, List.set_cons_succ]
            clear hK K
            refine wpAnyH_ready (rs := [23]) (by kernel_rfl) (by simp) ?_
            refine AllReadyH.cons rfl (fun K hK => ?_) AllReadyH.nil
            · rw [if_pos (by kernel_rfl)]
              refine wp_callS _ _ (by go_simp) (rsame_calls p p _ _ V5 hv5.ov (OVn.ov ⟨_, rfl, B_V5, H5.out.1, H5.out.2⟩)) ?_
              rintro e V6 ⟨rfl, hb6⟩
              refine ⟨_, rfl, ?_⟩
              rw [sameO_self]
              have S_V6 := S_V5.keep hb6
              have A_V6 := own_bel A_V5 hb6
              have B_V6 := own_bel B_V5 hb6
              have C_V6 := C_V5.keep hb6
              have D_V6 := D_V5.keep hb6
              try dsimp only
              refine hK.out (Act.put _ (some 48) _) _ S_V6 (fun _ => ?_)
              try simp only [Act.put, List.setIfInBounds_toArray, List.set_cons_zero, List.set_cons_succ]
              clear hK K
              refine wpAnyH_take (i := 24) (oi := ⟨some 49, _, _, _, _, _⟩) (v := .bool true) rfl (by kernel_rfl) (by kernel_rfl) (by kernel_rfl) (fun _ _ _ h => h) (Or.inl ⟨by kernel_rfl, by intro wx _; go_simp⟩) (by assumption) ?_
              try simp only [Act.put, List.setIfInBounds_toArray, List.set_cons_zero, List.set_cons_succ]
              refine wpAnyH_take (i := 25) (oi := ⟨some 50, _, _, _, _, _⟩) (v := .bool true) rfl (by kernel_rfl) (by kernel_rfl) (by kernel_rfl) (fun _ _ _ h => h) (Or.inl ⟨by kernel_rfl, by intro wx _; go_simp⟩) (by assumption) ?_
              try simp only [Act.put, List.setIfInBounds_toArray, List.set_cons_zero, List.set_cons_succ]
              refine wpAnyH_take (i := 26) (oi := ⟨some 51, _, _, _, _, _⟩) (v := .pointer (some ⟨b2, 0, none⟩)) rfl (by kernel_rfl) (by kernel_rfl) (by kernel_rfl) (fun _ _ _ h => h) (Or.inl ⟨by kernel_rfl, by intro wx _; go_simp⟩) (by assumption) ?_
              try simp only [Act.put, List.setIfInBounds_toArray, List.set_cons_zero, List.set_cons_succ]
              refine wpAnyH_take (i := 28) (oi := ⟨some 53, _, _, _, _, _⟩) (v := .pointer (some ⟨u + 1, 0, none⟩)) rfl (by kernel_rfl) (by kernel_rfl) (by kernel_rfl) (fun _ _ _ h => h) (Or.inl ⟨by kernel_rfl, by intro wx _; go_simp⟩) (by assumption) ?_
              try simp only [Act.put, List.setIfInBounds_toArray, List.set_cons_zero, List.set_cons_succ]
              refine wpAnyH_take (i := 29) (oi := ⟨some 54, _, _, _, _, _⟩) (v := .string (ba q.b)) rfl (by kernel_rfl) (by kernel_rfl) (by kernel_rfl) (fun _ _ _ h => h) (Or.inl ⟨by kernel_rfl, by intro wx hx; have c0 := c0C hx.a3; go_simp⟩) (by assumption) ?_
              try simp only [Act.put, List.setIfInBounds_toArray, List.set_cons_zero, List.set_cons_succ]
              refine wpAnyH_take (i := 30) (oi := ⟨some 55, _, _, _, _, _⟩) (v := .int .i64 (q.b.length : Int)) rfl (by kernel_rfl) (by kernel_rfl) (by kernel_rfl) (fun _ _ _ h => h) (Or.inl ⟨by kernel_rfl, by intro wx _; go_simp⟩) (by assumption) ?_
              try simp only [Act.put, List.setIfInBounds_toArray, List.set_cons_zero, List.set_cons_succ]
              refine wpAnyH_ready (rs := [27]) (by kernel_rfl) (by simp) ?_
              refine AllReadyH.cons rfl (fun K hK => ?_) AllReadyH.nil
              · rw [if_pos (by kernel_rfl)]
                refine wp_callS _ _ (by go_simp) (left_calls _ q V6 D_V6) ?_
                rintro e w9 ⟨rfl, hw9⟩
                refine ⟨_, rfl, ?_⟩
                rw [hw9]
                clear hw9 w9
                refine hK.out (Act.put _ (some 52) _) _ S_V6 (fun _ => ?_)
                try simp only [Act.put, List.setIfInBounds_toArray, List.set_cons_zero, List.set_cons_succ]
                clear hK K
                refine wpAnyH_take (i := 31) (oi := ⟨some 56, _, _, _, _, _⟩) (v := .bool true) rfl (by kernel_rfl) (by kernel_rfl) (by kernel_rfl) (fun _ _ _ h => h) (Or.inl ⟨by kernel_rfl, by intro wx _; go_simp⟩) (by assumption) ?_
                try simp only [Act.put, List.setIfInBounds_toArray, List.set_cons_zero, List.set_cons_succ]
                refine wpAnyH_take (i := 32) (oi := ⟨some 57, _, _, _, _, _⟩) (v := .bool true) rfl (by kernel_rfl) (by kernel_rfl) (by kernel_rfl) (fun _ _ _ h => h) (Or.inl ⟨by kernel_rfl, by intro wx _; go_simp⟩) (by assumption) ?_
                try simp only [Act.put, List.setIfInBounds_toArray, List.set_cons_zero, List.set_cons_succ]
                refine wpAnyH_take (i := 33) (oi := ⟨some 58, _, _, _, _, _⟩) (v := .bool true) rfl (by kernel_rfl) (by kernel_rfl) (by kernel_rfl) (fun _ _ _ h => h) (Or.inl ⟨by kernel_rfl, by intro wx _; go_simp⟩) (by assumption) ?_
                try simp only [Act.put, List.setIfInBounds_toArray, List.set_cons_zero, List.set_cons_succ]
                refine wpAnyH_take (i := 34) (oi := ⟨some 59, _, _, _, _, _⟩) (v := .pointer (some ⟨b2, 0, none⟩)) rfl (by kernel_rfl) (by kernel_rfl) (by kernel_rfl) (fun _ _ _ h => h) (Or.inl ⟨by kernel_rfl, by intro wx _; go_simp⟩) (by assumption) ?_
                try simp only [Act.put, List.setIfInBounds_toArray, List.set_cons_zero, List.set_cons_succ]
                refine wpAnyH_take (i := 36) (oi := ⟨some 61, _, _, _, _, _⟩) (v := .pointer (some ⟨u + 1, 1, none⟩)) rfl (by kernel_rfl) (by kernel_rfl) (by kernel_rfl) (fun _ _ _ h => h) (Or.inl ⟨by kernel_rfl, by intro wx _; go_simp⟩) (by assumption) ?_
                try simp only [Act.put, List.setIfInBounds_toArray, List.set_cons_zero, List.set_cons_succ]
                refine wpAnyH_take (i := 37) (oi := ⟨some 62, _, _, _, _, _⟩) (v := .int .i64 q.e) rfl (by kernel_rfl) (by kernel_rfl) (by kernel_rfl) (fun _ _ _ h => h) (Or.inl ⟨by kernel_rfl, by intro wx hx; have c0 := c1C hx.a3; go_simp⟩) (by assumption) ?_
                try simp only [Act.put, List.setIfInBounds_toArray, List.set_cons_zero, List.set_cons_succ]
                refine wpAnyH_ready (rs := [35]) (by kernel_rfl) (by simp) ?_
                refine AllReadyH.cons rfl (fun K hK => ?_) AllReadyH.nil
                · rw [if_pos (by kernel_rfl)]
                  refine wp_callS _ _ (by go_simp) (err_calls _ q V6 D_V6) ?_
                  rintro e w9 ⟨rfl, hw9⟩
                  refine ⟨_, rfl, ?_⟩
                  rw [hw9]
                  clear hw9 w9
                  refine hK.out (Act.put _ (some 60) _) _ S_V6 (fun _ => ?_)
                  try simp only [Act.put, List.setIfInBounds_toArray, List.set_cons_zero, List.set_cons_succ]
                  clear hK K
                  refine wpAnyH_take (i := 38) (oi := ⟨some 63, _, _, _, _, _⟩) (v := .bool true) rfl (by kernel_rfl) (by kernel_rfl) (by kernel_rfl) (fun _ _ _ h => h) (Or.inl ⟨by kernel_rfl, by intro wx _; go_simp⟩) (by assumption) ?_
                  try simp only [Act.put, List.setIfInBounds_toArray, List.set_cons_zero, List.set_cons_succ]
                  refine wpAnyH_take (i := 39) (oi := ⟨some 64, _, _, _, _, _⟩) (v := .bool true) rfl (by kernel_rfl) (by kernel_rfl) (by kernel_rfl) (fun _ _ _ h => h) (Or.inl ⟨by kernel_rfl, by intro wx _; go_simp⟩) (by assumption) ?_
                  try simp only [Act.put, List.setIfInBounds_toArray, List.set_cons_zero, List.set_cons_succ]
                  refine wpAnyH_take (i := 40) (oi := ⟨some 65, _, _, _, _, _⟩) (v := .bool true) rfl (by kernel_rfl) (by kernel_rfl) (by kernel_rfl) (fun _ _ _ h => h) (Or.inl ⟨by kernel_rfl, by intro wx _; go_simp⟩) (by assumption) ?_
                  try simp only [Act.put, List.setIfInBounds_toArray, List.set_cons_zero, List.set_cons_succ]
                  refine wpAnyH_ready (rs := [41]) (by kernel_rfl) (by simp) ?_
                  refine AllReadyH.cons rfl (fun K hK => ?_) AllReadyH.nil
                  · rw [if_pos (by kernel_rfl)]
                    refine wp_callS _ _ (by go_simp) (Stp.awake_calls V6) ?_
                    rintro e V9 ⟨rfl, hb9⟩
                    refine ⟨_, rfl, ?_⟩
                    have S_V9 := S_V6.keep hb9
                    have A_V9 := own_bel A_V6 hb9
                    have B_V9 := own_bel B_V6 hb9
                    have C_V9 := C_V6.keep hb9
                    have D_V9 := D_V6.keep hb9
                    try dsimp only
                    refine hK.out (Act.put _ (some 66) _) _ S_V9 (fun _ => ?_)
                    try simp only [Act.put, List.setIfInBounds_toArray, List.set_cons_zero, List.set_cons_succ]
                    clear hK K
                    refine wpAnyH_take (i := 42) (oi := ⟨some 67, _, _, _, _, _⟩) (v := .bool true) rfl (by kernel_rfl) (by kernel_rfl) (by kernel_rfl) (fun _ _ _ h => h) (Or.inl ⟨by kernel_rfl, by intro wx _; go_simp⟩) (by assumption) ?_
                    try simp only [Act.put, List.setIfInBounds_toArray, List.set_cons_zero, List.set_cons_succ]
                    refine wpAnyH_take (i := 43) (oi := ⟨some 2, _, _, _, _, _⟩) (v := .bool true) rfl (by kernel_rfl) (by kernel_rfl) (by kernel_rfl) (fun _ _ _ h => h) (Or.inl ⟨by kernel_rfl, by intro wx _; go_simp⟩) (by assumption) ?_
                    try simp only [Act.put, List.setIfInBounds_toArray, List.set_cons_zero, List.set_cons_succ]
                    refine wpAnyH_done (by kernel_rfl) ?_ _
                    clear HNa HNb H3 H5
                    go_wp2_with fail
                    go_ret
                    exact ⟨rfl, S_V9.2⟩
end Go.Proofs.Ytcaocnlchfbeaaa.Tk
