/- The walk of a stream's Done. -/
import Derived.Test.YtcaocnlchfbeaaaStmW
import Derived.Test.YtcaocnlchfbeaaaStmN
import Derived.Test.YtcaocnlchfbeaaaPs
namespace Go.Proofs.Ytcaocnlchfbeaaa.Stm
open Go.RowKit Go.Proofs.Ytcaocnlchfbeaaa.Mk Go.Proofs.Ytcaocnlchfbeaaa.Op Go.Proofs.Ytcaocnlchfbeaaa.Hd Go.Proofs.Ytcaocnlchfbeaaa.St Go.Proofs.Ytcaocnlchfbeaaa.Cur Go.Proofs.Ytcaocnlchfbeaaa.Stp Go.Proofs.Ytcaocnlchfbeaaa.Tk Go.Proofs.Ytcaocnlchfbeaaa.Pf
theorem wpList_val2 {P : Program} {ops : Array Oper} {o : Oper} {rest : List Oper} {a : Act} {w w' : World} {Q : Exit → Act → World → Prop} (hw : Region.wanted o (yielded ops a.tmps) = true) (v : Value) (hr : (execOp a.eval o).run P w = .ok (.value v) w') (h : wpList P ops Q rest (a.put o.dst v) w') : wpList P ops Q (o :: rest) a w := by
  refine wpList_step fun K hK => ?_
  rw [if_pos hw]
  unfold Oper.wp
  rw [hr]
  exact hK _ _ h
theorem wpList_st {ops : Array Oper} {rest : List Oper} {op : Oper} {a : Act} {w W' : World} {Q : Exit → Act → World → Prop} {ty : TypeId} (hgd : op.guard = none) (x y : Operand) (ho : op.op = .store ty x y)
    (px : Value) (hx : a.eval x = px) (vy : Value) (hy : a.eval y = vy) (hr : (Instr.storeAt ty px vy).run Try.prog w = .ok () W')
    (hn : wpList Try.prog ops Q rest (a.put op.dst undef) W') : wpList Try.prog ops Q (op :: rest) a w :=
  wpList_plain hgd fun _ hK => by
    unfold Oper.wp execOp
    simp only [ho, hx, hy, Sem.run_bind, hr, Result.andThen_ok, Sem.run_pure]
    exact hK _ _ hn
theorem exec_append {P : Program} {o : Oper} {a : Act} {w w' : World} {s x : Operand} {t : TypeId} {v u r : Value} (ho : o.op = .call { callee := .builtin .append, args := #[s, x], argTypes := #[t, t] }) (hs : a.eval s = v) (hx : a.eval x = u)
    (hr : (Builtin.append_ #[t, t] o.type #[v, u]).run P w = .ok r w') : (execOp a.eval o).run P w = .ok (.value r) w' := by
  unfold execOp
  simp only [ho, resolve, invoke, builtin, Sem.run_bind, Sem.run_pure, Result.andThen_ok, List.map_toArray, List.map_cons, List.map_nil, hs, hx, hr]
theorem app_none (A : Option Addr) (c : Nat) (w : World) : (Builtin.append_ #[39, 39] 39 #[.slice none 0 0, .slice A 0 c]).run Try.prog w = .ok (.slice none 0 0) w := by
  cases A <;> go_simp
/-- a path is copied -/
theorem path_copy {w : World} {B B0 : Nat} {sv : Value} {p : HL} (h : w.ownsRow B0 35 32 sv p.length (p.flatMap hc)) (h32 : ∀ x ∈ p, x.length = 32) (h63 : p.length ≤ 63) (hB : B ≤ w.heap.size) :
    ∃ (v2 : Value) (w' : World), (Builtin.append_ #[39, 39] 39 #[.slice none 0 0, sv]).run Try.prog w = .ok v2 w' ∧ w'.ownsRow B 35 32 v2 p.length (p.flatMap hc) ∧ Below w.heap.size w w' := by
  by_cases hp : p.length = 0
  · have hp0 : p = [] := List.length_eq_zero_iff.1 hp
    subst hp0
    obtain ⟨A, c, rfl⟩ := own_slice h
    exact ⟨_, w, app_none A c w, World.ownsRow_nil _ _ _ _, Below.refl _ _⟩
  · obtain ⟨hlen, ⟨_, h0⟩ | ⟨g, cap, cur, rfl, hg, hh, h1, h2, h3, h4⟩⟩ := h
    · exact absurd h0 hp
    obtain ⟨i0, hi, hz0, hz1, hz2⟩ := info_parts Tk.IHi
    obtain ⟨g2, cap2, w', r1, r2, r3, _, _⟩ := run_append_lies (P := Try.prog) w 39 39 B 35 i0 _ 32 32 Tk.UHs hi hz0 hz1 hz2 zcells (by decide) (.slice none 0 0) 0 [] (World.ownsRow_nil _ _ _ _) ⟨g, 0, none⟩ p.length cap (p.flatMap hc) hlen
      (fun j u hj => by
        rw [← h4, List.getElem?_take] at hj
        split at hj
        · exact World.news_of_block hh j u hj
        · cases hj)
      (fun u hu => by
        obtain ⟨x, _, hx⟩ := List.mem_flatMap.1 hu
        exact hc_one' x u hx) (by omega) (by simp only [maxLen]; omega) (by omega) hB _ rfl
    rw [Nat.zero_add, List.nil_append] at r2
    rw [Nat.zero_add] at r1
    exact ⟨_, w', r1, r2, (Below.refl _ _).grown r3 (Nat.le_refl _) (fun k hk => by cases hk)⟩
theorem sc_set' {h : Hd} (k : h.Ok) (o : Opn) (sv v2 : Value) : (sc h o sv).set 68 v2 = sc h o v2 := by
  unfold sc
  rw [List.set_append_right _ _ (by rw [h.c_len k]; decide), h.c_len k]
  rfl
theorem sc_set {h : Hd} (k : h.Ok) (o : Opn) (sv v2 : Value) : (sc h o sv).toArray.setIfInBounds 68 v2 = (sc h o v2).toArray := by
  rw [List.setIfInBounds_toArray, sc_set' k]
theorem sB_set {w : World} {g : Nat} {h : Hd} {o : Opn} {sv : Value} (k : h.Ok) (hw : w.heap[g]? = some (sB h o sv)) (v2 : Value) : (w.setCell ⟨g, 68, none⟩ v2).heap[g]? = some (sB h o v2) := by
  unfold sB at hw ⊢
  simp [World.setCell, Array.getElem?_modify, hw]
  exact sc_set' k o sv v2
theorem sB_cell {w : World} {g : Nat} {h : Hd} {o : Opn} {sv : Value} (k : h.Ok) (hw : w.heap[g]? = some (sB h o sv)) : w.cell? ⟨g, 68, none⟩ = some sv := by
  rw [cell_of_row w g 68 _ _ _ hw, List.getElem?_toArray]
  unfold sc
  rw [List.getElem?_append_right (by rw [h.c_len k]; decide), h.c_len k]
  rfl
theorem sB_free {w : World} {g : Nat} {h : Hd} {o : Opn} {sv : Value} (hw : w.heap[g]? = some (sB h o sv)) : w.frozen? ⟨g, 68, none⟩ = false := by
  unfold sB at hw
  simp [World.frozen?, hw]
theorem rw_at {B : Nat} {W : World} {A : Option Addr} {n c : Nat} {ts : List Tr} (h : RW B W (.slice A n c) ts) (hl : ts.length ≤ 1024) {i : Nat} (hi : i < ts.length) : n = ts.length ∧ ∃ b o, A = some ⟨b, o, none⟩ ∧ W.rangeAt b (o + i * 69) (encS ts[i]) := by
  obtain ⟨_, _, A', c', e, _, _, hx⟩ := SL.of_owns h.row (fun t ht => encS_len (h.each t ht).1) (by omega)
  cases e
  obtain ⟨b, o, rfl, hr⟩ := hx (by omega)
  exact ⟨rfl, b, o, rfl, hr i _ (List.getElem?_eq_getElem hi)⟩
theorem ld_e {w : World} {a : Addr} {e : Int} (h : w.cell? a = some (.int .i64 e)) : (Instr.loadAt 24 (.pointer (some a))).run Try.prog w = .ok (.int .i64 e) w := by go_simp
set_option maxHeartbeats 4000000 in
set_option maxRecDepth 100000 in
theorem done_err (k : Nat) (s : Stm.St) (w : World) (h : SM k s w) (he : s.e ≠ 0) :
    Calls Try.prog 13 #[.pointer (some ⟨k, 0, none⟩)] w fun r w' => r = .returned (.tuple #[.slice none 0 0, .int .i64 s.e]) ∧ Below w.heap.size w w' := by
  have c5 := h.c5
  have hkl := h.lt
  have t1 : (s.e != 0) = true := by simpa using he
  have L5 := Lib.hid (fun wx (hx : Below w.heap.size w wx) => ld_e (h.keep hx).c5)
  clear h he
  generalize s.e = e at *
  go_enter Try.func13, Try.ntmps13
  go_wp2_with fail
  refine wp_region_quiet_below (by kernel_rfl) (by kernel_rfl) ?_
  repeat (first | go_big_quiet_skip | ((refine wpQuiet_load rfl 24 _ rfl _ rfl _ (rg_fact L5.out) ?_); simp only [Act.put, List.setIfInBounds_toArray, List.set_cons_zero, List.set_cons_succ]) | go_big_quiet_step (fail) | quiet_step (fail))
  refine wpQuiet_nil ?_
  rintro _ ⟨rp, rfl⟩
  have hb7 := below_regrown w rp.d rp.os
  generalize Sort.grow (redrawn w rp.d) rp.os = w7 at *
  go_wp2_with fail
  go_ret2
  exact ⟨rfl, hb7⟩
set_option maxHeartbeats 4000000 in
set_option maxRecDepth 100000 in
theorem done_short (k : Nat) (s : Stm.St) (w : World) (h : SM k s w) (he : s.e = 0) (hw : wholeS s = false) :
    Calls Try.prog 13 #[.pointer (some ⟨k, 0, none⟩)] w fun r w' => r = .returned (.tuple #[.slice none 0 0, .int .i64 1]) ∧ Below w.heap.size w w' := by
  have c5 := h.c5
  have HW := Lib.hid (whole_calls k s w h)
  rw [hw] at HW
  rw [he] at c5
  clear h he hw
  go_enter Try.func13, Try.ntmps13
  go_wp2_with fail
  refine HW.out.mono ?_
  rintro e w3 ⟨rfl, rfl⟩
  go_wp2_with fail
  go_ret2
  exact ⟨rfl, Below.refl _ _⟩
theorem own_ty {W W' : World} {B g : Nat} {e ty : TypeId} {sz n : Nat} {v : Value} {xs : List Value} {cs : Array Value} {fr : Nat × Nat} (h : W.ownsRow B e sz v n xs) (hg : W.heap[g]? = some (.cells cs ty fr)) (he : e ≠ ty) (hb : But (fun i => i = g) W W') : W'.ownsRow B e sz v n xs := by
  obtain ⟨h1, h2⟩ := h
  refine ⟨h1, ?_⟩
  rcases h2 with h2 | ⟨g2, cap, cur, e1, hgg, hh, hr⟩
  · exact .inl h2
  · have hlt : g2 < W.heap.size := (Array.getElem?_eq_some_iff.1 hh).1
    refine .inr ⟨g2, cap, cur, e1, hgg, (hb.block g2 hlt (fun hS => ?_)).trans hh, hr⟩
    rw [← hS, hh] at hg
    simp at hg
    exact he hg.2.1
/-- what a round of the copying keeps -/
structure DI (w : World) (v : Value) (us : List Tr) (W : World) : Prop where
  bel : Below w.heap.size w W
  rw_ : RW w.heap.size W v us
set_option maxHeartbeats 8000000 in
set_option maxRecDepth 100000 in
theorem done_whole (k : Nat) (s : Stm.St) (ts : List Tr) (w : World) (h : SM k s w) (hrw : RW (k + 1) w s.l ts) (htl : ts.length ≤ 1024) (he : s.e = 0) (hw : wholeS s = true) :
    Calls Try.prog 13 #[.pointer (some ⟨k, 0, none⟩)] w fun r w' => ∃ v, r = .returned (.tuple #[v, .int .i64 0]) ∧ SS w' v (ts.map Tr.ho) ∧ Below w.heap.size w w' := by
  have HW := Lib.hid (whole_calls k s w h)
  obtain ⟨m, r, g, n, l, e⟩ := s
  dsimp only at he hrw
  subst he
  obtain ⟨A, cl, rfl⟩ := own_slice hrw.row
  rw [hw] at HW
  have c4 := h.c4
  have c5 := h.c5
  have hkl := h.lt
  have HR := Lib.hid hrw
  obtain ⟨is, his, his0, his1, his2⟩ := info_parts IStp
  have b2 : is.bytes * ts.length ≤ 281474976710656 := by rw [his2]; omega
  have b3 : ts.length ≤ maxLen := by simp only [maxLen]; omega
  clear h hw hrw
  dsimp only at c4 c5
  go_enter Try.func13, Try.ntmps13
  go_wp2_with fail
  refine HW.out.mono ?_
  rintro e w3 ⟨rfl, rfl⟩
  go_wp2_with (refine wpList_make_own _ rfl _ _ 23 rfl w3.heap.size 43 is _ 69 USs his his0 his1 .i64 .i64 (ts.length : Int) ts.length rfl rfl rfl b2 b3 (Nat.le_refl _) ?_)
  intro W hown hgr
  have D0 := Lib.hid (show DI w3 (.slice (some ⟨w3.heap.size, 0, none⟩) 0 ts.length) [] W from ⟨(Below.refl _ _).grown hgr (Nat.le_refl _) (fun k hk => by cases hk), ⟨hown, fun t ht => by cases ht⟩⟩)
  have c4 : W.cell? ⟨k, 4, none⟩ = some (.slice A ts.length cl) := by rw [hgr.cell_far _ hkl (by simp)]; exact c4
  clear hown hgr HW c5
  go_wp2_with fail
  go_loopw [4, 35] (fun s4 s35 wr => ∃ (i : Nat) (v : Value) (us : List Tr), s35 = .int .i64 (i : Int) ∧ v = s4 ∧ i ≤ ts.length ∧ us.length = i ∧ Hid (us.map Tr.ho = (ts.map Tr.ho).take i) ∧ Hid (DI w3 v us wr)) (fun _ s35 _ => ts.length - (intOf s35).toNat)
  case atStart => exact ⟨0, _, [], rfl, rfl, by omega, rfl, Lib.hid (by simp), D0⟩
  case round =>
    obtain ⟨i, v, us, rfl, rfl, hi, hul, HU, I⟩ := hrel
    clear c4
    by_cases hlt : i < ts.length
    · obtain ⟨_, b, o, rfl, hr⟩ := rw_at (HR.out.below I.out.bel) htl hlt
      have hwr := I.out.bel.size
      obtain ⟨ok, ow, h32, h63⟩ := (HR.out.below I.out.bel).each ts[i] (List.getElem_mem hlt)
      have LW := Lib.hid (ld_at ok hr)
      have HT := Lib.hid (show (ts.map Tr.ho).take (i + 1) = us.map Tr.ho ++ [(ts[i].h, ts[i].o)] by
        rw [HU.out, List.take_succ_eq_append_getElem (by simpa using hlt), List.getElem_map]
        rfl)
      generalize ts[i] = t at *
      obtain ⟨th, to_, tv⟩ := t
      dsimp only at *
      have hba : Below wr.heap.size wr (wr.alloc (sB th to_ tv)) := (Below.refl _ _).alloc (Nat.le_refl _) _
      have hbx := heap_new wr (sB th to_ tv)
      have ow1 := own_but ow (But.of_below (S := fun _ => False) hba) (fun _ e => e.elim)
      obtain ⟨v2, W2, ap, ow2, hb2⟩ := path_copy (B := w3.heap.size) ow1 h32 h63 (Nat.le_trans hwr hba.size)
      have AP := Lib.hid ap
      obtain ⟨A1, c1, rfl⟩ := own_slice ow
      obtain ⟨A2, c2, rfl⟩ := own_slice ow2
      have hbx2 := (hb2.block _ (Array.getElem?_eq_some_iff.1 hbx).1).trans hbx
      have P1 := Lib.hid (run_load_hs (sB_cell ok hbx))
      have S2 := Lib.hid (store_hs (A := A2) (n := to_.p.length) (k := c2) (sB_cell ok hbx2) (sB_free hbx2))
      have hbx3 := sB_set ok hbx2 (.slice A2 to_.p.length c2)
      have LB := Lib.hid (ldSt ok hbx3)
      have hB3 : Below wr.heap.size wr (W2.setCell ⟨wr.heap.size, 68, none⟩ (.slice A2 to_.p.length c2)) := ((But.of_below (S := fun i => i = wr.heap.size) (below_up hba hb2)).setCell (p := ⟨wr.heap.size, 68, none⟩) rfl _).below (Nat.le_refl _) (fun i e => by omega)
      have I3 := Lib.hid (show DI w3 v us (W2.setCell ⟨wr.heap.size, 68, none⟩ (.slice A2 to_.p.length c2)) from ⟨below_up I.out.bel hB3, I.out.rw_.below hB3⟩)
      have OW := Lib.hid (own_ty ow2 hbx2 (by decide) (But.setCell (S := fun i => i = wr.heap.size) (But.refl _ _) (p := ⟨wr.heap.size, 68, none⟩) rfl (.slice A2 to_.p.length c2)))
      have OK := Lib.hid ok
      have HO := Lib.hid (And.intro h32 h63)
      have i1 : (i : Int) < (ts.length : Int) := by omega
      clear ow ow1 ow2 ap hb2 hbx hbx2 hbx3 hB3 hba I ok h32 h63 hr
      go_upto_region 12 with (first | (refine wpList_loadg (by rfl) 43 (.tmp 37) (by rfl) _ (by rfl) _ LW.out ?_) | (refine wpList_store_last rfl 43 _ _ rfl _ (sc th to_ (.slice A1 to_.p.length c1)).toArray rfl rfl (ISt OK.out _ _) (zsz OK.out _ _) (one_sc _ _ _ _) ?_) | (refine wpList_loadg (by rfl) 39 (.tmp 40) (by rfl) _ (by rfl) _ P1.out ?_) | (refine wpList_val2 (by rfl) _ (exec_append (by rfl) (by rfl) (by rfl) AP.out) ?_) | (refine Stm.wpList_st (by rfl) (.tmp 44) (.tmp 42) (by rfl) _ (by rfl) _ (by rfl) S2.out ?_))
      generalize World.setCell W2 _ _ = X at *
      have hXw : w3.heap.size ≤ X.heap.size := I3.out.bel.size
      obtain ⟨g, hg⟩ : ∃ g, g = wr.heap.size := ⟨_, rfl⟩
      rw [← hg] at LB
      rw [← hg]
      clear hg LW AP P1 S2 hwr
      have hbz : Below X.heap.size X (X.alloc (.cells (sc th to_ (.slice A2 to_.p.length c2)).toArray 43)) := (Below.refl _ _).alloc (Nat.le_refl _) _
      have I4 := Lib.hid (show DI w3 v us (X.alloc (.cells (sc th to_ (.slice A2 to_.p.length c2)).toArray 43)) from ⟨below_up I3.out.bel hbz, I3.out.rw_.below hbz⟩)
      have OW4 := Lib.hid (own_but OW.out (But.of_below (S := fun _ => False) hbz) (fun _ e => e.elim))
      have hsz : (sc th to_ (.slice A2 to_.p.length c2)).toArray.size = 69 := by rw [List.size_toArray, sc_len OK.out]
      have HSL := Lib.hid (sc_len OK.out to_ (.slice A2 to_.p.length c2))
      have HON := Lib.hid (fun u (hu : u ∈ sc th to_ (.slice A2 to_.p.length c2)) => Array.all_eq_true_iff_forall_mem.1 (one_sc (h := th) to_ A2 to_.p.length c2) u (by simpa using hu))
      have HI := Lib.hid (And.intro his (And.intro his0 (And.intro his1 his2)))
      have hX4 : w3.heap.size ≤ (X.alloc (.cells (sc th to_ (.slice A2 to_.p.length c2)).toArray 43)).heap.size := Nat.le_trans hXw hbz.size
      clear hbz I3 OW
      subst hul
      go_wp2_with (first | (refine wpList_loadg (by rfl) 43 (.tmp 6) (by rfl) _ (by rfl) _ LB.out ?_) | (refine wpList_buildOne (by rfl) 23 43 69 (.tmp 46) (by rfl) (sc th to_ (.slice A2 to_.p.length c2)).toArray _ _ (by rfl) hsz IStp USs (by decide) (by decide) ?_) | (at_builtin; refine wpList_append_lies _ rfl (.tmp 45) (.tmp 47) 23 rfl w3.heap.size 43 is _ 69 120 USs HI.out.1 HI.out.2.1 HI.out.2.2.1 HI.out.2.2.2 zStp (by decide) _ _ _ rfl I4.out.rw_.row ⟨X.heap.size, 0, none⟩ 1 1 (sc th to_ (.slice A2 to_.p.length c2)) rfl HSL.out (World.news_of_block (heap_new _ _)) HON.out (by decide) (by simp only [maxLen]; omega) (by omega) hX4 _ rfl ?_))
      intro gx capx W10 own gro _ _
      have P10 := Lib.hid (show DI w3 (.slice (some ⟨gx, 0, none⟩) (us.length + 1) capx) (us ++ [⟨th, to_, .slice A2 to_.p.length c2⟩]) W10 from ⟨(show Below w3.heap.size w3 W10 from I4.out.bel.grown gro hX4 (fun i hi => by have := own_ge I4.out.rw_.row hi; omega)), RW.app I4.out.rw_ gro own ⟨OK.out, OW4.out, HO.out.1, HO.out.2⟩⟩)
      clear own gro I4 OW4
      go_wp2_with fail
      go_roundw
      case rel => exact ⟨us.length + 1, _, us ++ [⟨th, to_, .slice A2 to_.p.length c2⟩], by go_num, rfl, by omega, by simp, Lib.hid (by rw [HT.out]; simp [Tr.ho]), Lib.hid (by simpa using P10.out)⟩
      case measure => simp [intOf] <;> omega
    · obtain rfl : i = ts.length := by omega
      have HE := Lib.hid (show us.map Tr.ho = ts.map Tr.ho by rw [HU.out]; exact List.take_of_length_le (by simp))
      have t2 : decide ((ts.length : Int) < (ts.length : Int)) = false := decide_eq_false (by omega)
      go_wp2_with fail
      go_ret2
      exact ⟨_, rfl, HE.out ▸ I.out.rw_.ss (by omega), I.out.bel⟩
end Go.Proofs.Ytcaocnlchfbeaaa.Stm
