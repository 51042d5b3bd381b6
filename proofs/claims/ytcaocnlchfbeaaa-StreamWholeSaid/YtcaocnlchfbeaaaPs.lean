/- The walks of Same of two proofs, and of the document's. -/
import Derived.Test.YtcaocnlchfbeaaaPdR
import Derived.Test.YtcaocnlchfbeaaaTsL
import Derived.Shelf.Abstract
namespace Go.Proofs.Ytcaocnlchfbeaaa.Pf
open Go.RowKit Go.Proofs.Ytcaocnlchfbeaaa.Mk Go.Proofs.Ytcaocnlchfbeaaa.Op Go.Proofs.Ytcaocnlchfbeaaa.Hd Go.Proofs.Ytcaocnlchfbeaaa.St Go.Proofs.Ytcaocnlchfbeaaa.Cur Go.Proofs.Ytcaocnlchfbeaaa.Stp Go.Proofs.Ytcaocnlchfbeaaa.Tk
theorem ret_b {a b : Bool} (h : a = b) : Ending.returned (.bool a) = .returned (.bool b) := by rw [h]
/-- a call of a function of the program's own -/
theorem call_run {P : Program} {o : Oper} {a : Act} {w : World} {f : FuncId} {xs : Array Operand} {ats : Array TypeId} {l : List Value} (ho : o.op = .call { callee := .value (.func f), args := xs, argTypes := ats }) (ha : xs.toList.map a.eval = l) (he : ∀ args w, (callFunc f args).run P w = .ok (.enter f args) w) :
    (execOp a.eval o).run P w = .ok (.enter f l.toArray) w := by
  have ha' : xs.map a.eval = l.toArray := by rw [← ha]; apply Array.ext'; simp
  unfold execOp
  simp [ho, resolve, invoke, ha', Act.eval, he, Deferred.ofValue]
/-- the i-th step of a slice -/
theorem SS.at_ {w : World} {v : Value} {l : List HO} (h : SS w v l) : ∃ A c, v = .slice A l.length c ∧ l.length ≤ 140737488355328 ∧ (∀ k (hk : k < l.length), ∃ b o t, A = some ⟨b, o, none⟩ ∧ t.h.Ok ∧ t.ho = l[k] ∧ SL hc 32 w t.v t.o.p ∧ w.rangeAt b (o + k * 69) (encS t)) := by
  obtain ⟨ts, rfl, ⟨h1, h2, A, c, rfl, h3, h4, h5⟩, hq⟩ := h
  have hml : (ts.map Tr.ho).length = ts.length := List.length_map _
  refine ⟨A, c, by rw [hml], by rw [hml]; exact h2, fun k hk' => ?_⟩
  have hk : k < ts.length := by rw [← hml]; exact hk'
  obtain ⟨b, o, rfl, hx⟩ := h5 (by omega)
  exact ⟨b, o, ts[k], rfl, (hq _ (List.getElem_mem hk)).1, by simp, (hq _ (List.getElem_mem hk)).2, hx k _ (List.getElem?_eq_getElem hk)⟩
theorem UStp : Try.prog.underlying 43 = some (.struct (Try.prog.fieldsOf 43)) := by kernel_rfl
theorem ld_at {w : World} {b o : Nat} {t : Tr} (k : t.h.Ok) (h : w.rangeAt b o (encS t)) : (Instr.loadAt 43 (.pointer (some ⟨b, o, none⟩))).run Try.prog w = .ok (.agg (sc t.h t.o t.v).toArray) w := by
  exact run_loadAt_mid w b o _ _ _ h UStp rfl (by rw [sc_len k]; kernel_rfl)
set_option maxHeartbeats 8000000 in
set_option maxRecDepth 100000 in
theorem rsameL_calls (v1 v2 : Value) (l m : List HO) (w : World) (h1 : SS w v1 l) (h2 : SS w v2 m) :
    Calls Try.prog 33 #[v1, v2] w fun r w' => r = .returned (.bool (sameL l m)) ∧ Below w.heap.size w w' := by
  have H1 := Lib.hid (fun wx (hx : Below w.heap.size w wx) => (h1.below hx).at_)
  have H2 := Lib.hid (fun wx (hx : Below w.heap.size w wx) => (h2.below hx).at_)
  obtain ⟨A, c1, rfl, hb1, _⟩ := h1.at_
  obtain ⟨B, c2, rfl, hb2, _⟩ := h2.at_
  clear h1 h2
  by_cases hlen : l.length = m.length
  · have t0 : ((l.length : Int) != (m.length : Int)) = false := by rw [hlen]; simp
    have HT := Lib.hid (sameL_all hlen)
    have HF := Lib.hid (fun i h1 h2 => @sameL_not l m i h1 h2)
    have HLen := Lib.hid hlen
    clear hlen
    go_enter Try.func33, Try.ntmps33
    go_wp2_with fail
    go_loopw [5] (fun s5 wr => ∃ k : Nat, s5 = .int .i64 (k : Int) ∧ k ≤ l.length ∧ Hid (∀ (i : Nat) (h1 : i < l.length) (h2 : i < m.length), i < k → samePr l[i] m[i] = true) ∧ Hid (Below w.heap.size w wr)) (fun s5 _ => l.length - (intOf s5).toNat)
    case atStart => exact ⟨0, rfl, by omega, Lib.hid (fun i _ _ h => absurd h (by omega)), Lib.hid (Below.refl _ _)⟩
    case round =>
      obtain ⟨k, rfl, hk, HK, hB⟩ := hrel
      by_cases hlt : k < l.length
      · have hlt2 : k < m.length := by rw [← HLen.out]; exact hlt
        obtain ⟨_, _, he, _, hx⟩ := H1.out _ hB.out
        cases he
        obtain ⟨b1, o1, t1, rfl, ok1, e1, s1, r1⟩ := hx k hlt
        obtain ⟨_, _, he, _, hy⟩ := H2.out _ hB.out
        cases he
        obtain ⟨b2, o2, t2, rfl, ok2, e2, s2, r2⟩ := hy k hlt2
        have L1 := Lib.hid (fun wx (hx : Below wr.heap.size wr wx) => ld_at ok1 (range_below r1 hx))
        have L2 := Lib.hid (fun wx (hx : Below wr.heap.size wr wx) => ld_at ok2 (range_below r2 hx))
        have P1 := Lib.hid (fun wx (hx : Below wr.heap.size wr wx) => rssame_calls t1.h t2.h t1.o t2.o _ _ wx ⟨t1.v, rfl, s1.below hx⟩ ⟨t2.v, rfl, s2.below hx⟩ ok1 ok2)
        have HS := Lib.hid (show samePr l[k] m[k] = sameS t1.h t2.h t1.o t2.o by rw [← e1, ← e2]; rfl)
        have i1 : (k : Int) < (l.length : Int) := by omega
        have i2 : (k : Int) < (m.length : Int) := by omega
        clear hx hy e1 e2 s1 s2 r1 r2 H1 H2
        cases hq : sameS t1.h t2.h t1.o t2.o with
        | false =>
          have HQ := Lib.hid (HF.out k hlt hlt2 (HS.out.trans hq))
          rw [hq] at P1
          clear hq HT HF HK HS
          go_wp2_with fail
          refine wp_region_quiet_below (by kernel_rfl) (by kernel_rfl) ?_
          repeat (first | go_big_quiet_skip | ((refine wpQuiet_load rfl 43 _ rfl _ rfl _ (rg_fact L1.out) ?_); simp only [Act.put, List.setIfInBounds_toArray, List.set_cons_zero, List.set_cons_succ]) | ((refine wpQuiet_load rfl 43 _ rfl _ rfl _ (rg_fact L2.out) ?_); simp only [Act.put, List.setIfInBounds_toArray, List.set_cons_zero, List.set_cons_succ]) | ((refine wpQuiet_call (by rfl) 21 _ (fun wx => call_run (by rfl) (by rfl) (enters_of Try.func21 (by kernel_rfl) rfl)) _ (rg_of P1.out) ?_); simp only [Act.put, List.setIfInBounds_toArray, List.set_cons_zero, List.set_cons_succ]) | go_big_quiet_step (fail) | quiet_step (fail))
          refine wpQuiet_nil ?_
          rintro _ ⟨rp, rfl⟩
          have hb5 := below_regrown wr rp.d rp.os
          generalize Sort.grow (redrawn wr rp.d) rp.os = w5 at *
          have S2 := Lib.hid (below_up hB.out hb5)
          clear hb5 hB
          go_wp2_with fail
          go_ret
          exact ⟨ret_b HQ.out.symm, S2.out⟩
        | true =>
          have HQ := Lib.hid (show ∀ (i : Nat) (h1 : i < l.length) (h2 : i < m.length), i < k + 1 → samePr l[i] m[i] = true from fun i h1 h2 h3 => by
            rcases Nat.lt_or_ge i k with h | h
            · exact HK.out i h1 h2 h
            · obtain rfl : i = k := by omega
              exact HS.out.trans hq)
          rw [hq] at P1
          clear hq HF HK HS
          go_wp2_with fail
          refine wp_region_quiet_below (by kernel_rfl) (by kernel_rfl) ?_
          repeat (first | go_big_quiet_skip | ((refine wpQuiet_load rfl 43 _ rfl _ rfl _ (rg_fact L1.out) ?_); simp only [Act.put, List.setIfInBounds_toArray, List.set_cons_zero, List.set_cons_succ]) | ((refine wpQuiet_load rfl 43 _ rfl _ rfl _ (rg_fact L2.out) ?_); simp only [Act.put, List.setIfInBounds_toArray, List.set_cons_zero, List.set_cons_succ]) | ((refine wpQuiet_call (by rfl) 21 _ (fun wx => call_run (by rfl) (by rfl) (enters_of Try.func21 (by kernel_rfl) rfl)) _ (rg_of P1.out) ?_); simp only [Act.put, List.setIfInBounds_toArray, List.set_cons_zero, List.set_cons_succ]) | go_big_quiet_step (fail) | quiet_step (fail))
          refine wpQuiet_nil ?_
          rintro _ ⟨rp, rfl⟩
          have hb5 := below_regrown wr rp.d rp.os
          generalize Sort.grow (redrawn wr rp.d) rp.os = w5 at *
          have S2 := Lib.hid (below_up hB.out hb5)
          clear hb5 hB
          go_wp2_with fail
          go_roundw
          case rel => exact ⟨k + 1, by go_num, by omega, HQ, S2⟩
          case measure => simp [intOf] <;> omega
      · have HQ := Lib.hid (HT.out (fun i h1 h2 => HK.out i h1 h2 (by omega)))
        clear HT HF HK H1 H2
        have t2 : decide ((k : Int) < (l.length : Int)) = false := decide_eq_false (by omega)
        go_wp2_with fail
        go_ret
        exact ⟨ret_b HQ.out.symm, hB.out⟩
  · have t0 : ((l.length : Int) != (m.length : Int)) = true := by rw [bne_iff_ne]; omega
    have HE := Lib.hid (sameL_len hlen)
    clear hlen H1 H2
    go_enter Try.func33, Try.ntmps33
    go_wp2_with fail
    go_ret
    exact ⟨ret_b HE.out.symm, Below.refl _ _⟩
theorem one_tr {w : World} {t : Tr} (s : SL hc 32 w t.v t.o.p) : (sc t.h t.o t.v).toArray.all (·.oneCell') = true := by
  obtain ⟨_, _, A, c, e, _⟩ := s
  rw [e]
  exact one_sc _ _ _ _
set_option maxHeartbeats 8000000 in
set_option maxRecDepth 100000 in
theorem sameL_calls (v1 v2 : Value) (l m : List HO) (w : World) (h1 : SS w v1 l) (h2 : SS w v2 m) :
    Calls Try.prog 45 #[v1, v2] w fun r w' => r = .returned (.bool (sameL l m)) ∧ Below w.heap.size w w' := by
  have H1 := Lib.hid (fun wx (hx : Below w.heap.size w wx) => (h1.below hx).at_)
  have H2 := Lib.hid (fun wx (hx : Below w.heap.size w wx) => (h2.below hx).at_)
  obtain ⟨A, c1, rfl, hb1, _⟩ := h1.at_
  obtain ⟨B, c2, rfl, hb2, _⟩ := h2.at_
  clear h1 h2
  by_cases hlen : l.length = m.length
  · have t0 : ((l.length : Int) != (m.length : Int)) = false := by rw [hlen]; simp
    have HT := Lib.hid (sameL_all hlen)
    have HF := Lib.hid (fun i h1 h2 => @sameL_not l m i h1 h2)
    have HLen := Lib.hid hlen
    clear hlen
    go_enter Try.func45, Try.ntmps45
    go_wp2_with fail
    go_loopw [14] (fun s14 wr => ∃ k : Nat, s14 = .int .i64 (k : Int) ∧ k ≤ l.length ∧ Hid (∀ (i : Nat) (h1 : i < l.length) (h2 : i < m.length), i < k → samePr l[i] m[i] = true) ∧ Hid (Below w.heap.size w wr)) (fun s14 _ => l.length - (intOf s14).toNat)
    case atStart => exact ⟨0, rfl, by omega, Lib.hid (fun i _ _ h => absurd h (by omega)), Lib.hid (Below.refl _ _)⟩
    case round =>
      obtain ⟨k, rfl, hk, HK, hB⟩ := hrel
      by_cases hlt : k < l.length
      · have hlt2 : k < m.length := by rw [← HLen.out]; exact hlt
        obtain ⟨_, _, he, _, hx⟩ := H1.out _ hB.out
        cases he
        obtain ⟨b1, o1, t1, rfl, ok1, e1, s1, r1⟩ := hx k hlt
        obtain ⟨_, _, he, _, hy⟩ := H2.out _ hB.out
        cases he
        obtain ⟨b2, o2, t2, rfl, ok2, e2, s2, r2⟩ := hy k hlt2
        have hba : Below wr.heap.size wr (wr.alloc (sB t1.h t1.o t1.v)) := (Below.refl _ _).alloc (Nat.le_refl _) _
        have LW := Lib.hid (ld_at ok1 r1)
        have L1 := Lib.hid (fun wx (hx : Below (wr.alloc (sB t1.h t1.o t1.v)).heap.size (wr.alloc (sB t1.h t1.o t1.v)) wx) => ldSt ok1 ((hx.block _ (by simp)).trans (heap_new wr (sB t1.h t1.o t1.v))))
        have L2 := Lib.hid (fun wx (hx : Below (wr.alloc (sB t1.h t1.o t1.v)).heap.size (wr.alloc (sB t1.h t1.o t1.v)) wx) => ld_at ok2 (range_below r2 (below_up hba hx)))
        have P1 := Lib.hid (fun wx (hx : Below (wr.alloc (sB t1.h t1.o t1.v)).heap.size (wr.alloc (sB t1.h t1.o t1.v)) wx) => ssame_calls t1.h t2.h t1.o t2.o _ _ wx ⟨t1.v, rfl, s1.below (below_up hba hx)⟩ ⟨t2.v, rfl, s2.below (below_up hba hx)⟩ ok1 ok2)
        have HS := Lib.hid (show samePr l[k] m[k] = sameS t1.h t2.h t1.o t2.o by rw [← e1, ← e2]; rfl)
        have IS1 := Lib.hid (ISt ok1 t1.o t1.v)
        have RS1 := Lib.hid (rsz hd0_ok ok1 op0 t1.o (.slice none 0 0) t1.v)
        have OS1 := Lib.hid (one_tr s1)
        have B1 := Lib.hid (below_up hB.out hba)
        have i1 : (k : Int) < (l.length : Int) := by omega
        have i2 : (k : Int) < (m.length : Int) := by omega
        clear hx hy e1 e2 s1 s2 r1 r2 H1 H2 hba
        cases hq : sameS t1.h t2.h t1.o t2.o with
        | false =>
          have HQ := Lib.hid (HF.out k hlt hlt2 (HS.out.trans hq))
          rw [hq] at P1
          clear hq HT HF HK HS
          go_wp2_with (first | (refine wpList_loadg (by rfl) 43 (.tmp 17) (by rfl) _ (by rfl) _ LW.out ?_) | (refine wpList_store_last rfl 43 _ _ rfl _ (sc t1.h t1.o t1.v).toArray rfl rfl IS1.out RS1.out OS1.out ?_))
          change Code.wp _ _ _ _ (wr.alloc (sB t1.h t1.o t1.v))
          generalize World.alloc wr _ = W at *
          refine wp_region_quiet_below (by kernel_rfl) (by kernel_rfl) ?_
          repeat (first | go_big_quiet_skip | ((refine wpQuiet_load rfl 43 _ rfl _ rfl _ (rg_fact L1.out) ?_); simp only [Act.put, List.setIfInBounds_toArray, List.set_cons_zero, List.set_cons_succ]) | ((refine wpQuiet_load rfl 43 _ rfl _ rfl _ (rg_fact L2.out) ?_); simp only [Act.put, List.setIfInBounds_toArray, List.set_cons_zero, List.set_cons_succ]) | ((refine wpQuiet_call (by rfl) 29 _ (fun wx => call_run (by rfl) (by rfl) (enters_of Try.func29 (by kernel_rfl) rfl)) _ (rg_of P1.out) ?_); simp only [Act.put, List.setIfInBounds_toArray, List.set_cons_zero, List.set_cons_succ]) | go_big_quiet_step (fail) | quiet_step (fail))
          refine wpQuiet_nil ?_
          rintro _ ⟨rp, rfl⟩
          have hb5 := below_regrown W rp.d rp.os
          generalize Sort.grow (redrawn W rp.d) rp.os = w5 at *
          have S2 := Lib.hid (below_up B1.out hb5)
          clear hb5 hB
          go_wp2_with fail
          go_ret
          exact ⟨ret_b HQ.out.symm, S2.out⟩
        | true =>
          have HQ := Lib.hid (show ∀ (i : Nat) (h1 : i < l.length) (h2 : i < m.length), i < k + 1 → samePr l[i] m[i] = true from fun i h1 h2 h3 => by
            rcases Nat.lt_or_ge i k with h | h
            · exact HK.out i h1 h2 h
            · obtain rfl : i = k := by omega
              exact HS.out.trans hq)
          rw [hq] at P1
          clear hq HF HK HS
          go_wp2_with (first | (refine wpList_loadg (by rfl) 43 (.tmp 17) (by rfl) _ (by rfl) _ LW.out ?_) | (refine wpList_store_last rfl 43 _ _ rfl _ (sc t1.h t1.o t1.v).toArray rfl rfl IS1.out RS1.out OS1.out ?_))
          change Code.wp _ _ _ _ (wr.alloc (sB t1.h t1.o t1.v))
          generalize World.alloc wr _ = W at *
          refine wp_region_quiet_below (by kernel_rfl) (by kernel_rfl) ?_
          repeat (first | go_big_quiet_skip | ((refine wpQuiet_load rfl 43 _ rfl _ rfl _ (rg_fact L1.out) ?_); simp only [Act.put, List.setIfInBounds_toArray, List.set_cons_zero, List.set_cons_succ]) | ((refine wpQuiet_load rfl 43 _ rfl _ rfl _ (rg_fact L2.out) ?_); simp only [Act.put, List.setIfInBounds_toArray, List.set_cons_zero, List.set_cons_succ]) | ((refine wpQuiet_call (by rfl) 29 _ (fun wx => call_run (by rfl) (by rfl) (enters_of Try.func29 (by kernel_rfl) rfl)) _ (rg_of P1.out) ?_); simp only [Act.put, List.setIfInBounds_toArray, List.set_cons_zero, List.set_cons_succ]) | go_big_quiet_step (fail) | quiet_step (fail))
          refine wpQuiet_nil ?_
          rintro _ ⟨rp, rfl⟩
          have hb5 := below_regrown W rp.d rp.os
          generalize Sort.grow (redrawn W rp.d) rp.os = w5 at *
          have S2 := Lib.hid (below_up B1.out hb5)
          clear hb5 hB
          go_wp2_with fail
          go_roundw
          case rel => exact ⟨k + 1, by go_num, by omega, HQ, S2⟩
          case measure => simp [intOf] <;> omega
      · have HQ := Lib.hid (HT.out (fun i h1 h2 => HK.out i h1 h2 (by omega)))
        clear HT HF HK H1 H2
        have t2 : decide ((k : Int) < (l.length : Int)) = false := decide_eq_false (by omega)
        go_wp2_with fail
        go_ret
        exact ⟨ret_b HQ.out.symm, hB.out⟩
  · have t0 : ((l.length : Int) != (m.length : Int)) = true := by rw [bne_iff_ne]; omega
    have HE := Lib.hid (sameL_len hlen)
    clear hlen H1 H2
    go_enter Try.func45, Try.ntmps45
    go_wp2_with fail
    go_ret
    exact ⟨ret_b HE.out.symm, Below.refl _ _⟩
end Go.Proofs.Ytcaocnlchfbeaaa.Pf
