/- The walk of the document's Get: a header off its cursor (a value). -/
import Derived.Test.YtgdlhcopgfgmaaaHdG
namespace Go.Proofs.Ytgdlhcopgfgmaaa.Hd
open Go.RowKit Go.Proofs.Ytgdlhcopgfgmaaa.Mk Go.Proofs.Ytgdlhcopgfgmaaa.Wd Go.Proofs.Ytgdlhcopgfgmaaa.Cur
open Extern.Stop (cell)
theorem step_value {P : Program} {ops : Array Oper} {o : Oper} {a : Act} {w : World} {K : Act → World → Prop} {Q : Exit → Act → World → Prop} {E : Prop} (hg : o.guard = none) (v : Value) (hr : (execOp a.eval o).run P w = .ok (.value v) w) (hK : K (a.put o.dst v) w) :
    if Region.wanted o (yielded ops a.tmps) = true then Oper.wp P o a w K Q else E := by
  rw [if_pos (by simp [Region.wanted, hg])]
  unfold Oper.wp
  rw [hr]
  exact hK
theorem row_set (a n : Nat) (l t : List UInt8) (k : Nat) (hl : l.length = 32) (ht : t.length = 32) (hk : k < 32) :
    ((Hd.c ⟨a, Cur.part l k, Cur.part t k, n⟩).set (1 + k) (.int .u8 ((l[k]'(by omega)).toNat : Int))).set (33 + k) (.int .u8 ((t[k]'(by omega)).toNat : Int)) = Hd.c ⟨a, Cur.part l (k + 1), Cur.part t (k + 1), n⟩ := by
  have p1 : (hc (Cur.part l k)).length = 32 := by rw [hc_len, Cur.part_len l k (by omega) (by omega)]
  have p2 : (hc (Cur.part t k)).length = 32 := by rw [hc_len, Cur.part_len t k (by omega) (by omega)]
  have p3 : (hc (Cur.part l (k + 1))).length = 32 := by rw [hc_len, Cur.part_len l (k + 1) (by omega) (by omega)]
  unfold Hd.c
  simp only
  rw [Nat.add_comm 1 k, List.set_cons_succ, show 33 + k = (32 + k) + 1 by omega, List.set_cons_succ, List.set_append_left _ _ (by rw [p1]; exact hk), Cur.part_set l k (by omega) (by omega), List.set_append_right _ _ (by omega), p3, show 32 + k - 32 = k by omega, List.set_append_left _ _ (by rw [p2]; exact hk), Cur.part_set t k (by omega) (by omega)]
theorem loadAt_Hd {w : World} {g : Nat} {h : Hd} {t : TypeId} (k : HB g h t w) (o : h.Ok) : (Instr.loadAt 27 (.pointer (some ⟨g, 0, none⟩))).run Try.prog w = .ok h.v w := by
  simp only [Instr.loadAt, Instr.sureAddr, Sem.run_bind, Sem.run_pure, Result.andThen_ok, load_Hd k o]
theorem build_Hd {o : Oper} {a : Act} {w : World} (ho : o.op = .build 27 #[]) : (execOp a.eval o).run Try.prog w = .ok (.value hd0.v) w := by
  unfold execOp
  simp only [ho]
  kernel_rfl
/-- what lies where in the loop -/
def RQ (gh gc : Nat) (x : Hd) (d : C) (w wr : World) : Prop := HB gh x 27 wr ∧ HB (w.heap.size + 1) hd0 27 wr ∧ wr.heap[w.heap.size + 2]? = some (.cells zC 35 (0, 0)) ∧
  wr.heap[gc]? = some (.cells #[.string (ba d.b), .int .i64 d.e] 35 (0, 0)) ∧ Below w.heap.size w wr
set_option maxHeartbeats 8000000 in
set_option maxRecDepth 100000 in
theorem rget_calls (c : C) (w : World) (hl : c.b.length ≤ 9223372036854775807) :
    Calls Try.prog 17 #[cV c] w fun r w' => r = .returned (.tuple #[(getC c).1.v, cV (getC c).2]) ∧ Below w.heap.size w w' := by
  have HR := Lib.hid (fun w => rraw_calls c 76 w hl (by omega))
  have h76 := raw76 c
  have hgc : getC c = (if (rawC c 76).1 = [] then hd0 else Hd.of (rawC c 76).1, (rawC c 76).2) := rfl
  generalize rawC c 76 = x at *
  obtain ⟨s, d⟩ := x
  simp only at h76 hgc
  have Hgc := Lib.hid hgc
  clear hgc
  unfold cV cC at *
  go_enter Try.func17, Try.ntmps17
  go_wp2_with fail
  generalize hW : World.alloc (World.alloc (World.alloc w _) _) _ = W0
  have z1 : HB (w.heap.size + 1) hd0 27 W0 := by
    rw [← hW]
    exact (Below.heap_alloc _ _ _ (by simp)).trans (heap_new2 _ _ _)
  have z2 : W0.heap[w.heap.size + 2]? = some (.cells zC 35 (0, 0)) := by
    rw [← hW]
    have h3 := heap_new ((w.alloc (.cells #[.string (ba c.b), .int .i64 c.e] 35)).alloc (.cells hd0.c.toArray 27)) (.cells zC 35)
    rw [World.size_alloc, World.size_alloc] at h3
    exact h3
  have hB0 : Below w.heap.size w W0 := by
    rw [← hW]
    exact (below2 _ _ _).alloc (by simp <;> omega) _
  have hsz : W0.heap.size = w.heap.size + 3 := by rw [← hW]; simp
  clear hW
  refine (HR.out _).mono ?_
  rintro r w1 ⟨rfl, hb1⟩
  have hs1 : W0.heap.size ≤ w1.heap.size := hb1.size
  have Y1 := z1.keep hb1
  have Y2 := (hb1.block _ (by omega)).trans z2
  have HB1 := Lib.hid (hB0.trans (hb1.mono (by omega)))
  have S1 := Lib.hid (And.intro Y1 (And.intro Y2 (show w.heap.size + 3 ≤ w1.heap.size by omega)))
  clear z1 z2 hB0 hb1 Y1 Y2 hsz hs1
  rcases h76 with hs | hs
  · subst hs
    rw [ba_nil]
    go_wp2_with fail
    obtain ⟨Y1, Y2, hs1⟩ := S1.out
    have N1 : HB (w.heap.size + 1) hd0 27 (w1.alloc (.cells #[.string (ba d.b), .int .i64 d.e] 35)).drew := (Below.heap_alloc _ _ _ (by omega)).trans Y1
    have N2 : (w1.alloc (.cells #[.string (ba d.b), .int .i64 d.e] 35)).drew.heap[w.heap.size + 2]? = some (.cells zC 35 (0, 0)) := (Below.heap_alloc _ _ _ (by omega)).trans Y2
    have N3 : (w1.alloc (.cells #[.string (ba d.b), .int .i64 d.e] 35)).drew.heap[w1.heap.size]? = some (.cells #[.string (ba d.b), .int .i64 d.e] 35 (0, 0)) := heap_new _ _
    have NB : Below w.heap.size w (w1.alloc (.cells #[.string (ba d.b), .int .i64 d.e] 35)).drew := (HB1.out.alloc (by omega) _).drew
    generalize hV : (w1.alloc (.cells #[.string (ba d.b), .int .i64 d.e] 35)).drew = V at *
    have LC := Lib.hid (loadAt_C N3)
    have SA := Lib.hid (run_storeAt_row (P := Try.prog) (ty := 27) (cells := hd0.c.toArray) N1 (IHd hd0_ok) rfl (Hd.c_one _))
    have N3' : (V.setRow (w.heap.size + 1) hd0.c.toArray).heap[w1.heap.size]? = some (.cells #[.string (ba d.b), .int .i64 d.e] 35 (0, 0)) := (setRow_other _ _ _ _ (by omega)).trans N3
    have LC2 := Lib.hid (loadAt_C N3')
    have N2' : (V.setRow (w.heap.size + 1) hd0.c.toArray).heap[w.heap.size + 2]? = some (.cells zC 35 (0, 0)) := (setRow_other _ _ _ _ (by omega)).trans N2
    have SC := Lib.hid (run_storeAt_row (P := Try.prog) (ty := 35) (cells := #[.string (ba d.b), .int .i64 d.e]) N2' (IC' _ _) rfl (oneC _ _))
    have N1' : HB (w.heap.size + 1) hd0 27 ((V.setRow (w.heap.size + 1) hd0.c.toArray).setRow (w.heap.size + 2) #[.string (ba d.b), .int .i64 d.e]) := (setRow_other _ _ _ _ (by omega)).trans (setRow_heap _ _ _ _ _ _ N1)
    have RA := Lib.hid (load_Hd N1' hd0_ok)
    have RC := Lib.hid (load_C (setRow_heap (V.setRow (w.heap.size + 1) hd0.c.toArray) (w.heap.size + 2) zC #[.string (ba d.b), .int .i64 d.e] _ _ N2'))
    have RB := Lib.hid (setRow_below (g := w.heap.size + 2) (cs := #[.string (ba d.b), .int .i64 d.e]) (setRow_below (g := w.heap.size + 1) (cs := hd0.c.toArray) NB (by omega)) (by omega))
    clear N1 N2 N3 N1' N2' N3' NB Y1 Y2
    refine wp_region_any (by kernel_rfl) ?_
    change wpAny _ _ _ _ _ _ _ (World.drew _)
    rw [hV]
    refine wpAny_ready (rs := [0, 1]) (by kernel_rfl) (by simp) ?_
    refine AllReady.cons rfl (fun K hK => ?_) (AllReady.cons rfl (fun K hK => ?_) AllReady.nil)
    · refine step_value rfl hd0.v (build_Hd rfl) ?_
      refine hK _ _ ?_
      clear hK K
      refine wpAny_ready (rs := [1, 2]) (by kernel_rfl) (by simp) ?_
      refine AllReady.cons rfl (fun K hK => ?_) (AllReady.cons rfl (fun K hK => ?_) AllReady.nil)
      · refine step_load rfl _ _ rfl _ rfl _ LC.out ?_
        refine hK _ _ ?_
        clear hK K
        refine wpAny_ready (rs := [2]) (by kernel_rfl) (by simp) ?_
        refine AllReady.cons rfl (fun K hK => ?_) AllReady.nil
        refine step_store rfl _ _ _ rfl _ rfl hd0.v (by rfl) _ SA.out ?_
        refine hK _ _ ?_
        clear hK K
        refine wpAny_ready (rs := [3]) (by kernel_rfl) (by simp) ?_
        refine AllReady.cons rfl (fun K hK => ?_) AllReady.nil
        refine step_store rfl _ _ _ rfl _ rfl _ rfl _ SC.out ?_
        refine hK _ _ ?_
        clear hK K
        refine wpAny_done (by kernel_rfl) ?_ _
        (go_wp2_with fail; exact bodyPost_ret (results_cell_cell 2 3 27 35 ⟨w.heap.size + 1, 0, none⟩ ⟨w.heap.size + 2, 0, none⟩ _ _ rfl rfl rfl RA.out RC.out) rfl ⟨by rw [Hgc.out]; simp only [if_true], RB.out⟩)
      · refine step_store rfl _ _ _ rfl _ rfl hd0.v (by rfl) _ SA.out ?_
        refine hK _ _ ?_
        clear hK K
        refine wpAny_ready (rs := [1]) (by kernel_rfl) (by simp) ?_
        refine AllReady.cons rfl (fun K hK => ?_) AllReady.nil
        refine step_load rfl _ _ rfl _ rfl _ LC2.out ?_
        refine hK _ _ ?_
        clear hK K
        refine wpAny_ready (rs := [3]) (by kernel_rfl) (by simp) ?_
        refine AllReady.cons rfl (fun K hK => ?_) AllReady.nil
        refine step_store rfl _ _ _ rfl _ rfl _ rfl _ SC.out ?_
        refine hK _ _ ?_
        clear hK K
        refine wpAny_done (by kernel_rfl) ?_ _
        (go_wp2_with fail; exact bodyPost_ret (results_cell_cell 2 3 27 35 ⟨w.heap.size + 1, 0, none⟩ ⟨w.heap.size + 2, 0, none⟩ _ _ rfl rfl rfl RA.out RC.out) rfl ⟨by rw [Hgc.out]; simp only [if_true], RB.out⟩)
    · refine step_load rfl _ _ rfl _ rfl _ LC.out ?_
      refine hK _ _ ?_
      clear hK K
      refine wpAny_ready (rs := [0]) (by kernel_rfl) (by simp) ?_
      refine AllReady.cons rfl (fun K hK => ?_) AllReady.nil
      refine step_value rfl hd0.v (build_Hd rfl) ?_
      refine hK _ _ ?_
      clear hK K
      refine wpAny_ready (rs := [2]) (by kernel_rfl) (by simp) ?_
      refine AllReady.cons rfl (fun K hK => ?_) AllReady.nil
      refine step_store rfl _ _ _ rfl _ rfl hd0.v (by rfl) _ SA.out ?_
      refine hK _ _ ?_
      clear hK K
      refine wpAny_ready (rs := [3]) (by kernel_rfl) (by simp) ?_
      refine AllReady.cons rfl (fun K hK => ?_) AllReady.nil
      refine step_store rfl _ _ _ rfl _ rfl _ rfl _ SC.out ?_
      refine hK _ _ ?_
      clear hK K
      refine wpAny_done (by kernel_rfl) ?_ _
      (go_wp2_with fail; exact bodyPost_ret (results_cell_cell 2 3 27 35 ⟨w.heap.size + 1, 0, none⟩ ⟨w.heap.size + 2, 0, none⟩ _ _ rfl rfl rfl RA.out RC.out) rfl ⟨by rw [Hgc.out]; simp only [if_true], RB.out⟩)
  · obtain ⟨S, hS⟩ : ∃ S, S = ba s := ⟨_, rfl⟩
    obtain ⟨ln, hln⟩ : ∃ l, l = (s.drop 4).take 32 := ⟨_, rfl⟩
    obtain ⟨tx, htx⟩ : ∃ l, l = (s.drop 36).take 32 := ⟨_, rfl⟩
    have hz : S.size = 76 := by rw [hS, ba_size, hs]
    have ht : S.toList.isEmpty = false := by
      rw [hS, bs_toList, bs_ba]
      cases s
      · simp at hs
      · rfl
    have HT0 := Lib.hid (show ∀ w, Calls Try.prog 55 #[.string S, .int .i64 0, .int .i64 4] w fun e w' => e = .returned (.int .u64 (beN ((s.drop 0).take 4))) ∧ w' = w from fun w => by rw [hS]; exact rtake_calls (ba s) 0 4 w (by rw [← hS]; omega) (by rw [← hS]; omega) (by omega))
    have HT1 := Lib.hid (show ∀ w, Calls Try.prog 55 #[.string S, .int .i64 68, .int .i64 8] w fun e w' => e = .returned (.int .u64 (beN ((s.drop 68).take 8))) ∧ w' = w from fun w => by rw [hS]; exact rtake_calls (ba s) 68 8 w (by rw [← hS]; omega) (by rw [← hS]; omega) (by omega))
    have hgo : Hid ((getC c).1 = Hd.of s ∧ (getC c).2 = d) := Lib.hid (by rw [Hgc.out, if_neg (by intro e; rw [e] at hs; simp at hs)]; exact ⟨rfl, rfl⟩)
    have hof : Hd.of s = ⟨beN ((s.drop 0).take 4), (s.drop 4).take 32, (s.drop 36).take 32, beN ((s.drop 68).take 8)⟩ := rfl
    have hok := Hd.of_ok s hs
    rw [← hln, ← htx] at hof
    rw [hof] at hok
    have l1 : ln.length = 32 := hok.2.1
    have l2 : tx.length = 32 := hok.2.2.1
    have x1 : ∀ k (h : k < 32), ln[k]'(by omega) = S[4 + k]'(by omega) := by
      intro k h
      subst hS hln
      rw [List.getElem_take, List.getElem_drop]
      rfl
    have x2 : ∀ k (h : k < 32), tx[k]'(by omega) = S[36 + k]'(by omega) := by
      intro k h
      subst hS htx
      rw [List.getElem_take, List.getElem_drop]
      rfl
    have hh : (beN ((s.drop 0).take 4) : Int) < 4294967296 := by have := hok.1; simp only at this; omega
    have Hof := Lib.hid hof
    rw [← hS]
    generalize beN ((s.drop 0).take 4) = a at *
    generalize beN ((s.drop 68).take 8) = n at *
    have hok1 : Hd.Ok ⟨a, zH, zH, n⟩ := ⟨hok.1, zH_len, zH_len, hok.2.2.2⟩
    have Hok := Lib.hid (And.intro hok hok1)
    have Hl := Lib.hid (And.intro l1 l2)
    have HX1 := Lib.hid x1
    have HX2 := Lib.hid x2
    clear hS hln htx
    clear hof hok hok1 x1 x2 hs
    go_wp2_with fail
    refine (HT0.out _).mono ?_
    rintro r w2 ⟨rfl, rfl⟩
    go_wp2_with fail
    refine (HT1.out _).mono ?_
    rintro r w2 ⟨rfl, rfl⟩
    go_wp2_with (first | (refine wpList_store_row rfl 27 _ _ rfl (w1.heap.size + 1) (Hd.c ⟨a, zH, zH, n⟩).toArray rfl rfl _ _ (heap_new2 _ _ _) (IHd Hok.out.2) (zero_size Hok.out.2) (Hd.c_one _) ?_))
    obtain ⟨Y1, Y2, hs1⟩ := S1.out
    generalize hV : World.setRow (World.alloc (World.alloc w1 _) _) _ _ = V
    have hcz : Hd.c ⟨a, zH, zH, n⟩ = Hd.c ⟨a, Cur.part ln 0, Cur.part tx 0, n⟩ := rfl
    have n0 : RQ (w1.heap.size + 1) w1.heap.size ⟨a, Cur.part ln 0, Cur.part tx 0, n⟩ d w V := by
      rw [← hV]
      refine ⟨by unfold HB; rw [← hcz]; exact setRow_heap _ _ _ (Hd.c ⟨a, zH, zH, n⟩).toArray _ _ (heap_new2 w1 (.cells #[.string (ba d.b), .int .i64 d.e] 35) (.cells Try.zeroCells27 27)), (setRow_other _ _ _ _ (by omega)).trans ((Below.heap_alloc _ _ _ (by simp <;> omega)).trans ((Below.heap_alloc _ _ _ (by omega)).trans Y1)), (setRow_other _ _ _ _ (by omega)).trans ((Below.heap_alloc _ _ _ (by simp <;> omega)).trans ((Below.heap_alloc _ _ _ (by omega)).trans Y2)),
        (setRow_other _ _ _ _ (by omega)).trans (heap_new1 _ _ _), setRow_below ((HB1.out.alloc (by omega) _).alloc (by simp <;> omega) _) (by omega)⟩
    have N0 := Lib.hid n0
    have Hs1 := Lib.hid hs1
    clear hV hcz Y1 Y2 S1 HB1 hs1 n0
    go_wp2_with fail
    go_loopw [7] (fun s7 wr => ∃ k : Nat, k ≤ 32 ∧ s7 = .int .i64 k ∧ Hid (RQ (w1.heap.size + 1) w1.heap.size ⟨a, Cur.part ln k, Cur.part tx k, n⟩ d w wr)) (fun s7 _ => 32 - (intOf s7).toNat)
    case atStart => exact ⟨0, by omega, rfl, N0⟩
    case round =>
      obtain ⟨k, hk, rfl, hq⟩ := hrel
      obtain ⟨h1, h2, h3, h4, h5⟩ := hq.out
      by_cases hkl : k < 32
      · have hokk : Hd.Ok ⟨a, Cur.part ln k, Cur.part tx k, n⟩ := ⟨Hok.out.1.1, Cur.part_len ln k (by omega) (by omega), Cur.part_len tx k (by omega) (by omega), Hok.out.1.2.2.2⟩
        have hcl := Hd.c_len _ hokk
        have g1 : 4 + k < S.size := by omega
        have g2 : 36 + k < S.size := by omega
        have hset := row_set a n ln tx k l1 l2 hkl
        rw [HX1.out k hkl, HX2.out k hkl] at hset
        obtain ⟨z1, hz1⟩ : ∃ z, (Hd.c ⟨a, Cur.part ln k, Cur.part tx k, n⟩)[1 + k]? = some z := ⟨_, List.getElem?_eq_getElem (by omega)⟩
        obtain ⟨z2, hz2⟩ : ∃ z, (Hd.c ⟨a, Cur.part ln k, Cur.part tx k, n⟩)[33 + k]? = some z := ⟨_, List.getElem?_eq_getElem (by omega)⟩
        have c1 : wr.cell? ⟨w1.heap.size + 1, 1 + k, none⟩ = some z1 := by rw [cell_of_row _ _ _ _ _ _ h1, List.getElem?_toArray]; exact hz1
        have c2 : wr.cell? ⟨w1.heap.size + 1, 33 + k, none⟩ = some z2 := by rw [cell_of_row _ _ _ _ _ _ h1, List.getElem?_toArray]; exact hz2
        have f1 : wr.frozen? ⟨w1.heap.size + 1, 1 + k, none⟩ = false := by simp [World.frozen?, show wr.heap[w1.heap.size + 1]? = _ from h1]
        have f2 : wr.frozen? ⟨w1.heap.size + 1, 33 + k, none⟩ = false := by simp [World.frozen?, show wr.heap[w1.heap.size + 1]? = _ from h1]
        have ks : ∀ (j : Nat) u v, j ≠ w1.heap.size + 1 → ((wr.setCell ⟨w1.heap.size + 1, 1 + k, none⟩ u).setCell ⟨w1.heap.size + 1, 33 + k, none⟩ v).heap[j]? = wr.heap[j]? := fun j u v hj => (Below.heap_setCell _ _ _ _ hj).trans (Below.heap_setCell _ _ _ _ hj)
        have hs1 := Hs1.out
        have hnew' : RQ (w1.heap.size + 1) w1.heap.size ⟨a, Cur.part ln (k + 1), Cur.part tx (k + 1), n⟩ d w ((wr.setCell ⟨w1.heap.size + 1, 1 + k, none⟩ (.int .u8 ((S[4 + k]'g1).toNat : Int))).setCell ⟨w1.heap.size + 1, 33 + k, none⟩ (.int .u8 ((S[36 + k]'g2).toNat : Int))) :=
          ⟨by
            unfold HB
            rw [← hset]
            have h1' : wr.heap[w1.heap.size + 1]? = _ := h1
            simp [World.setCell, Array.getElem?_modify, h1'], (ks _ _ _ (by omega)).trans h2, (ks _ _ _ (by omega)).trans h3, (ks _ _ _ (by omega)).trans h4, (h5.setCell (p := ⟨w1.heap.size + 1, 1 + k, none⟩) (by simp <;> omega) _).setCell (p := ⟨w1.heap.size + 1, 33 + k, none⟩) (by simp <;> omega) _⟩
        have hnew := Lib.hid hnew'
        clear HX1 HX2 hset hz
        clear hnew' h1 h2 h3 h4 h5 hz1 hz2 hcl hokk hq ks hs1
        have i1 : ¬ (k : Int) < 0 := by omega
        clear l1 l2 hh ht
        go_wp2_with fail
        go_roundw
        case rel => exact ⟨k + 1, by omega, by go_num, hnew⟩
        case measure => simp [intOf] <;> omega
      · obtain rfl : k = 32 := by omega
        have e1 : Cur.part ln 32 = ln := by unfold Cur.part; rw [List.take_of_length_le (by omega)]; simp
        have e2 : Cur.part tx 32 = tx := by unfold Cur.part; rw [List.take_of_length_le (by omega)]; simp
        rw [e1, e2] at h1
        have hs1 := Hs1.out
        clear e1 e2 hq N0 HX1 HX2 hz ht hh l1 l2
        have hok := Hok.out.1
        obtain ⟨V2, hV2⟩ : ∃ V, V = wr.drew := ⟨_, rfl⟩
        have N1 : HB (w.heap.size + 1) hd0 27 V2 := by rw [hV2]; exact h2
        have N2 : V2.heap[w.heap.size + 2]? = some (.cells zC 35 (0, 0)) := by rw [hV2]; exact h3
        have N3 : V2.heap[w1.heap.size]? = some (.cells #[.string (ba d.b), .int .i64 d.e] 35 (0, 0)) := by rw [hV2]; exact h4
        have N4 : HB (w1.heap.size + 1) ⟨a, ln, tx, n⟩ 27 V2 := by rw [hV2]; exact h1
        have NB : Below w.heap.size w V2 := by rw [hV2]; exact h5.drew
        have hV := hV2.symm
        have sz : hd0.c.toArray.size = (Hd.c ⟨a, ln, tx, n⟩).toArray.size := by rw [List.size_toArray, List.size_toArray, Hd.c_len _ hd0_ok, Hd.c_len _ hok]
        have LA := Lib.hid (loadAt_Hd N4 hok)
        have LC := Lib.hid (loadAt_C N3)
        have SA := Lib.hid (run_storeAt_row (P := Try.prog) (ty := 27) (cells := (Hd.c ⟨a, ln, tx, n⟩).toArray) N1 (IHd hok) sz (Hd.c_one _))
        have N3' : (V2.setRow (w.heap.size + 1) (Hd.c ⟨a, ln, tx, n⟩).toArray).heap[w1.heap.size]? = some (.cells #[.string (ba d.b), .int .i64 d.e] 35 (0, 0)) := (setRow_other _ _ _ _ (by omega)).trans N3
        have LC2 := Lib.hid (loadAt_C N3')
        have N2' : (V2.setRow (w.heap.size + 1) (Hd.c ⟨a, ln, tx, n⟩).toArray).heap[w.heap.size + 2]? = some (.cells zC 35 (0, 0)) := (setRow_other _ _ _ _ (by omega)).trans N2
        have SC := Lib.hid (run_storeAt_row (P := Try.prog) (ty := 35) (cells := #[.string (ba d.b), .int .i64 d.e]) N2' (IC' _ _) rfl (oneC _ _))
        have N1' : HB (w.heap.size + 1) ⟨a, ln, tx, n⟩ 27 ((V2.setRow (w.heap.size + 1) (Hd.c ⟨a, ln, tx, n⟩).toArray).setRow (w.heap.size + 2) #[.string (ba d.b), .int .i64 d.e]) := (setRow_other _ _ _ _ (by omega)).trans (setRow_heap _ _ _ _ _ _ N1)
        have RA := Lib.hid (load_Hd N1' hok)
        have RC := Lib.hid (load_C (setRow_heap (V2.setRow (w.heap.size + 1) (Hd.c ⟨a, ln, tx, n⟩).toArray) (w.heap.size + 2) zC #[.string (ba d.b), .int .i64 d.e] _ _ N2'))
        have RB := Lib.hid (setRow_below (g := w.heap.size + 2) (cs := #[.string (ba d.b), .int .i64 d.e]) (setRow_below (g := w.heap.size + 1) (cs := (Hd.c ⟨a, ln, tx, n⟩).toArray) NB (by omega)) (by omega))
        have HV := Lib.hid hV
        clear N1 N2 N3 N4 N1' N2' N3' NB h1 h2 h3 h4 h5 hV hV2 sz hok hs1
        go_wp2_with fail
        have hV := HV.out
        refine wp_region_any (by kernel_rfl) ?_
        change wpAny _ _ _ _ _ _ _ (World.drew _)
        rw [hV]
        refine wpAny_ready (rs := [0, 1]) (by kernel_rfl) (by simp) ?_
        refine AllReady.cons rfl (fun K hK => ?_) (AllReady.cons rfl (fun K hK => ?_) AllReady.nil)
        · refine step_load rfl _ _ rfl _ rfl _ LA.out ?_
          refine hK _ _ ?_
          clear hK K
          refine wpAny_ready (rs := [1, 2]) (by kernel_rfl) (by simp) ?_
          refine AllReady.cons rfl (fun K hK => ?_) (AllReady.cons rfl (fun K hK => ?_) AllReady.nil)
          · refine step_load rfl _ _ rfl _ rfl _ LC.out ?_
            refine hK _ _ ?_
            clear hK K
            refine wpAny_ready (rs := [2]) (by kernel_rfl) (by simp) ?_
            refine AllReady.cons rfl (fun K hK => ?_) AllReady.nil
            refine step_store rfl _ _ _ rfl _ rfl (Hd.v ⟨a, ln, tx, n⟩) (by rfl) _ SA.out ?_
            refine hK _ _ ?_
            clear hK K
            refine wpAny_ready (rs := [3]) (by kernel_rfl) (by simp) ?_
            refine AllReady.cons rfl (fun K hK => ?_) AllReady.nil
            refine step_store rfl _ _ _ rfl _ rfl _ rfl _ SC.out ?_
            refine hK _ _ ?_
            clear hK K
            refine wpAny_done (by kernel_rfl) ?_ _
            (clear hV; go_wp2_with fail; exact bodyPost_ret (results_cell_cell 2 3 27 35 ⟨w.heap.size + 1, 0, none⟩ ⟨w.heap.size + 2, 0, none⟩ _ _ rfl rfl rfl RA.out RC.out) rfl ⟨by rw [hgo.out.1, hgo.out.2, Hof.out], RB.out⟩)
          · refine step_store rfl _ _ _ rfl _ rfl (Hd.v ⟨a, ln, tx, n⟩) (by rfl) _ SA.out ?_
            refine hK _ _ ?_
            clear hK K
            refine wpAny_ready (rs := [1]) (by kernel_rfl) (by simp) ?_
            refine AllReady.cons rfl (fun K hK => ?_) AllReady.nil
            refine step_load rfl _ _ rfl _ rfl _ LC2.out ?_
            refine hK _ _ ?_
            clear hK K
            refine wpAny_ready (rs := [3]) (by kernel_rfl) (by simp) ?_
            refine AllReady.cons rfl (fun K hK => ?_) AllReady.nil
            refine step_store rfl _ _ _ rfl _ rfl _ rfl _ SC.out ?_
            refine hK _ _ ?_
            clear hK K
            refine wpAny_done (by kernel_rfl) ?_ _
            (clear hV; go_wp2_with fail; exact bodyPost_ret (results_cell_cell 2 3 27 35 ⟨w.heap.size + 1, 0, none⟩ ⟨w.heap.size + 2, 0, none⟩ _ _ rfl rfl rfl RA.out RC.out) rfl ⟨by rw [hgo.out.1, hgo.out.2, Hof.out], RB.out⟩)
        · refine step_load rfl _ _ rfl _ rfl _ LC.out ?_
          refine hK _ _ ?_
          clear hK K
          refine wpAny_ready (rs := [0]) (by kernel_rfl) (by simp) ?_
          refine AllReady.cons rfl (fun K hK => ?_) AllReady.nil
          refine step_load rfl _ _ rfl _ rfl _ LA.out ?_
          refine hK _ _ ?_
          clear hK K
          refine wpAny_ready (rs := [2]) (by kernel_rfl) (by simp) ?_
          refine AllReady.cons rfl (fun K hK => ?_) AllReady.nil
          refine step_store rfl _ _ _ rfl _ rfl (Hd.v ⟨a, ln, tx, n⟩) (by rfl) _ SA.out ?_
          refine hK _ _ ?_
          clear hK K
          refine wpAny_ready (rs := [3]) (by kernel_rfl) (by simp) ?_
          refine AllReady.cons rfl (fun K hK => ?_) AllReady.nil
          refine step_store rfl _ _ _ rfl _ rfl _ rfl _ SC.out ?_
          refine hK _ _ ?_
          clear hK K
          refine wpAny_done (by kernel_rfl) ?_ _
          (clear hV; go_wp2_with fail; exact bodyPost_ret (results_cell_cell 2 3 27 35 ⟨w.heap.size + 1, 0, none⟩ ⟨w.heap.size + 2, 0, none⟩ _ _ rfl rfl rfl RA.out RC.out) rfl ⟨by rw [hgo.out.1, hgo.out.2, Hof.out], RB.out⟩)
end Go.Proofs.Ytgdlhcopgfgmaaa.Hd
