/- The walk of chapter 17's law HeadTakes. -/
import Derived.Deep.DeepCutAuto
import Derived.Test.YtgdlhcopgfgmaaaHdL
import Derived.Test.YtgdlhcopgfgmaaaKnown
namespace Go.Proofs.Ytgdlhcopgfgmaaa.Hd
open Go.RowKit Go.Proofs.Ytgdlhcopgfgmaaa.Mk Go.Proofs.Ytgdlhcopgfgmaaa.Wd Go.Proofs.Ytgdlhcopgfgmaaa.Cur
open Extern.Stop (cell)
/-- a header's block; a cursor's -/
def HO (h : Hd) : Obj := .cells h.c.toArray 27 (0, 0)
def CO (c : C) : Obj := .cells #[.string (ba c.b), .int .i64 c.e] 35 (0, 0)
theorem wpList_load_C {ops : Array Oper} {rest : List Oper} {o : Oper} {a : Act} {w : World} {Q : Exit → Act → World → Prop} (hgd : o.guard = none) (x : Operand) (ho : o.op = .load 35 x) {g : Nat} {u v : Value} {t : TypeId} {fr : Nat × Nat} (hx : a.eval x = .pointer (some ⟨g, 0, none⟩))
    (k : w.heap[g]? = some (.cells #[u, v] t fr)) (hn : wpList Try.prog ops Q rest (a.put o.dst (.agg #[u, v])) w) : wpList Try.prog ops Q (o :: rest) a w := by
  obtain ⟨d, hd, hr⟩ := Option.map_eq_some_iff.1 UC
  exact wpList_load_row hgd 35 x ho _ hx _ _ _ d k hd (by cases d <;> simp_all) (IC' _ _) hn
theorem run_load_str {w : World} {a : Addr} {s : ByteArray} (h : w.cell? a = some (.string s)) : (Instr.loadAt 9 (.pointer (some a))).run Try.prog w = .ok (.string s) w := by go_simp
theorem run_load_err {w : World} {a : Addr} {e : Int} (h : w.cell? a = some (.int .i64 e)) : (Instr.loadAt 31 (.pointer (some a))).run Try.prog w = .ok (.int .i64 e) w := by go_simp
set_option maxHeartbeats 8000000 in
set_option maxRecDepth 100000 in
theorem lawTakes_calls (s : ByteArray) (w : World) (hs : s.size ≤ 140737488351232) : Calls Try.prog 4 #[.string s] w fun e w' => e = .returned (.bool true) ∧ Below w.heap.size w w' := by
  have HT := Lib.hid (fun w => htake_calls s w (by omega))
  have HR : Hid (∀ w, Calls Try.prog 17 #[.agg #[.string s, .int .i64 0]] w fun r w' => r = .returned (.tuple #[(getC ⟨bs s, 0⟩).1.v, cV (getC ⟨bs s, 0⟩).2]) ∧ Below w.heap.size w w') := Lib.hid (fun w => rget_calls ⟨bs s, 0⟩ w (by rw [bs_len]; omega))
  have HG := Lib.hid (fun b W (hW : CU b ⟨bs s, 0⟩ W) => get_calls b ⟨bs s, 0⟩ W hW (by rw [bs_len]; omega))
  have ht : takeH (bs s) = if doneC (getC ⟨bs s, 0⟩).2 = 0 then ((getC ⟨bs s, 0⟩).1, 0) else (hd0, doneC (getC ⟨bs s, 0⟩).2) := rfl
  have hgo := takeH_ok (bs s)
  have hok := getC_ok ⟨bs s, 0⟩
  have hlen := getC_len ⟨bs s, 0⟩
  simp only [bs_len] at hlen
  generalize getC ⟨bs s, 0⟩ = x at *
  generalize takeH (bs s) = y at *
  obtain ⟨g, d⟩ := x
  obtain ⟨h, e⟩ := y
  simp only at HT HR HG ht hgo hok hlen
  unfold cV cC at HR
  have HD := Lib.hid (fun w => rdone_calls d w)
  have Ht := Lib.hid ht
  have Hh := Lib.hid hgo
  have Hg := Lib.hid hok
  clear ht hgo hok
  unfold Hd.v at *
  go_enter Try.func4, Try.ntmps4
  go_wp2_with fail
  refine (HT.out _).mono ?_
  rintro r w1 ⟨rfl, hb1⟩
  have K1 := Lib.hid (show KQ [(w1.heap.size, HO h)] (w1.alloc (HO h)) from (KQ.nil _).alloc _)
  have B1 := Lib.hid (show Below w.heap.size w (w1.alloc (HO h)) from hb1.alloc hb1.size _)
  unfold HO at *
  clear hb1
  go_wp2_with (first | (refine wpList_store_last rfl 27 _ _ rfl _ h.c.toArray rfl rfl (IHd Hh.out) (zero_size Hh.out) (Hd.c_one _) ?_))
  refine (HR.out _).mono ?_
  rintro r w2 ⟨rfl, hb2⟩
  have K2 := Lib.hid ((K1.out.keep hb2).two Try.zeroCells27 #[.string ⟨#[]⟩, .int .i64 0] g.c.toArray #[.string (ba d.b), .int .i64 d.e] 27 35)
  have B2 := Lib.hid (below_two (below_up B1.out hb2) Try.zeroCells27 #[.string ⟨#[]⟩, .int .i64 0] g.c.toArray #[.string (ba d.b), .int .i64 d.e] 27 35)
  have n20 : w.heap.size ≤ w2.heap.size := by have h1 := B1.out.size; have h2 := hb2.size; omega
  have n21 : w1.heap.size < w2.heap.size := by have := hb2.size; simp at this; omega
  clear hb2 K1 B1
  go_wp2_with (first | (refine wpList_store_row (o := ⟨none, .store 27 (.tmp 5) (.tmp 21), _, _, _, _⟩) rfl 27 _ _ rfl w2.heap.size g.c.toArray rfl rfl _ _ (heap_new1 _ _ _) (IHd Hg.out) (zero_size Hg.out) (Hd.c_one _) ?_) | (refine wpList_store_row rfl 35 _ _ rfl (w2.heap.size + 1) #[.string (ba d.b), .int .i64 d.e] rfl rfl _ _ ((setRow_other _ _ _ _ (by omega)).trans (heap_new2 _ _ _)) (IC' _ _) rfl (oneC _ _) ?_) | (refine wpList_load_C rfl (.tmp 6) rfl rfl K2.out.head ?_))
  refine (HD.out _).mono ?_
  rintro r w3 ⟨rfl, hb3⟩
  have K3 := Lib.hid (K2.out.keep hb3)
  have B3 := Lib.hid (below_up B2.out hb3)
  have hs3 : w2.heap.size + 2 ≤ w3.heap.size := by have := hb3.size; simp [World.setRow] at this; omega
  clear hb3 K2 B2
  have hef : e = doneC d ∧ (doneC d = 0 → h = g) ∧ (doneC d ≠ 0 → h = hd0) := by
    have h1 := Ht.out
    by_cases h0 : doneC d = 0
    · rw [if_pos h0] at h1
      simp only [Prod.mk.injEq] at h1
      exact ⟨by rw [h1.2, h0], fun _ => h1.1, fun h2 => absurd h0 h2⟩
    · rw [if_neg h0] at h1
      simp only [Prod.mk.injEq] at h1
      exact ⟨h1.2, fun h2 => absurd h2 h0, fun _ => h1.1⟩
  obtain ⟨he, hg0, hg1⟩ := hef
  rw [← he] at hg0 hg1 ⊢
  have Hg0 := Lib.hid hg0
  have Hg1 := Lib.hid hg1
  clear he hg0 hg1 Ht
  go_upto_if 26 with fail
  go_cut [7] (fun s7 wx => s7 = .int .i64 e ∧ Hid (KQ [(w2.heap.size, .cells h.c.toArray 27 (0, 0)), (w2.heap.size + 1, .cells #[.string (ba d.b), .int .i64 d.e] 35 (0, 0)), (w1.heap.size, .cells h.c.toArray 27 (0, 0))] wx ∧ Below w.heap.size w wx ∧ w2.heap.size + 2 ≤ wx.heap.size))
  case first =>
    have k := K3.out
    have k5 : w3.heap[w2.heap.size]? = some (.cells g.c.toArray 27 (0, 0)) := k.tail.head
    by_cases h0 : e = 0
    · have hg := Hg0.out h0
      subst h0 hg
      go_wp2_with fail
      go_meet
      exact ⟨rfl, Lib.hid ⟨KQ.cons k5 (KQ.cons k.head k.tail.tail), B3.out, hs3⟩⟩
    · have hg := Hg1.out h0
      have t1 : (e != 0) = true := by simpa using h0
      have kL : KQ [(w2.heap.size + 1, .cells #[.string (ba d.b), .int .i64 d.e] 35 (0, 0)), (w1.heap.size, .cells h.c.toArray 27 (0, 0))] w3 := KQ.cons k.head k.tail.tail
      have HK5 := Lib.hid (KQ.row (c' := h.c.toArray) kL k5 (by intro p hp; simp at hp; rcases hp with rfl | rfl <;> simp <;> omega))
      have HB5 := Lib.hid (below_row (g := w2.heap.size) (cs := h.c.toArray) B3.out n20)
      have K5 := Lib.hid k5
      have sz := Lib.hid (show g.c.toArray.size = h.c.toArray.size by rw [List.size_toArray, List.size_toArray, Hd.c_len _ Hg.out, Hd.c_len _ Hh.out])
      clear k5 kL k h0
      subst hg
      go_wp2_with (first | (refine wpList_store_row rfl 27 _ _ rfl w2.heap.size hd0.c.toArray rfl rfl _ _ K5.out (IHd hd0_ok) sz.out (Hd.c_one _) ?_))
      go_meet
      exact ⟨rfl, Lib.hid ⟨HK5.out, HB5.out, by simp [World.setRow]; omega⟩⟩
  case rest =>
    obtain ⟨rfl, hq⟩ := hcut
    clear K3 B3 hs3
    go_wp2_with fail
    refine (read_calls _ _).mono ?_
    rintro r w4 ⟨rfl, hu4, hb4⟩
    obtain ⟨k, b, n⟩ := hq.out
    have K4 := Lib.hid (k.keep hb4)
    have B4 := Lib.hid (b.trans (hb4.mono b.size))
    have U4 := Lib.hid hu4
    have N4 := Lib.hid (And.intro b.size n)
    clear k b n hq hu4 hb4
    generalize wc.heap.size = nb at *
    go_wp2_with fail
    refine (HG.out _ _ U4.out).mono ?_
    rintro r w5 ⟨rfl, hu5, hw5⟩
    have K5 := Lib.hid ((K4.out.but hw5 (by intro p hp e; simp at hp; have := N4.out; rcases hp with rfl | rfl | rfl <;> simp at e <;> omega)).alloc (HO g))
    have B5 := Lib.hid ((B4.out.trans (hw5.below B4.out.size N4.out.1)).alloc (by have := B4.out.size; have := hw5.size; omega) (HO g))
    have U5 := Lib.hid (show CU nb d (w5.alloc (HO g)) from hu5.keep ((Below.refl _ _).alloc (Nat.le_refl _) _))
    have N5 := Lib.hid (show nb < w5.heap.size from hu5.lt)
    unfold HO at *
    clear hu5 hw5 K4 B4 U4
    go_wp2_with (first | (refine wpList_store_last rfl 27 _ _ rfl _ g.c.toArray rfl rfl (IHd Hg.out) (zero_size Hg.out) (Hd.c_one _) ?_))
    refine (HR.out _).mono ?_
    rintro r w6 ⟨rfl, hb6⟩
    have K6 := Lib.hid ((K5.out.keep hb6).two Try.zeroCells27 #[.string ⟨#[]⟩, .int .i64 0] g.c.toArray #[.string (ba d.b), .int .i64 d.e] 27 35)
    have B6 := Lib.hid (below_two (below_up B5.out hb6) Try.zeroCells27 #[.string ⟨#[]⟩, .int .i64 0] g.c.toArray #[.string (ba d.b), .int .i64 d.e] 27 35)
    have n65 : nb < w6.heap.size := by have := hb6.size; have := N5.out; simp at *; omega
    have U6 := Lib.hid (show CU nb d ((((w6.alloc (.cells Try.zeroCells27 27)).alloc (.cells #[.string ⟨#[]⟩, .int .i64 0] 35)).setRow w6.heap.size g.c.toArray).setRow (w6.heap.size + 1) #[.string (ba d.b), .int .i64 d.e]) from
      CU.row (CU.row ((U5.out.keep hb6).keep ((Below.refl _ _).alloc (Nat.le_refl _) _ |>.alloc (by simp) _)) (by omega) _) (by omega) _)
    clear hb6 K5 B5 U5
    go_wp2_with (first | (refine wpList_store_row (o := ⟨none, .store 27 (.tmp 10) (.tmp 36), _, _, _, _⟩) rfl 27 _ _ rfl w6.heap.size g.c.toArray rfl rfl _ _ (heap_new1 _ _ _) (IHd Hg.out) (zero_size Hg.out) (Hd.c_one _) ?_) | (refine wpList_store_row rfl 35 _ _ rfl (w6.heap.size + 1) #[.string (ba d.b), .int .i64 d.e] rfl rfl _ _ ((setRow_other _ _ _ _ (by omega)).trans (heap_new2 _ _ _)) (IC' _ _) rfl (oneC _ _) ?_))
    generalize World.setRow (World.setRow (World.alloc (World.alloc w6 _) _) _ _) _ _ = W7 at *
    have k := K6.out
    have hd7 := hlen
    have LH1 : ∀ wx, Below W7.heap.size W7 wx → (Instr.loadAt 27 (.pointer (some ⟨w1.heap.size, 0, none⟩))).run Try.prog wx = .ok h.v wx := fun wx hb => loadAt_Hd (t := 27) ((k.keep hb) (w1.heap.size, .cells h.c.toArray 27 (0, 0)) (by simp)) Hh.out
    have LH2 : ∀ wx, Below W7.heap.size W7 wx → (Instr.loadAt 27 (.pointer (some ⟨w2.heap.size, 0, none⟩))).run Try.prog wx = .ok h.v wx := fun wx hb => loadAt_Hd (t := 27) ((k.keep hb) (w2.heap.size, .cells h.c.toArray 27 (0, 0)) (by simp)) Hh.out
    have LH5 : ∀ wx, Below W7.heap.size W7 wx → (Instr.loadAt 27 (.pointer (some ⟨w5.heap.size, 0, none⟩))).run Try.prog wx = .ok g.v wx := fun wx hb => loadAt_Hd (t := 27) ((k.keep hb) (w5.heap.size, .cells g.c.toArray 27 (0, 0)) (by simp)) Hg.out
    have LH6 : ∀ wx, Below W7.heap.size W7 wx → (Instr.loadAt 27 (.pointer (some ⟨w6.heap.size, 0, none⟩))).run Try.prog wx = .ok g.v wx := fun wx hb => loadAt_Hd (t := 27) ((k.keep hb) (w6.heap.size, .cells g.c.toArray 27 (0, 0)) (by simp)) Hg.out
    have kc : ∀ wx, Below W7.heap.size W7 wx → wx.heap[w2.heap.size + 1]? = some (.cells #[.string (ba d.b), .int .i64 d.e] 35 (0, 0)) := fun wx hb => (k.keep hb) (w2.heap.size + 1, .cells #[.string (ba d.b), .int .i64 d.e] 35 (0, 0)) (by simp)
    have LS : ∀ wx, Below W7.heap.size W7 wx → (Instr.loadAt 9 (.pointer (some ⟨w2.heap.size + 1, 0, none⟩))).run Try.prog wx = .ok (.string (ba d.b)) wx := fun wx hb => run_load_str (by rw [cell_of_row _ _ _ _ _ _ (kc wx hb)]; rfl)
    have LE : ∀ wx, Below W7.heap.size W7 wx → (Instr.loadAt 31 (.pointer (some ⟨w2.heap.size + 1, 1, none⟩))).run Try.prog wx = .ok (.int .i64 d.e) wx := fun wx hb => run_load_err (by rw [cell_of_row _ _ _ _ _ _ (kc wx hb)]; rfl)
    have CL : ∀ wx, Below W7.heap.size W7 wx → Calls Try.prog 21 #[.pointer (some ⟨nb, 0, none⟩)] wx fun r w' => r = .returned (.int .i64 ((ba d.b).size : Int)) ∧ Below wx.heap.size wx w' := fun wx hb =>
      (left_calls nb d wx (U6.out.keep hb)).mono fun r w' ⟨h1, h2⟩ => ⟨h1, by rw [h2]; exact Below.refl _ _⟩
    have CE : ∀ wx, Below W7.heap.size W7 wx → Calls Try.prog 22 #[.pointer (some ⟨nb, 0, none⟩)] wx fun r w' => r = .returned (.int .i64 d.e) ∧ Below wx.heap.size wx w' := fun wx hb =>
      (err_calls nb d wx (U6.out.keep hb)).mono fun r w' ⟨h1, h2⟩ => ⟨h1, by rw [h2]; exact Below.refl _ _⟩
    have CA : ∀ wx, Below W7.heap.size W7 wx → Calls Try.prog 15 #[] wx fun r w' => r = .returned (.bool true) ∧ Below wx.heap.size wx w' := fun wx _ => awake_calls wx
    clear k kc
    refine wp_region_quiet_below (by kernel_rfl) (by kernel_rfl) ?_
    repeat (first | (refine wpQuiet_load rfl 27 _ rfl _ rfl _ (rg_fact LH1) ?_) | (refine wpQuiet_load rfl 27 _ rfl _ rfl _ (rg_fact LH2) ?_) | (refine wpQuiet_load rfl 27 _ rfl _ rfl _ (rg_fact LH5) ?_) | (refine wpQuiet_load rfl 27 _ rfl _ rfl _ (rg_fact LH6) ?_) | (refine wpQuiet_load rfl 9 _ rfl _ rfl _ (rg_fact LS) ?_) | (refine wpQuiet_load rfl 31 _ rfl _ rfl _ (rg_fact LE) ?_) | (refine wpQuiet_value rfl (.bool true) (rg_fact (w := W7) (fun wx _ => run_bin (x := .tmp 38) (y := .tmp 39) rfl rfl rfl (eqGuardHd (h := h) (g := h) wx) (eqSelf Hh.out wx))) ?_) | (refine wpQuiet_value rfl (.bool true) (rg_fact (w := W7) (fun wx _ => run_bin (x := .tmp 47) (y := .tmp 48) rfl rfl rfl (eqGuardHd (h := g) (g := g) wx) (eqSelf Hg.out wx))) ?_) | ((refine wpQuiet_call rfl 21 _ ?_ _ (rg_of CL) ?_); focus (intro wx; go_simp; done)) | ((refine wpQuiet_call rfl 22 _ ?_ _ (rg_of CE) ?_); focus (intro wx; go_simp; done)) | ((refine wpQuiet_call rfl 15 _ ?_ _ (rg_of CA) ?_); focus (intro wx; go_simp; done)) | go_big_quiet_step (fail) | quiet_step (fail))
    refine wpQuiet_nil ?_
    rintro _ ⟨rp, rfl⟩
    have hb8 := below_regrown W7 rp.d rp.os
    generalize Sort.grow (redrawn W7 rp.d) rp.os = w8 at *
    have hfin := Lib.hid (below_up B6.out hb8)
    clear LH1 LH2 LH5 LH6 LS LE CL CE CA hb8
    go_wp2_with fail
    go_ret
    exact ⟨rfl, hfin.out⟩
end Go.Proofs.Ytgdlhcopgfgmaaa.Hd
