/- The walks of chapter 17's laws. -/
import Derived.Test.YtgdlhcopgfgmaaaHdT
import Derived.Test.YtgdlhcopgfgmaaaHdR
namespace Go.Proofs.Ytgdlhcopgfgmaaa.Hd
open Go.RowKit Go.Proofs.Ytgdlhcopgfgmaaa.Mk Go.Proofs.Ytgdlhcopgfgmaaa.Wd Go.Proofs.Ytgdlhcopgfgmaaa.Cur
open Extern.Stop (cell)
def hdA : Hd := ⟨258, zH, zH, 7⟩
theorem hdA_ok : hdA.Ok := ⟨by decide, zH_len, zH_len, by decide⟩
theorem takeH_b (h : Hd) (k : h.Ok) : takeH (bs (ba h.b)) = (h, 0) := by
  rw [bs_ba, takeH_76 _ (h.b_len k), h.of_b k]
theorem b_size (h : Hd) (k : h.Ok) : (ba h.b).size = 76 := by rw [ba_size, h.b_len k]
theorem eqSelf {h : Hd} (kh : h.Ok) (w : World) : (binOp .eql 27 h.v h.v).run Try.prog w = .ok (.bool true) w := by
  rw [eqHd kh kh, eqb_refl]
set_option maxHeartbeats 4000000 in
set_option maxRecDepth 100000 in
theorem awake_calls (w : World) : Calls Try.prog 15 #[] w fun e w' => e = .returned (.bool true) ∧ Below w.heap.size w w' := by
  have ht := takeH_b hdA hdA_ok
  have hsz := b_size hdA hdA_ok
  have HT := Lib.hid (fun w => htake_calls (ba hdA.b) w (by omega))
  rw [ht] at HT
  have HB0 := Lib.hid (fun w => bytes_calls hdA w hdA_ok)
  have HB1 := Lib.hid (fun w => bytes_calls hd0 w hd0_ok)
  have hsz0 := b_size hd0 hd0_ok
  clear ht hsz
  generalize ba hdA.b = s at *
  generalize ba hd0.b = s0 at *
  go_enter Try.func15, Try.ntmps15
  go_wp2_with fail
  refine (HB0.out _).mono ?_
  rintro e w1 ⟨rfl, hb1⟩
  have Hb1 := Lib.hid hb1
  clear hb1
  go_wp2_with fail
  refine (HT.out _).mono ?_
  rintro e w2 ⟨rfl, hb2⟩
  have Hb2 := Lib.hid (below_up Hb1.out hb2)
  clear hb2 Hb1
  simp only
  go_wp2_with (first | (refine wpList_store_last rfl 27 _ _ rfl _ hdA.c.toArray rfl rfl (IHd hdA_ok) (zero_size hdA_ok) (Hd.c_one _) ?_))
  refine (HB1.out _).mono ?_
  rintro e w3 ⟨rfl, hb3⟩
  have Hb3 := Lib.hid (below_up (Hb2.out.alloc Hb2.out.size _) hb3)
  have Z3 := Lib.hid (show HB w2.heap.size hdA 27 w3 from (hb3.block _ (by simp)).trans (heap_new _ _))
  clear hb3 Hb2
  go_wp2_with (first | (refine wpList_loadg (by rfl) 27 (.tmp 1) (by rfl) _ (by rfl) _ (loadAt_Hd Z3.out hdA_ok) ?_) | (refine wpList_value (by rfl) (.bool true) (run_bin (x := .tmp 14) (y := .tmp 15) (by rfl) (by rfl) (by rfl) (eqGuardHd (h := hdA) (g := hdA) _) (eqSelf hdA_ok _)) ?_))
  go_ret
  exact ⟨rfl, Hb3.out⟩
set_option maxHeartbeats 4000000 in
set_option maxRecDepth 100000 in
theorem lawBytes_calls (h : Hd) (w : World) (k : h.Ok) : Calls Try.prog 3 #[h.v] w fun e w' => e = .returned (.bool true) ∧ Below w.heap.size w w' := by
  have hk0 : HB w.heap.size h 27 (w.alloc (.cells h.c.toArray 27)) := heap_new _ _
  have hB0 := Lib.hid (show Below w.heap.size w (w.alloc (.cells h.c.toArray 27)) from (Below.refl _ _).alloc (Nat.le_refl _) _)
  unfold Hd.v
  go_enter Try.func3, Try.ntmps3
  go_wp2_with fail
  generalize w.alloc (.cells h.c.toArray 27) = W at *
  have L0 : ∀ wx, Below W.heap.size W wx → (Instr.loadAt 27 (.pointer (some ⟨w.heap.size, 0, none⟩))).run Try.prog wx = .ok h.v wx := fun wx hb => loadAt_Hd (hk0.keep hb) k
  have P1 : ∀ wx, Below W.heap.size W wx → Calls Try.prog 13 #[h.v] wx fun e w' => e = .returned (.string (ba h.b)) ∧ Below wx.heap.size wx w' := fun wx _ => bytes_calls h wx k
  have P2 : ∀ wx, Below W.heap.size W wx → Calls Try.prog 14 #[h.v] wx fun e w' => e = .returned (.string (ba h.b)) ∧ Below wx.heap.size wx w' := fun wx _ => rbytes_calls h wx k
  have P3 : ∀ wx, Below W.heap.size W wx → Calls Try.prog 15 #[] wx fun e w' => e = .returned (.bool true) ∧ Below wx.heap.size wx w' := fun wx _ => awake_calls wx
  generalize ba h.b = s at *
  clear hk0
  refine wp_region_quiet_below (by kernel_rfl) (by kernel_rfl) ?_
  repeat (first | (refine wpQuiet_load rfl 27 _ rfl _ rfl _ (rg_fact L0) ?_) | ((refine wpQuiet_call rfl 13 _ ?_ _ (rg_of P1) ?_); focus (intro wx; go_simp; done)) | ((refine wpQuiet_call rfl 14 _ ?_ _ (rg_of P2) ?_); focus (intro wx; go_simp; done)) | ((refine wpQuiet_call rfl 15 _ ?_ _ (rg_of P3) ?_); focus (intro wx; go_simp; done)) | go_big_quiet_step (fail) | quiet_step (fail))
  refine wpQuiet_nil ?_
  rintro _ ⟨rp, rfl⟩
  have hb3 := below_regrown W rp.d rp.os
  generalize Sort.grow (redrawn W rp.d) rp.os = w3 at *
  have hfin := Lib.hid (below_up hB0.out hb3)
  clear L0 P1 P2 P3 hb3
  go_wp2_with fail
  go_ret
  exact ⟨rfl, hfin.out⟩
set_option maxHeartbeats 4000000 in
set_option maxRecDepth 100000 in
theorem lawBack_calls (h : Hd) (s : ByteArray) (w : World) (k : h.Ok) (hs : s.size ≤ 140737488351232) : Calls Try.prog 5 #[h.v, .string s] w fun e w' => e = .returned (.bool true) ∧ Below w.heap.size w w' := by
  have ht := takeH_b h k
  have hsz := b_size h k
  have HT := Lib.hid (fun w => htake_calls (ba h.b) w (by omega))
  rw [ht] at HT
  have HT2 := Lib.hid (fun w => htake_calls s w (by omega))
  have HB0 := Lib.hid (fun w => bytes_calls h w k)
  have HBx := Lib.hid (fun w => bytes_calls (takeH (bs s)).1 w (takeH_ok _))
  have hx := takeH_ok (bs s)
  have h76 := takeH_76 (bs s)
  have hno := takeH_not (bs s)
  have hbo := Hd.b_of (bs s)
  rw [bs_len] at h76 hno hbo
  generalize takeH (bs s) = x at *
  obtain ⟨g, e⟩ := x
  simp only at HT2 HBx hx hno
  have Hx := Lib.hid hx
  have Ok := Lib.hid k
  have H76 := Lib.hid h76
  have Hno := Lib.hid hno
  have Hbo := Lib.hid hbo
  clear ht hx k h76 hno hbo
  generalize ba h.b = t at *
  go_enter Try.func5, Try.ntmps5
  have Z0 := Lib.hid (show HB w.heap.size h 27 (w.alloc (.cells h.c.toArray 27)) from heap_new _ _)
  have HBa := Lib.hid (show Below w.heap.size w (w.alloc (.cells h.c.toArray 27)) from (Below.refl _ _).alloc (Nat.le_refl _) _)
  unfold Hd.v at *
  go_wp2_with (first | (refine wpList_load_Hd rfl (.tmp 2) rfl rfl Z0.out Ok.out ?_))
  refine (HB0.out _).mono ?_
  rintro r w1 ⟨rfl, hb1⟩
  have hs0 : w.heap.size < (w.alloc (.cells h.c.toArray 27)).heap.size := by simp
  have Z1 := Lib.hid (Z0.out.keep hb1)
  have Hb1 := Lib.hid (HBa.out.trans (hb1.mono (by omega)))
  have Hs1 := Lib.hid (Nat.lt_of_lt_of_le hs0 hb1.size)
  clear hb1 hs0 Z0 HBa
  go_wp2_with fail
  refine (HT.out _).mono ?_
  rintro r w2 ⟨rfl, hb2⟩
  simp only
  have Z2 := Lib.hid (show HB w.heap.size h 27 (w2.alloc (.cells h.c.toArray 27)) from (Below.heap_alloc _ _ _ (Nat.lt_of_lt_of_le Hs1.out hb2.size)).trans (Z1.out.keep hb2))
  have Y2 := Lib.hid (show HB w2.heap.size h 27 (w2.alloc (.cells h.c.toArray 27)) from heap_new _ _)
  have Hb2 := Lib.hid (show Below w.heap.size w (w2.alloc (.cells h.c.toArray 27)) from (below_up Hb1.out hb2).alloc (Nat.le_trans Hb1.out.size hb2.size) _)
  clear hb2 Z1 Hb1 Hs1
  go_wp2_with (first | (refine wpList_store_last rfl 27 _ _ rfl _ h.c.toArray rfl rfl (IHd Ok.out) (zero_size Ok.out) (Hd.c_one _) ?_))
  refine (HT2.out _).mono ?_
  rintro r w3 ⟨rfl, hb3⟩
  have Z3 := Lib.hid (show HB w.heap.size h 27 (w3.alloc (.cells g.c.toArray 27)) from (Z2.out.keep hb3).keep ((Below.refl _ _).alloc (Nat.le_refl _) _))
  have Y3 := Lib.hid (show HB w2.heap.size h 27 (w3.alloc (.cells g.c.toArray 27)) from (Y2.out.keep hb3).keep ((Below.refl _ _).alloc (Nat.le_refl _) _))
  have X3 := Lib.hid (show HB w3.heap.size g 27 (w3.alloc (.cells g.c.toArray 27)) from heap_new _ _)
  have Hb3 := Lib.hid (show Below w.heap.size w (w3.alloc (.cells g.c.toArray 27)) from (below_up Hb2.out hb3).alloc (Nat.le_trans Hb2.out.size hb3.size) _)
  clear hb3 Z2 Y2 Hb2
  by_cases h76 : s.size = 76
  · have hge := H76.out h76
    have hbo := Hbo.out h76
    simp only [Prod.mk.injEq] at hge
    obtain ⟨hg, rfl⟩ := hge
    have hsb : ba g.b = s := by rw [hg, hbo, ba_bs]
    have HBx2 := Lib.hid (fun w => by have := HBx.out w; rw [hsb] at this; exact this)
    have t1 : ((s.size : Int) == 76) = true := by simp; omega
    clear hg hbo hsb h76 H76 Hbo HBx Hno
    go_wp2_with (first | (refine wpList_store_last rfl 27 _ _ rfl _ g.c.toArray rfl rfl (IHd Hx.out) (zero_size Hx.out) (Hd.c_one _) ?_) | (refine wpList_loadg (by rfl) 27 (.tmp 6) (by rfl) _ (by rfl) _ (loadAt_Hd Y3.out Ok.out) ?_) | (refine wpList_loadg (by rfl) 27 (.tmp 2) (by rfl) _ (by rfl) _ (loadAt_Hd Z3.out Ok.out) ?_) | (refine wpList_loadg (by rfl) 27 (.tmp 8) (by rfl) _ (by rfl) _ (loadAt_Hd X3.out Hx.out) ?_) | (refine wpList_value (by rfl) (.bool true) (run_bin (x := .tmp 26) (y := .tmp 27) (by rfl) (by rfl) (by rfl) (eqGuardHd (h := h) (g := h) _) (eqSelf Ok.out _)) ?_))
    refine (HBx2.out _).mono ?_
    rintro r w4 ⟨rfl, hb4⟩
    have hb4' := Lib.hid (below_up Hb3.out hb4)
    clear hb4
    go_wp2_with fail
    refine (awake_calls _).mono ?_
    rintro r w5 ⟨rfl, hb5⟩
    have hfin := Lib.hid (below_up hb4'.out hb5)
    clear hb5
    go_wp2_with fail
    go_ret
    exact ⟨rfl, hfin.out⟩
  · have he := (Hno.out h76).2
    have t1 : ((s.size : Int) == 76) = false := by simp; omega
    have t2 : (e == 0) = false := by simpa using he
    have t3 : (e != 0) = true := by simpa using he
    clear h76 he H76 Hbo HBx Hno
    go_wp2_with (first | (refine wpList_store_last rfl 27 _ _ rfl _ g.c.toArray rfl rfl (IHd Hx.out) (zero_size Hx.out) (Hd.c_one _) ?_) | (refine wpList_loadg (by rfl) 27 (.tmp 6) (by rfl) _ (by rfl) _ (loadAt_Hd Y3.out Ok.out) ?_) | (refine wpList_loadg (by rfl) 27 (.tmp 2) (by rfl) _ (by rfl) _ (loadAt_Hd Z3.out Ok.out) ?_) | (refine wpList_loadg (by rfl) 27 (.tmp 8) (by rfl) _ (by rfl) _ (loadAt_Hd X3.out Hx.out) ?_) | (refine wpList_value (by rfl) (.bool true) (run_bin (x := .tmp 26) (y := .tmp 27) (by rfl) (by rfl) (by rfl) (eqGuardHd (h := h) (g := h) _) (eqSelf Ok.out _)) ?_))
    refine (awake_calls _).mono ?_
    rintro r w4 ⟨rfl, hb4⟩
    have hfin := Lib.hid (below_up Hb3.out hb4)
    clear hb4
    go_wp2_with fail
    go_ret
    exact ⟨rfl, hfin.out⟩
end Go.Proofs.Ytgdlhcopgfgmaaa.Hd
