/- The walk of chapter 30's law ProofDecodes. -/
import Derived.Test.YtcaocnlchfbeaaaMuch30
import Derived.Test.YtcaocnlchfbeaaaPs
namespace Go.Proofs.Ytcaocnlchfbeaaa.Pf
open Go.RowKit Go.Proofs.Ytcaocnlchfbeaaa.Mk Go.Proofs.Ytcaocnlchfbeaaa.Op Go.Proofs.Ytcaocnlchfbeaaa.Hd Go.Proofs.Ytcaocnlchfbeaaa.St Go.Proofs.Ytcaocnlchfbeaaa.Cur Go.Proofs.Ytcaocnlchfbeaaa.Stp Go.Proofs.Ytcaocnlchfbeaaa.Tk
theorem ld_err {w : World} {a : Addr} {e : Int} (h : w.cell? a = some (.int .i64 e)) : (Instr.loadAt 24 (.pointer (some a))).run Try.prog w = .ok (.int .i64 e) w := by go_simp
theorem ld_str {w : World} {a : Addr} {s : ByteArray} (h : w.cell? a = some (.string s)) : (Instr.loadAt 9 (.pointer (some a))).run Try.prog w = .ok (.string s) w := by go_simp
set_option maxHeartbeats 8000000 in
set_option maxRecDepth 100000 in
theorem lawDecodes_calls (s : ByteArray) (w : World) (hs : s.size ≤ 140737488351232) : Calls Try.prog 7 #[.string s] w fun e w' => e = .returned (.bool true) ∧ Below w.heap.size w w' := by
  have hl : (bs s).length ≤ 9223372036854775807 := by rw [bs_len]; omega
  have HA := Lib.hid (fun wx => Pf.awake_calls wx)
  by_cases hm : 6000 < s.size
  · have t1 : decide ((6000 : Int) < (s.size : Int)) = true := decide_eq_true (by omega)
    clear hl
    go_enter Try.func7, Try.ntmps7
    go_wp2_with fail
    refine (HA.out _).mono ?_
    rintro e w1 ⟨rfl, hb1⟩
    have B1 := Lib.hid hb1
    clear hb1
    go_wp2_with fail
    go_ret
    exact ⟨rfl, B1.out⟩
  have t1 : decide ((6000 : Int) < (s.size : Int)) = false := decide_eq_false (by omega)
  have HD := Lib.hid (fun wx => decode_calls s wx (by omega))
  have HR := Lib.hid (fun wx => rdecode_calls s wx (by omega))
  have HG := Lib.hid (fun b W (hW : CU b ⟨bs s, 0⟩ W) => get_calls b ⟨bs s, 0⟩ W hW hl)
  have HQ := Lib.hid (fun wx => rget_calls ⟨bs s, 0⟩ wx hl)
  clear hl hm
  unfold cV cC at HQ
  dsimp only at HQ
  rw [ba_bs] at HQ
  generalize getP ⟨bs s, 0⟩ = x at *
  generalize decP (bs s) = y at *
  obtain ⟨l2, c⟩ := x
  obtain ⟨l1, e1⟩ := y
  go_enter Try.func7, Try.ntmps7
  go_wp2_with fail
  refine (HD.out _).mono ?_
  rintro r w1 ⟨v1, rfl, hs1, hb1⟩
  have S1 := Lib.hid hs1
  have B1 := Lib.hid hb1
  clear hs1 hb1 HD
  go_wp2_with fail
  refine (HR.out _).mono ?_
  rintro r w2 ⟨v2, rfl, hs2, hb2⟩
  have S2 := Lib.hid (And.intro (S1.out.below hb2) hs2)
  have B2 := Lib.hid (below_up B1.out hb2)
  clear hs2 hb2 HR S1 B1
  go_wp2_with fail
  refine (read_calls _ _).mono ?_
  rintro r w3 ⟨rfl, hu3, hb3⟩
  have G3 := Lib.hid (HG.out _ _ hu3)
  have B3 := Lib.hid hb3
  clear hu3 hb3 HG
  go_wp2_with fail
  refine G3.out.mono ?_
  rintro r w4 ⟨v4, ts4, rfl, hr4, hl4, hn4, hu4, hc4⟩
  obtain ⟨b, hb⟩ : ∃ b, b = w2.heap.size := ⟨_, rfl⟩
  have B24 : Below w2.heap.size w2 w4 := B3.out.trans (hc4.below B3.out.size (Nat.le_refl _))
  rw [← hb] at hu4
  have S4 := Lib.hid (show (SS w4 v1 l1 ∧ SS w4 v2 l1 ∧ SS w4 v4 l2) ∧ CU b c w4 from ⟨⟨S2.out.1.below B24, S2.out.2.below B24, hl4 ▸ hr4.ss (by omega)⟩, hu4⟩)
  have B4 := Lib.hid (below_up B2.out B24)
  rw [← hb]
  clear hr4 hl4 hn4 hu4 hc4 B24 S2 B2 B3 G3 hb
  go_wp2_with fail
  refine (HQ.out _).mono ?_
  rintro r w5 ⟨v5, ts5, rfl, hr5, hl5, hn5, hb5⟩
  have S5 := Lib.hid (show ((SS w5 v1 l1 ∧ SS w5 v2 l1 ∧ SS w5 v4 l2) ∧ CU b c w5) ∧ SS w5 v5 l2 from ⟨⟨⟨S4.out.1.1.below hb5, S4.out.1.2.1.below hb5, S4.out.1.2.2.below hb5⟩, S4.out.2.keep hb5⟩, hl5 ▸ hr5.ss (by omega)⟩)
  have B5 := Lib.hid (below_up B4.out hb5)
  clear hr5 hl5 hn5 hb5 S4 B4 HQ
  go_upto_region 8 with (first | (refine wpList_store_row (by rfl) 45 _ _ (by rfl) w5.heap.size #[.string (ba c.b), .int .i64 c.e] (by rfl) (by rfl) _ _ (heap_new _ _) (Tk.IC2 _ _) rfl (Tk.oneC _ _) ?_))
  generalize hW6 : World.setRow _ _ _ = W6
  obtain ⟨g, hg⟩ : ∃ g, g = w5.heap.size := ⟨_, rfl⟩
  have hba : Below w5.heap.size w5 W6 := by rw [← hW6]; exact below_row ((Below.refl _ _).alloc (Nat.le_refl _) (cO ⟨[], 0⟩)) (Nat.le_refl _)
  have hgc : W6.heap[g]? = some (cO c) := by rw [← hW6, hg]; exact setRow_heap _ _ _ _ _ _ (heap_new _ (cO ⟨[], 0⟩))
  rw [← hg]
  clear hW6 hg
  have B6 := Lib.hid (below_up B5.out hba)
  have u1 := S5.out.1.1.1.below hba
  have u2 := S5.out.1.1.2.1.below hba
  have u4 := S5.out.1.1.2.2.below hba
  have u5 := S5.out.2.below hba
  have hu := S5.out.1.2.keep hba
  have P1 := Lib.hid (fun wx (hx : Below W6.heap.size W6 wx) => rsameL_calls v1 v2 l1 l1 wx (u1.below hx) (u2.below hx))
  have P2 := Lib.hid (fun wx (hx : Below W6.heap.size W6 wx) => rsameL_calls v4 v5 l2 l2 wx (u4.below hx) (u5.below hx))
  rw [sameL_self] at P1 P2
  have LL := Lib.hid (show ∀ wx, Below W6.heap.size W6 wx → Calls Try.prog 23 #[.pointer (some ⟨b, 0, none⟩)] wx fun r w' => r = .returned (.int .i64 ((ba c.b).size : Int)) ∧ Below wx.heap.size wx w' from fun wx hbx =>
    (Cur.left_calls b c wx (hu.keep hbx)).mono fun r w' ⟨h1, h2⟩ => ⟨h1, by rw [h2]; exact Below.refl _ _⟩)
  have LE := Lib.hid (show ∀ wx, Below W6.heap.size W6 wx → Calls Try.prog 24 #[.pointer (some ⟨b, 0, none⟩)] wx fun r w' => r = .returned (.int .i64 c.e) ∧ Below wx.heap.size wx w' from fun wx hbx =>
    (Cur.err_calls b c wx (hu.keep hbx)).mono fun r w' ⟨h1, h2⟩ => ⟨h1, by rw [h2]; exact Below.refl _ _⟩)
  have LA := Lib.hid (fun wx (_ : Below W6.heap.size W6 wx) => HA.out wx)
  have L0 := Lib.hid (fun wx (hbx : Below W6.heap.size W6 wx) => ld_str (Tk.c0C ((hbx.block g (Array.getElem?_eq_some_iff.1 hgc).1).trans hgc)))
  have L1 := Lib.hid (fun wx (hbx : Below W6.heap.size W6 wx) => ld_err (Tk.c1C ((hbx.block g (Array.getElem?_eq_some_iff.1 hgc).1).trans hgc)))
  clear u1 u2 u4 u5 hu hba hgc S5 B5 HA
  generalize ba c.b = sc at *
  generalize c.e = ce at *
  go_wp2_with fail
  refine wp_region_quiet_below (by kernel_rfl) (by kernel_rfl) ?_
  repeat (first | go_big_quiet_skip | ((refine wpQuiet_load rfl 9 _ rfl _ rfl _ (rg_fact L0.out) ?_); simp only [Act.put, List.setIfInBounds_toArray, List.set_cons_zero, List.set_cons_succ]) | ((refine wpQuiet_load rfl 24 _ rfl _ rfl _ (rg_fact L1.out) ?_); simp only [Act.put, List.setIfInBounds_toArray, List.set_cons_zero, List.set_cons_succ]) | ((refine wpQuiet_call (by rfl) 33 _ (fun wx => call_run (by rfl) (by rfl) (enters_of Try.func33 (by kernel_rfl) rfl)) _ (rg_of P1.out) ?_); simp only [Act.put, List.setIfInBounds_toArray, List.set_cons_zero, List.set_cons_succ]) | ((refine wpQuiet_call (by rfl) 33 _ (fun wx => call_run (by rfl) (by rfl) (enters_of Try.func33 (by kernel_rfl) rfl)) _ (rg_of P2.out) ?_); simp only [Act.put, List.setIfInBounds_toArray, List.set_cons_zero, List.set_cons_succ]) | ((refine wpQuiet_call (by rfl) 23 _ (fun wx => call_run (by rfl) (by rfl) (enters_of Try.func23 (by kernel_rfl) rfl)) _ (rg_of LL.out) ?_); simp only [Act.put, List.setIfInBounds_toArray, List.set_cons_zero, List.set_cons_succ]) | ((refine wpQuiet_call (by rfl) 24 _ (fun wx => call_run (by rfl) (by rfl) (enters_of Try.func24 (by kernel_rfl) rfl)) _ (rg_of LE.out) ?_); simp only [Act.put, List.setIfInBounds_toArray, List.set_cons_zero, List.set_cons_succ]) | ((refine wpQuiet_call (by rfl) 34 _ (fun wx => call_run (by rfl) (by rfl) (enters_of Try.func34 (by kernel_rfl) rfl)) _ (rg_of LA.out) ?_); simp only [Act.put, List.setIfInBounds_toArray, List.set_cons_zero, List.set_cons_succ]) | go_big_quiet_step (fail) | quiet_step (fail))
  refine wpQuiet_nil ?_
  rintro _ ⟨rp, rfl⟩
  have hb7 := below_regrown W6 rp.d rp.os
  generalize Sort.grow (redrawn W6 rp.d) rp.os = w7 at *
  have B7 := Lib.hid (below_up B6.out hb7)
  clear hb7 P1 P2 LL LE LA L0 L1
  go_wp2_with fail
  go_ret
  exact ⟨rfl, B7.out⟩
end Go.Proofs.Ytcaocnlchfbeaaa.Pf
