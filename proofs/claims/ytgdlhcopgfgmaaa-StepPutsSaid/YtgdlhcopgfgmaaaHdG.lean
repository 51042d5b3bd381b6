/- The walks that take a header off a cursor. -/
import Derived.Test.YtgdlhcopgfgmaaaHd
import Derived.Test.YtgdlhcopgfgmaaaCurH
namespace Go.Proofs.Ytgdlhcopgfgmaaa.Hd
open Go.RowKit Go.Proofs.Ytgdlhcopgfgmaaa.Mk Go.Proofs.Ytgdlhcopgfgmaaa.Wd Go.Proofs.Ytgdlhcopgfgmaaa.Cur
open Extern.Stop (cell)
/-- 'copy(dst, s)', s a string that is longer than dst -/
theorem run_copy_cut {P : Program} (w : World) (dT sT ty elem : TypeId) (g o dLen dCap : Nat) (s : ByteArray) (cur : Array Value) (t : TypeId)
    (hu : P.underlying dT = some (.slice elem)) (hs : (P.info? elem).map (·.size) = some 1) (hg : w.heap[g]? = some (.cells cur t (0, 0))) (hle : dLen ≤ s.size) (hfit : o + dLen ≤ cur.size) :
    (Builtin.copy_ #[dT, sT] ty #[.slice (some ⟨g, o, none⟩) dLen dCap, .string s]).run P w =
      .ok (goInt dLen) (w.setRow g (cur.toList.take o ++ hc ((bs s).take dLen) ++ cur.toList.drop (o + dLen)).toArray) := by
  have hlen : (hc ((bs s).take dLen)).length = dLen := by rw [hc_len, List.length_take, bs_len]; omega
  have hst := run_storeCells_at P g o t (hc ((bs s).take dLen)) 0 cur w hg (by rw [hlen]; simpa using hfit) (hc_one' _)
  have hmin : Nat.min s.size dLen = dLen := Nat.min_eq_right hle
  have htk : List.take dLen (List.map (fun b : UInt8 => Value.int IntKind.u8 (b.toNat : Int)) s.data.toList) = hc ((bs s).take dLen) := by
    rw [← List.map_take]
    rfl
  rw [hlen] at hst
  simp only [Nat.add_zero] at hst
  cases hq : P.info? elem with
  | none => simp [hq] at hs
  | some i =>
    simp [Builtin.copy_, run_underlying hu, Builtin.lenOf, Builtin.firstCells, sizeOf, typeInfo, hq, hmin]
    rw [htk, hst]
    simp [Result.andThen]
theorem UHd : (Try.prog.underlying 27).map (fun d => match d with | .struct _ | .array _ _ => true | _ => false) = some true := by kernel_rfl
theorem IHd {h : Hd} (k : h.Ok) : (Try.prog.info? 27).map (·.size) = some h.c.toArray.size := by
  rw [List.size_toArray, Hd.c_len h k]
  kernel_rfl
theorem zero_size {h : Hd} (k : h.Ok) : Try.zeroCells27.size = h.c.toArray.size := by
  rw [show h.c.toArray.size = 66 from by rw [List.size_toArray, Hd.c_len h k]]
  rfl
theorem load_Hd {w : World} {g : Nat} {h : Hd} {t : TypeId} (k : HB g h t w) (o : h.Ok) : (loadVar 27 ⟨g, 0, none⟩).run Try.prog w = .ok h.v w := by
  obtain ⟨d, hd, hr⟩ := Option.map_eq_some_iff.1 UHd
  exact run_loadVar_row (P := Try.prog) w g t _ _ _ d k hd (by cases d <;> simp_all) (IHd o)
theorem wpList_load_Hd {ops : Array Oper} {rest : List Oper} {o : Oper} {a : Act} {w : World} {Q : Exit → Act → World → Prop} (hgd : o.guard = none) (x : Operand) (ho : o.op = .load 27 x) {g : Nat} {h : Hd} {t : TypeId} (hx : a.eval x = .pointer (some ⟨g, 0, none⟩))
    (k : HB g h t w) (hok : h.Ok) (hn : wpList Try.prog ops Q rest (a.put o.dst h.v) w) : wpList Try.prog ops Q (o :: rest) a w := by
  obtain ⟨d, hd, hr⟩ := Option.map_eq_some_iff.1 UHd
  exact wpList_load_row hgd 27 x ho _ hx _ _ _ d k hd (by cases d <;> simp_all) (IHd hok) hn
theorem fill_ln (a n : Nat) (l z t : List UInt8) (hz : z.length = 32) : (Hd.c ⟨a, z, t, n⟩).take 1 ++ hc l ++ (Hd.c ⟨a, z, t, n⟩).drop (1 + 32) = Hd.c ⟨a, l, t, n⟩ := by
  unfold Hd.c
  simp only [List.take_succ_cons, List.take_zero]
  rw [show 1 + 32 = 32 + 1 from rfl, List.drop_succ_cons, List.drop_left' (by rw [hc_len, hz])]
  simp
theorem fill_tx (a n : Nat) (l z t : List UInt8) (hz : z.length = 32) (hl : l.length = 32) : (Hd.c ⟨a, l, z, n⟩).take 33 ++ hc t ++ (Hd.c ⟨a, l, z, n⟩).drop (33 + 32) = Hd.c ⟨a, l, t, n⟩ := by
  unfold Hd.c
  rw [show 33 = 32 + 1 from rfl, List.take_succ_cons, List.take_left' (by rw [hc_len, hl]), show 32 + 1 + 32 = (32 + 32) + 1 from rfl, List.drop_succ_cons, ← List.drop_drop, List.drop_left' (by rw [hc_len, hl]), List.drop_left' (by rw [hc_len, hz])]
  simp
def zH : List UInt8 := List.replicate 32 0
theorem zH_len : zH.length = 32 := by simp [zH]
theorem CU.row {b g : Nat} {c : C} {w : World} (h : CU b c w) (hne : b ≠ g) (cs : Array Value) : CU b c (w.setRow g cs) := (setRow_other _ _ _ _ hne).trans h
theorem But.row {S : Nat → Prop} {a w : World} {g : Nat} (h : But S a w) (hg : a.heap.size ≤ g) (cs : Array Value) : But S a (w.setRow g cs) :=
  ⟨h.os, h.tape, h.output, by simpa [World.setRow] using h.size, fun k hk hn => (setRow_other _ _ _ _ (by omega)).trans (h.block k hk hn)⟩
theorem But.drew {S : Nat → Prop} {a w : World} (h : But S a w) : But S a w.drew := ⟨h.os, h.tape, h.output, h.size, h.block⟩
set_option maxHeartbeats 4000000 in
set_option maxRecDepth 100000 in
theorem get_calls (b : Nat) (c : C) (w : World) (h : CU b c w) (hl : c.b.length ≤ 9223372036854775807) :
    Calls Try.prog 20 #[.pointer (some ⟨b, 0, none⟩)] w fun r w' => r = .returned (getC c).1.v ∧ CU b (getC c).2 w' ∧ CW b w w' := by
  have hb := h.lt
  have hne : w.heap.size ≠ b := by omega
  have HRa := Lib.hid (fun W (hW : CU b c W) => raw_calls b c 76 W hW hl (by omega))
  have h76 := raw76 c
  have hgc : getC c = (if (rawC c 76).1 = [] then hd0 else Hd.of (rawC c 76).1, (rawC c 76).2) := rfl
  generalize rawC c 76 = x at *
  obtain ⟨s, d⟩ := x
  simp only at h76 hgc
  have Hgc := Lib.hid hgc
  clear hgc
  have H := Lib.hid h
  clear h
  go_enter Try.func20, Try.ntmps20
  go_wp2_with fail
  generalize hW : World.alloc w _ = W0
  have z0 : HB w.heap.size hd0 27 W0 := by
    rw [← hW]
    exact heap_new w _
  have hB0 : Below w.heap.size w W0 := by
    rw [← hW]
    exact (Below.refl _ _).alloc (Nat.le_refl _) _
  have hsz : W0.heap.size = w.heap.size + 1 := by rw [← hW]; simp
  clear hW
  refine (HRa.out W0 (H.out.keep hB0)).mono ?_
  rintro r w1 ⟨rfl, hu1, hw1⟩
  have y0 : HB w.heap.size hd0 27 w1 := (hw1.block _ (by omega) hne).trans z0
  have Hu1 := Lib.hid hu1
  have HW1 := Lib.hid (hw1.trans (But.refl (fun _ => False) _) (fun _ _ f => f.elim))
  have Y0 := Lib.hid y0
  have HB0 := Lib.hid (And.intro hB0 hsz)
  have hs1 := hw1.size
  clear z0 y0 hu1 hw1 hB0
  rcases h76 with hs | hs
  · subst hs
    rw [ba_nil]
    go_wp2_with (first | (refine wpList_store_row rfl 27 _ _ rfl w.heap.size hd0.c.toArray rfl rfl _ _ Y0.out (IHd hd0_ok) rfl (Hd.c_one _) ?_))
    have Y1 : HB w.heap.size hd0 27 (w1.setRow w.heap.size hd0.c.toArray) := setRow_heap _ _ _ _ _ _ Y0.out
    refine bodyPost_ret (results_cell 2 27 ⟨w.heap.size, 0, none⟩ hd0.v rfl rfl (load_Hd Y1 hd0_ok)) rfl ?_
    refine ⟨by rw [Hgc.out]; simp only [if_true], by rw [Hgc.out]; exact CU.row Hu1.out (by omega) _, But.row ?_ (Nat.le_refl _) _⟩
    exact (But.of_below HB0.out.1).trans HW1.out (fun _ _ e => e)
  · have hz : (ba s).size = 76 := by rw [ba_size, hs]
    have ht : (ba s).toList.isEmpty = false := by
      rw [bs_toList, bs_ba]
      cases s
      · simp at hs
      · rfl
    have HT0 := Lib.hid (show ∀ w, Calls Try.prog 56 #[.string (ba s), .int .i64 0] w fun e w' => e = .returned (.int .u32 (beN ((s.drop 0).take 4))) ∧ w' = w from fun w => take32_calls (ba s) 0 w (by omega) (by omega))
    have HT1 := Lib.hid (show ∀ w, Calls Try.prog 57 #[.string (ba s), .int .i64 68] w fun e w' => e = .returned (.int .u64 (beN ((s.drop 68).take 8))) ∧ w' = w from fun w => take64_calls (ba s) 68 w (by omega) (by omega))
    have hgo : Hid ((getC c).1 = Hd.of s ∧ (getC c).2 = d) := Lib.hid (by rw [Hgc.out, if_neg (by intro e; rw [e] at hs; simp at hs)]; exact ⟨rfl, rfl⟩)
    have hof : Hd.of s = ⟨beN ((s.drop 0).take 4), (s.drop 4).take 32, (s.drop 36).take 32, beN ((s.drop 68).take 8)⟩ := rfl
    have hok := Hd.of_ok s hs
    rw [hof] at hok
    have l1 : ((s.drop 4).take 32).length = 32 := hok.2.1
    have l2 : ((s.drop 36).take 32).length = 32 := hok.2.2.1
    have x1 : (bs ((ba s).extract 4 76)).take 32 = (s.drop 4).take 32 := by rw [drop_extract s 4 76 hs.symm, bs_ba]
    have x2 : (bs ((ba s).extract 36 76)).take 32 = (s.drop 36).take 32 := by rw [drop_extract s 36 76 hs.symm, bs_ba]
    have Hof := Lib.hid hof
    generalize beN ((s.drop 0).take 4) = a at *
    generalize beN ((s.drop 68).take 8) = n at *
    generalize (s.drop 4).take 32 = ln at *
    generalize (s.drop 36).take 32 = tx at *
    have hok1 : Hd.Ok ⟨a, zH, zH, n⟩ := ⟨hok.1, zH_len, zH_len, hok.2.2.2⟩
    have hok2 : Hd.Ok ⟨a, ln, zH, n⟩ := ⟨hok.1, l1, zH_len, hok.2.2.2⟩
    have z4 : ((ba s).extract 4 76).size = 72 := by rw [ByteArray.size_extract, hz]; rfl
    have z36 : ((ba s).extract 36 76).size = 40 := by rw [ByteArray.size_extract, hz]; rfl
    have Hok := Lib.hid (And.intro hok (And.intro hok1 hok2))
    have Hl := Lib.hid (And.intro l1 l2)
    have HX := Lib.hid (And.intro x1 (And.intro x2 (And.intro z4 z36)))
    generalize ba s = S at *
    clear hof hok hok1 hok2 l1 l2 x1 x2 z4 z36 hs
    go_wp2_with fail
    refine (HT0.out _).mono ?_
    rintro r w2 ⟨rfl, rfl⟩
    go_wp2_with fail
    refine (HT1.out _).mono ?_
    rintro r w2 ⟨rfl, rfl⟩
    go_wp2_with (first | (refine wpList_store_last rfl 27 _ _ rfl _ (Hd.c ⟨a, zH, zH, n⟩).toArray rfl rfl (IHd Hok.out.2.1) (by rfl) (Hd.c_one _) ?_))
    have g0 : HB w2.heap.size ⟨a, zH, zH, n⟩ 27 (w2.alloc (.cells (Hd.c ⟨a, zH, zH, n⟩).toArray 27)) := heap_new _ _
    have hc1 := run_copy_cut (P := Try.prog) (w2.alloc (.cells (Hd.c ⟨a, zH, zH, n⟩).toArray 27)).drew 89 9 3 5 w2.heap.size 1 32 32 (S.extract 4 76) _ _ Try.underlying89 rowByte g0 (by rw [HX.out.2.2.1]; decide) (by rw [List.size_toArray, Hd.c_len _ Hok.out.2.1]; decide)
    rw [HX.out.1, List.toList_toArray, fill_ln a n ln zH zH zH_len] at hc1
    have g1 : HB w2.heap.size ⟨a, ln, zH, n⟩ 27 ((w2.alloc (.cells (Hd.c ⟨a, zH, zH, n⟩).toArray 27)).drew.setRow w2.heap.size (Hd.c ⟨a, ln, zH, n⟩).toArray) := setRow_heap _ _ _ _ _ _ g0
    have hc2 := run_copy_cut (P := Try.prog) ((w2.alloc (.cells (Hd.c ⟨a, zH, zH, n⟩).toArray 27)).drew.setRow w2.heap.size (Hd.c ⟨a, ln, zH, n⟩).toArray).drew 89 9 3 5 w2.heap.size 33 32 32 (S.extract 36 76) _ _ Try.underlying89 rowByte g1 (by rw [HX.out.2.2.2]; decide) (by rw [List.size_toArray, Hd.c_len _ Hok.out.2.2]; decide)
    rw [HX.out.2.1, List.toList_toArray, fill_tx a n ln zH tx zH_len Hl.out.1] at hc2
    have g2 : HB w2.heap.size ⟨a, ln, tx, n⟩ 27 (((w2.alloc (.cells (Hd.c ⟨a, zH, zH, n⟩).toArray 27)).drew.setRow w2.heap.size (Hd.c ⟨a, ln, zH, n⟩).toArray).drew.setRow w2.heap.size (Hd.c ⟨a, ln, tx, n⟩).toArray) := setRow_heap _ _ _ _ _ _ g1
    have HC1 := Lib.hid hc1
    have HC2 := Lib.hid hc2
    have G2 := Lib.hid g2
    have hlt : w.heap.size < w2.heap.size := by omega
    have Hlt := Lib.hid hlt
    have w36 : IntKind.i64.wrap 36 = 36 := by decide
    clear g0 g1 g2 hc1 hc2 hlt
    go_region_law (first | (refine step_copy_run rfl (.tmp 17) (.tmp 19) 89 9 rfl _ _ rfl rfl HC1.out ?_))
    go_wp2_with fail
    have hc2 := HC2.out
    go_region_law (fail)
    clear hc2
    generalize hW6 : World.setRow _ w2.heap.size (Hd.c ⟨a, ln, tx, n⟩).toArray = W6 at *
    have HB6 : But (fun k => k = b) W0 W6 := by
      rw [← hW6]
      exact But.row (But.drew (But.row (But.drew (But.alloc HW1.out _)) (by omega) _)) (by omega) _
    have HU6 : CU b d W6 := by
      have hbl : b < w2.heap.size := by omega
      rw [← hW6]
      exact CU.row (CU.row (Hu1.out.keep ((Below.refl _ _).alloc (Nat.le_refl _) _)) (by omega) _) (by omega) _
    have Y6 : HB w.heap.size hd0 27 W6 := by
      rw [← hW6]
      exact (setRow_other _ _ _ _ (by omega)).trans ((setRow_other _ _ _ _ (by omega)).trans ((Below.heap_alloc _ _ _ (by omega)).trans Y0.out))
    have Hu6 := Lib.hid HU6
    have Hb6 := Lib.hid HB6
    have HY6 := Lib.hid Y6
    have G2' := Lib.hid (show W6.heap[w2.heap.size]? = some (.cells (Hd.c ⟨a, ln, tx, n⟩).toArray 27 (0, 0)) from G2.out)
    have HY6' := Lib.hid (show W6.heap[w.heap.size]? = some (.cells hd0.c.toArray 27 (0, 0)) from Y6)
    have I6 := Lib.hid (IHd Hok.out.1)
    have S6 := Lib.hid (show hd0.c.toArray.size = (Hd.c ⟨a, ln, tx, n⟩).toArray.size by rw [List.size_toArray, List.size_toArray, Hd.c_len _ hd0_ok, Hd.c_len _ Hok.out.1])
    have O6 := Lib.hid (Hd.c_one ⟨a, ln, tx, n⟩)
    clear hW6 HU6 HB6 Y6 HC1 HC2
    go_wp2_with (first | (refine wpList_load_Hd rfl (.tmp 4) rfl rfl G2.out Hok.out.1 ?_) | (refine wpList_store_row rfl 27 _ _ rfl w.heap.size (Hd.c ⟨a, ln, tx, n⟩).toArray rfl rfl _ _ HY6'.out I6.out S6.out O6.out ?_))
    have Y7 : HB w.heap.size ⟨a, ln, tx, n⟩ 27 (W6.setRow w.heap.size (Hd.c ⟨a, ln, tx, n⟩).toArray) := setRow_heap _ _ _ _ _ _ HY6.out
    refine bodyPost_ret (results_cell 2 27 ⟨w.heap.size, 0, none⟩ _ rfl rfl (load_Hd Y7 Hok.out.1)) rfl ?_
    refine ⟨by rw [hgo.out.1, Hof.out], by rw [hgo.out.2]; exact CU.row Hu6.out (by omega) _, But.row ?_ (Nat.le_refl _) _⟩
    exact (But.of_below HB0.out.1).trans Hb6.out (fun _ _ e => e)
end Go.Proofs.Ytgdlhcopgfgmaaa.Hd
