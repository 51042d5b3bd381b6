import Derived.Test.YtcaocnlchfbeaaaBc
import Derived.Test.YtcaocnlchfbeaaaBd
import Derived.ChangeKeysEq
import Derived.Test.YtcaocnlchfbeaaaBa
/- The walks that take a header off a cursor. -/
namespace Go.Proofs.Ytcaocnlchfbeaaa.Hd
open Go.RowKit Go.Proofs.Ytcaocnlchfbeaaa.Mk Go.Proofs.Ytcaocnlchfbeaaa.Wd Go.Proofs.Ytcaocnlchfbeaaa.Cur
open Extern.Stop (cell)
/-- 'copy(dst, s)', s a string that is longer than dst -/
theorem run_copy_cut {P : Program} (w : World) (dT sT ty elem : TypeId) (g o dLen dCap : Nat) (s : ByteArray) (cur : Array Value) (t : TypeId)
    (hu : P.underlying dT = some (.slice elem)) (hs : (P.info? elem).map (·.size) = some 1) (hg : w.heap[g]? = some (.cells cur t (0, 0))) (hle : dLen ≤ s.size) (hfit : o + dLen ≤ cur.size) :
    (Builtin.copy_ #[dT, sT] ty #[.slice (some ⟨g, o, none⟩) dLen dCap, .string s]).run P w =
      .ok (goInt dLen) (w.setRow g (cur.toList.take o ++ hc ((bs s).take dLen) ++ cur.toList.drop (o + dLen)).toArray) := by
  have hlen : (hc ((bs s).take dLen)).length = dLen := by rw [hc_len, List.length_take, bs_len]; omega
  have hst := run_storeCells_at P g o t (hc ((bs s).take dLen)) 0 cur w hg (by rw [hlen]; simpa using hfit) (hc_one' _)
  have hmin : Nat.min s.size dLen = dLen := Nat.min_eq_right hle
  have htk : List.take dLen (List.map (fun b : UInt8 => Value.int IntKind.u8 (b.toNat : Int)) s.data.toList) = hc ((bs s).take dLen) := by
    rw [← List.map_take]
    rfl
  rw [hlen] at hst
  simp only [Nat.add_zero] at hst
  cases hq : P.info? elem with
  | none => simp [hq] at hs
  | some i =>
    simp [Builtin.copy_, run_underlying hu, Builtin.lenOf, Builtin.firstCells, sizeOf, typeInfo, hq, hmin]
    rw [htk, hst]
    simp [Result.andThen]
theorem UHd : (Try.prog.underlying 38).map (fun d => match d with | .struct _ | .array _ _ => true | _ => false) = some true := by kernel_rfl
theorem IHd {h : Hd} (k : h.Ok) : (Try.prog.info? 38).map (·.size) = some h.c.toArray.size := by
  rw [List.size_toArray, Hd.c_len h k]
  kernel_rfl
theorem zero_size {h : Hd} (k : h.Ok) : Try.zeroCells38.size = h.c.toArray.size := by
  rw [show h.c.toArray.size = 66 from by rw [List.size_toArray, Hd.c_len h k]]
  rfl
theorem load_Hd {w : World} {g : Nat} {h : Hd} {t : TypeId} (k : HB g h t w) (o : h.Ok) : (loadVar 38 ⟨g, 0, none⟩).run Try.prog w = .ok h.v w := by
  obtain ⟨d, hd, hr⟩ := Option.map_eq_some_iff.1 UHd
  exact run_loadVar_row (P := Try.prog) w g t _ _ _ d k hd (by cases d <;> simp_all) (IHd o)
theorem wpList_load_Hd {ops : Array Oper} {rest : List Oper} {o : Oper} {a : Act} {w : World} {Q : Exit → Act → World → Prop} (hgd : o.guard = none) (x : Operand) (ho : o.op = .load 38 x) {g : Nat} {h : Hd} {t : TypeId} (hx : a.eval x = .pointer (some ⟨g, 0, none⟩))
    (k : HB g h t w) (hok : h.Ok) (hn : wpList Try.prog ops Q rest (a.put o.dst h.v) w) : wpList Try.prog ops Q (o :: rest) a w := by
  obtain ⟨d, hd, hr⟩ := Option.map_eq_some_iff.1 UHd
  exact wpList_load_row hgd 38 x ho _ hx _ _ _ d k hd (by cases d <;> simp_all) (IHd hok) hn
theorem fill_ln (a n : Nat) (l z t : List UInt8) (hz : z.length = 32) : (Hd.c ⟨a, z, t, n⟩).take 1 ++ hc l ++ (Hd.c ⟨a, z, t, n⟩).drop (1 + 32) = Hd.c ⟨a, l, t, n⟩ := by
  unfold Hd.c
  simp only [List.take_succ_cons, List.take_zero]
  rw [show 1 + 32 = 32 + 1 from rfl, List.drop_succ_cons, List.drop_left' (by rw [hc_len, hz])]
  simp
theorem fill_tx (a n : Nat) (l z t : List UInt8) (hz : z.length = 32) (hl : l.length = 32) : (Hd.c ⟨a, l, z, n⟩).take 33 ++ hc t ++ (Hd.c ⟨a, l, z, n⟩).drop (33 + 32) = Hd.c ⟨a, l, t, n⟩ := by
  unfold Hd.c
  rw [show 33 = 32 + 1 from rfl, List.take_succ_cons, List.take_left' (by rw [hc_len, hl]), show 32 + 1 + 32 = (32 + 32) + 1 from rfl, List.drop_succ_cons, ← List.drop_drop, List.drop_left' (by rw [hc_len, hl]), List.drop_left' (by rw [hc_len, hz])]
  simp
def zH : List UInt8 := List.replicate 32 0
theorem zH_len : zH.length = 32 := by simp [zH]
theorem CU.row {b g : Nat} {c : C} {w : World} (h : CU b c w) (hne : b ≠ g) (cs : Array Value) : CU b c (w.setRow g cs) := (setRow_other _ _ _ _ hne).trans h
theorem But.row {S : Nat → Prop} {a w : World} {g : Nat} (h : But S a w) (hg : a.heap.size ≤ g) (cs : Array Value) : But S a (w.setRow g cs) :=
  ⟨h.os, h.tape, h.output, by simpa [World.setRow] using h.size, fun k hk hn => (setRow_other _ _ _ _ (by omega)).trans (h.block k hk hn)⟩
theorem But.drew {S : Nat → Prop} {a w : World} (h : But S a w) : But S a w.drew := ⟨h.os, h.tape, h.output, h.size, h.block⟩
set_option maxHeartbeats 4000000 in
set_option maxRecDepth 100000 in
theorem get_calls (b : Nat) (c : C) (w : World) (h : CU b c w) (hl : c.b.length ≤ 9223372036854775807) :
    Calls Try.prog 64 #[.pointer (some ⟨b, 0, none⟩)] w fun r w' => r = .returned (getC c).1.v ∧ CU b (getC c).2 w' ∧ CW b w w' := by
  have hb := h.lt
  have hne : w.heap.size ≠ b := by omega
  have HRa := Lib.hid (fun W (hW : CU b c W) => raw_calls b c 76 W hW hl (by omega))
  have h76 := raw76 c
  have hgc : getC c = (if (rawC c 76).1 = [] then hd0 else Hd.of (rawC c 76).1, (rawC c 76).2) := rfl
  generalize rawC c 76 = x at *
  obtain ⟨s, d⟩ := x
  simp only at h76 hgc
  have Hgc := Lib.hid hgc
  clear hgc
  have H := Lib.hid h
  clear h
  go_enter Try.func64, Try.ntmps64
  go_wp2_with fail
  generalize hW : World.alloc w _ = W0
  have z0 : HB w.heap.size hd0 38 W0 := by
    rw [← hW]
    exact heap_new w _
  have hB0 : Below w.heap.size w W0 := by
    rw [← hW]
    exact (Below.refl _ _).alloc (Nat.le_refl _) _
  have hsz : W0.heap.size = w.heap.size + 1 := by rw [← hW]; simp
  clear hW
  refine (HRa.out W0 (H.out.keep hB0)).mono ?_
  rintro r w1 ⟨rfl, hu1, hw1⟩
  have y0 : HB w.heap.size hd0 38 w1 := (hw1.block _ (by omega) hne).trans z0
  have Hu1 := Lib.hid hu1
  have HW1 := Lib.hid (hw1.trans (But.refl (fun _ => False) _) (fun _ _ f => f.elim))
  have Y0 := Lib.hid y0
  have HB0 := Lib.hid (And.intro hB0 hsz)
  have hs1 := hw1.size
  clear z0 y0 hu1 hw1 hB0
  rcases h76 with hs | hs
  · subst hs
    rw [ba_nil]
    go_wp2_with (first | (refine wpList_store_row rfl 38 _ _ rfl w.heap.size hd0.c.toArray rfl rfl _ _ Y0.out (IHd hd0_ok) rfl (Hd.c_one _) ?_))
    have Y1 : HB w.heap.size hd0 38 (w1.setRow w.heap.size hd0.c.toArray) := setRow_heap _ _ _ _ _ _ Y0.out
    refine bodyPost_ret (results_cell 2 38 ⟨w.heap.size, 0, none⟩ hd0.v rfl rfl (load_Hd Y1 hd0_ok)) rfl ?_
    refine ⟨by rw [Hgc.out]; simp only [if_true], by rw [Hgc.out]; exact CU.row Hu1.out (by omega) _, But.row ?_ (Nat.le_refl _) _⟩
    exact (But.of_below HB0.out.1).trans HW1.out (fun _ _ e => e)
  · have hz : (ba s).size = 76 := by rw [ba_size, hs]
    have ht : (ba s).toList.isEmpty = false := by
      rw [bs_toList, bs_ba]
      cases s
      · simp at hs
      · rfl
    have HT0 := Lib.hid (show ∀ w, Calls Try.prog 93 #[.string (ba s), .int .i64 0] w fun e w' => e = .returned (.int .u32 (beN ((s.drop 0).take 4))) ∧ w' = w from fun w => take32_calls (ba s) 0 w (by omega) (by omega))
    have HT1 := Lib.hid (show ∀ w, Calls Try.prog 94 #[.string (ba s), .int .i64 68] w fun e w' => e = .returned (.int .u64 (beN ((s.drop 68).take 8))) ∧ w' = w from fun w => take64_calls (ba s) 68 w (by omega) (by omega))
    have hgo : Hid ((getC c).1 = Hd.of s ∧ (getC c).2 = d) := Lib.hid (by rw [Hgc.out, if_neg (by intro e; rw [e] at hs; simp at hs)]; exact ⟨rfl, rfl⟩)
    have hof : Hd.of s = ⟨beN ((s.drop 0).take 4), (s.drop 4).take 32, (s.drop 36).take 32, beN ((s.drop 68).take 8)⟩ := rfl
    have hok := Hd.of_ok s hs
    rw [hof] at hok
    have l1 : ((s.drop 4).take 32).length = 32 := hok.2.1
    have l2 : ((s.drop 36).take 32).length = 32 := hok.2.2.1
    have x1 : (bs ((ba s).extract 4 76)).take 32 = (s.drop 4).take 32 := by rw [drop_extract s 4 76 hs.symm, bs_ba]
    have x2 : (bs ((ba s).extract 36 76)).take 32 = (s.drop 36).take 32 := by rw [drop_extract s 36 76 hs.symm, bs_ba]
    have Hof := Lib.hid hof
    generalize beN ((s.drop 0).take 4) = a at *
    generalize beN ((s.drop 68).take 8) = n at *
    generalize (s.drop 4).take 32 = ln at *
    generalize (s.drop 36).take 32 = tx at *
    have hok1 : Hd.Ok ⟨a, zH, zH, n⟩ := ⟨hok.1, zH_len, zH_len, hok.2.2.2⟩
    have hok2 : Hd.Ok ⟨a, ln, zH, n⟩ := ⟨hok.1, l1, zH_len, hok.2.2.2⟩
    have z4 : ((ba s).extract 4 76).size = 72 := by rw [ByteArray.size_extract, hz]; rfl
    have z36 : ((ba s).extract 36 76).size = 40 := by rw [ByteArray.size_extract, hz]; rfl
    have Hok := Lib.hid (And.intro hok (And.intro hok1 hok2))
    have Hl := Lib.hid (And.intro l1 l2)
    have HX := Lib.hid (And.intro x1 (And.intro x2 (And.intro z4 z36)))
    generalize ba s = S at *
    clear hof hok hok1 hok2 l1 l2 x1 x2 z4 z36 hs
    go_wp2_with fail
    refine (HT0.out _).mono ?_
    rintro r w2 ⟨rfl, rfl⟩
    go_wp2_with fail
    refine (HT1.out _).mono ?_
    rintro r w2 ⟨rfl, rfl⟩
    go_wp2_with (first | (refine wpList_store_last rfl 38 _ _ rfl _ (Hd.c ⟨a, zH, zH, n⟩).toArray rfl rfl (IHd Hok.out.2.1) (by rfl) (Hd.c_one _) ?_))
    have g0 : HB w2.heap.size ⟨a, zH, zH, n⟩ 38 (w2.alloc (.cells (Hd.c ⟨a, zH, zH, n⟩).toArray 38)) := heap_new _ _
    have hc1 := run_copy_cut (P := Try.prog) (w2.alloc (.cells (Hd.c ⟨a, zH, zH, n⟩).toArray 38)).drew 110 9 3 5 w2.heap.size 1 32 32 (S.extract 4 76) _ _ Try.underlying110 rowByte g0 (by rw [HX.out.2.2.1]; decide) (by rw [List.size_toArray, Hd.c_len _ Hok.out.2.1]; decide)
    rw [HX.out.1, List.toList_toArray, fill_ln a n ln zH zH zH_len] at hc1
    have g1 : HB w2.heap.size ⟨a, ln, zH, n⟩ 38 ((w2.alloc (.cells (Hd.c ⟨a, zH, zH, n⟩).toArray 38)).drew.setRow w2.heap.size (Hd.c ⟨a, ln, zH, n⟩).toArray) := setRow_heap _ _ _ _ _ _ g0
    have hc2 := run_copy_cut (P := Try.prog) ((w2.alloc (.cells (Hd.c ⟨a, zH, zH, n⟩).toArray 38)).drew.setRow w2.heap.size (Hd.c ⟨a, ln, zH, n⟩).toArray).drew 110 9 3 5 w2.heap.size 33 32 32 (S.extract 36 76) _ _ Try.underlying110 rowByte g1 (by rw [HX.out.2.2.2]; decide) (by rw [List.size_toArray, Hd.c_len _ Hok.out.2.2]; decide)
    rw [HX.out.2.1, List.toList_toArray, fill_tx a n ln zH tx zH_len Hl.out.1] at hc2
    have g2 : HB w2.heap.size ⟨a, ln, tx, n⟩ 38 (((w2.alloc (.cells (Hd.c ⟨a, zH, zH, n⟩).toArray 38)).drew.setRow w2.heap.size (Hd.c ⟨a, ln, zH, n⟩).toArray).drew.setRow w2.heap.size (Hd.c ⟨a, ln, tx, n⟩).toArray) := setRow_heap _ _ _ _ _ _ g1
    have HC1 := Lib.hid hc1
    have HC2 := Lib.hid hc2
    have G2 := Lib.hid g2
    have hlt : w.heap.size < w2.heap.size := by omega
    have Hlt := Lib.hid hlt
    have w36 : IntKind.i64.wrap 36 = 36 := by decide
    clear g0 g1 g2 hc1 hc2 hlt
    have QQ := HC1.out
    go_region_law (first | (refine step_copy_run rfl (.tmp 17) (.tmp 19) 110 9 rfl _ _ rfl rfl HC1.out ?_))
    clear QQ
    go_wp2_with fail
    have hc2 := HC2.out
    go_region_law (fail)
    clear hc2
    generalize hW6 : World.setRow _ w2.heap.size (Hd.c ⟨a, ln, tx, n⟩).toArray = W6 at *
    have HB6 : But (fun k => k = b) W0 W6 := by
      rw [← hW6]
      exact But.row (But.drew (But.row (But.drew (But.alloc HW1.out _)) (by omega) _)) (by omega) _
    have HU6 : CU b d W6 := by
      have hbl : b < w2.heap.size := by omega
      rw [← hW6]
      exact CU.row (CU.row (Hu1.out.keep ((Below.refl _ _).alloc (Nat.le_refl _) _)) (by omega) _) (by omega) _
    have Y6 : HB w.heap.size hd0 38 W6 := by
      rw [← hW6]
      exact (setRow_other _ _ _ _ (by omega)).trans ((setRow_other _ _ _ _ (by omega)).trans ((Below.heap_alloc _ _ _ (by omega)).trans Y0.out))
    have Hu6 := Lib.hid HU6
    have Hb6 := Lib.hid HB6
    have HY6 := Lib.hid Y6
    have G2' := Lib.hid (show W6.heap[w2.heap.size]? = some (.cells (Hd.c ⟨a, ln, tx, n⟩).toArray 38 (0, 0)) from G2.out)
    have HY6' := Lib.hid (show W6.heap[w.heap.size]? = some (.cells hd0.c.toArray 38 (0, 0)) from Y6)
    have I6 := Lib.hid (IHd Hok.out.1)
    have S6 := Lib.hid (show hd0.c.toArray.size = (Hd.c ⟨a, ln, tx, n⟩).toArray.size by rw [List.size_toArray, List.size_toArray, Hd.c_len _ hd0_ok, Hd.c_len _ Hok.out.1])
    have O6 := Lib.hid (Hd.c_one ⟨a, ln, tx, n⟩)
    clear hW6 HU6 HB6 Y6 HC1 HC2
    go_wp2_with (first | (refine wpList_load_Hd rfl (.tmp 4) rfl rfl G2.out Hok.out.1 ?_) | (refine wpList_store_row rfl 38 _ _ rfl w.heap.size (Hd.c ⟨a, ln, tx, n⟩).toArray rfl rfl _ _ HY6'.out I6.out S6.out O6.out ?_))
    have Y7 : HB w.heap.size ⟨a, ln, tx, n⟩ 38 (W6.setRow w.heap.size (Hd.c ⟨a, ln, tx, n⟩).toArray) := setRow_heap _ _ _ _ _ _ HY6.out
    refine bodyPost_ret (results_cell 2 38 ⟨w.heap.size, 0, none⟩ _ rfl rfl (load_Hd Y7 Hok.out.1)) rfl ?_
    refine ⟨by rw [hgo.out.1, Hof.out], by rw [hgo.out.2]; exact CU.row Hu6.out (by omega) _, But.row ?_ (Nat.le_refl _) _⟩
    exact (But.of_below HB0.out.1).trans Hb6.out (fun _ _ e => e)
end Go.Proofs.Ytcaocnlchfbeaaa.Hd

/- The walk of the document's Get: a header off its cursor (a value). -/
namespace Go.Proofs.Ytcaocnlchfbeaaa.Hd
open Go.RowKit Go.Proofs.Ytcaocnlchfbeaaa.Mk Go.Proofs.Ytcaocnlchfbeaaa.Wd Go.Proofs.Ytcaocnlchfbeaaa.Cur
open Extern.Stop (cell)
theorem step_value {P : Program} {ops : Array Oper} {o : Oper} {a : Act} {w : World} {K : Act → World → Prop} {Q : Exit → Act → World → Prop} {E : Prop} (hg : o.guard = none) (v : Value) (hr : (execOp a.eval o).run P w = .ok (.value v) w) (hK : K (a.put o.dst v) w) :
    if Region.wanted o (yielded ops a.tmps) = true then Oper.wp P o a w K Q else E := by
  rw [if_pos (by simp [Region.wanted, hg])]
  unfold Oper.wp
  rw [hr]
  exact hK
theorem row_set (a n : Nat) (l t : List UInt8) (k : Nat) (hl : l.length = 32) (ht : t.length = 32) (hk : k < 32) :
    ((Hd.c ⟨a, Cur.part l k, Cur.part t k, n⟩).set (1 + k) (.int .u8 ((l[k]'(by omega)).toNat : Int))).set (33 + k) (.int .u8 ((t[k]'(by omega)).toNat : Int)) = Hd.c ⟨a, Cur.part l (k + 1), Cur.part t (k + 1), n⟩ := by
  have p1 : (hc (Cur.part l k)).length = 32 := by rw [hc_len, Cur.part_len l k (by omega) (by omega)]
  have p2 : (hc (Cur.part t k)).length = 32 := by rw [hc_len, Cur.part_len t k (by omega) (by omega)]
  have p3 : (hc (Cur.part l (k + 1))).length = 32 := by rw [hc_len, Cur.part_len l (k + 1) (by omega) (by omega)]
  unfold Hd.c
  simp only
  rw [Nat.add_comm 1 k, List.set_cons_succ, show 33 + k = (32 + k) + 1 by omega, List.set_cons_succ, List.set_append_left _ _ (by rw [p1]; exact hk), Cur.part_set l k (by omega) (by omega), List.set_append_right _ _ (by omega), p3, show 32 + k - 32 = k by omega, List.set_append_left _ _ (by rw [p2]; exact hk), Cur.part_set t k (by omega) (by omega)]
theorem loadAt_Hd {w : World} {g : Nat} {h : Hd} {t : TypeId} (k : HB g h t w) (o : h.Ok) : (Instr.loadAt 38 (.pointer (some ⟨g, 0, none⟩))).run Try.prog w = .ok h.v w := by
  simp only [Instr.loadAt, Instr.sureAddr, Sem.run_bind, Sem.run_pure, Result.andThen_ok, load_Hd k o]
theorem build_Hd {o : Oper} {a : Act} {w : World} (ho : o.op = .build 38 #[]) : (execOp a.eval o).run Try.prog w = .ok (.value hd0.v) w := by
  unfold execOp
  simp only [ho]
  kernel_rfl
/-- what lies where in the loop -/
def RQ (gh gc : Nat) (x : Hd) (d : C) (w wr : World) : Prop := HB gh x 38 wr ∧ HB (w.heap.size + 1) hd0 38 wr ∧ wr.heap[w.heap.size + 2]? = some (.cells zC 45 (0, 0)) ∧
  wr.heap[gc]? = some (.cells #[.string (ba d.b), .int .i64 d.e] 45 (0, 0)) ∧ Below w.heap.size w wr
set_option maxHeartbeats 8000000 in
set_option maxRecDepth 100000 in
theorem rget_calls (c : C) (w : World) (hl : c.b.length ≤ 9223372036854775807) :
    Calls Try.prog 60 #[cV c] w fun r w' => r = .returned (.tuple #[(getC c).1.v, cV (getC c).2]) ∧ Below w.heap.size w w' := by
  have HR := Lib.hid (fun w => rraw_calls c 76 w hl (by omega))
  have h76 := raw76 c
  have hgc : getC c = (if (rawC c 76).1 = [] then hd0 else Hd.of (rawC c 76).1, (rawC c 76).2) := rfl
  generalize rawC c 76 = x at *
  obtain ⟨s, d⟩ := x
  simp only at h76 hgc
  have Hgc := Lib.hid hgc
  clear hgc
  unfold cV cC at *
  go_enter Try.func60, Try.ntmps60
  go_wp2_with fail
  generalize hW : World.alloc (World.alloc (World.alloc w _) _) _ = W0
  have z1 : HB (w.heap.size + 1) hd0 38 W0 := by
    rw [← hW]
    exact (Below.heap_alloc _ _ _ (by simp)).trans (heap_new2 _ _ _)
  have z2 : W0.heap[w.heap.size + 2]? = some (.cells zC 45 (0, 0)) := by
    rw [← hW]
    have h3 := heap_new ((w.alloc (.cells #[.string (ba c.b), .int .i64 c.e] 45)).alloc (.cells hd0.c.toArray 38)) (.cells zC 45)
    rw [World.size_alloc, World.size_alloc] at h3
    exact h3
  have hB0 : Below w.heap.size w W0 := by
    rw [← hW]
    exact (below2 _ _ _).alloc (by simp <;> omega) _
  have hsz : W0.heap.size = w.heap.size + 3 := by rw [← hW]; simp
  clear hW
  refine (HR.out _).mono ?_
  rintro r w1 ⟨rfl, hb1⟩
  have hs1 : W0.heap.size ≤ w1.heap.size := hb1.size
  have Y1 := z1.keep hb1
  have Y2 := (hb1.block _ (by omega)).trans z2
  have HB1 := Lib.hid (hB0.trans (hb1.mono (by omega)))
  have S1 := Lib.hid (And.intro Y1 (And.intro Y2 (show w.heap.size + 3 ≤ w1.heap.size by omega)))
  clear z1 z2 hB0 hb1 Y1 Y2 hsz hs1
  rcases h76 with hs | hs
  · subst hs
    rw [ba_nil]
    go_wp2_with fail
    obtain ⟨Y1, Y2, hs1⟩ := S1.out
    have N1 : HB (w.heap.size + 1) hd0 38 (w1.alloc (.cells #[.string (ba d.b), .int .i64 d.e] 45)).drew := (Below.heap_alloc _ _ _ (by omega)).trans Y1
    have N2 : (w1.alloc (.cells #[.string (ba d.b), .int .i64 d.e] 45)).drew.heap[w.heap.size + 2]? = some (.cells zC 45 (0, 0)) := (Below.heap_alloc _ _ _ (by omega)).trans Y2
    have N3 : (w1.alloc (.cells #[.string (ba d.b), .int .i64 d.e] 45)).drew.heap[w1.heap.size]? = some (.cells #[.string (ba d.b), .int .i64 d.e] 45 (0, 0)) := heap_new _ _
    have NB : Below w.heap.size w (w1.alloc (.cells #[.string (ba d.b), .int .i64 d.e] 45)).drew := (HB1.out.alloc (by omega) _).drew
    generalize hV : (w1.alloc (.cells #[.string (ba d.b), .int .i64 d.e] 45)).drew = V at *
    have LC := Lib.hid (loadAt_C N3)
    have SA := Lib.hid (run_storeAt_row (P := Try.prog) (ty := 38) (cells := hd0.c.toArray) N1 (IHd hd0_ok) rfl (Hd.c_one _))
    have N3' : (V.setRow (w.heap.size + 1) hd0.c.toArray).heap[w1.heap.size]? = some (.cells #[.string (ba d.b), .int .i64 d.e] 45 (0, 0)) := (setRow_other _ _ _ _ (by omega)).trans N3
    have LC2 := Lib.hid (loadAt_C N3')
    have N2' : (V.setRow (w.heap.size + 1) hd0.c.toArray).heap[w.heap.size + 2]? = some (.cells zC 45 (0, 0)) := (setRow_other _ _ _ _ (by omega)).trans N2
    have SC := Lib.hid (run_storeAt_row (P := Try.prog) (ty := 45) (cells := #[.string (ba d.b), .int .i64 d.e]) N2' (IC' _ _) rfl (oneC _ _))
    have N1' : HB (w.heap.size + 1) hd0 38 ((V.setRow (w.heap.size + 1) hd0.c.toArray).setRow (w.heap.size + 2) #[.string (ba d.b), .int .i64 d.e]) := (setRow_other _ _ _ _ (by omega)).trans (setRow_heap _ _ _ _ _ _ N1)
    have RA := Lib.hid (load_Hd N1' hd0_ok)
    have RC := Lib.hid (load_C (setRow_heap (V.setRow (w.heap.size + 1) hd0.c.toArray) (w.heap.size + 2) zC #[.string (ba d.b), .int .i64 d.e] _ _ N2'))
    have RB := Lib.hid (setRow_below (g := w.heap.size + 2) (cs := #[.string (ba d.b), .int .i64 d.e]) (setRow_below (g := w.heap.size + 1) (cs := hd0.c.toArray) NB (by omega)) (by omega))
    clear N1 N2 N3 N1' N2' N3' NB Y1 Y2
    refine wp_region_any (by kernel_rfl) ?_
    change wpAny _ _ _ _ _ _ _ (World.drew _)
    rw [hV]
    refine wpAny_ready (rs := [0, 1]) (by kernel_rfl) (by simp) ?_
    refine AllReady.cons rfl (fun K hK => ?_) (AllReady.cons rfl (fun K hK => ?_) AllReady.nil)
    · refine step_value rfl hd0.v (build_Hd rfl) ?_
      refine hK _ _ ?_
      clear hK K
      refine wpAny_ready (rs := [1, 2]) (by kernel_rfl) (by simp) ?_
      refine AllReady.cons rfl (fun K hK => ?_) (AllReady.cons rfl (fun K hK => ?_) AllReady.nil)
      · refine step_load rfl _ _ rfl _ rfl _ LC.out ?_
        refine hK _ _ ?_
        clear hK K
        refine wpAny_ready (rs := [2]) (by kernel_rfl) (by simp) ?_
        refine AllReady.cons rfl (fun K hK => ?_) AllReady.nil
        refine step_store rfl _ _ _ rfl _ rfl hd0.v (by rfl) _ SA.out ?_
        refine hK _ _ ?_
        clear hK K
        refine wpAny_ready (rs := [3]) (by kernel_rfl) (by simp) ?_
        refine AllReady.cons rfl (fun K hK => ?_) AllReady.nil
        refine step_store rfl _ _ _ rfl _ rfl _ rfl _ SC.out ?_
        refine hK _ _ ?_
        clear hK K
        refine wpAny_done (by kernel_rfl) ?_ _
        (go_wp2_with fail; exact bodyPost_ret (results_cell_cell 2 3 38 45 ⟨w.heap.size + 1, 0, none⟩ ⟨w.heap.size + 2, 0, none⟩ _ _ rfl rfl rfl RA.out RC.out) rfl ⟨by rw [Hgc.out]; simp only [if_true], RB.out⟩)
      · refine step_store rfl _ _ _ rfl _ rfl hd0.v (by rfl) _ SA.out ?_
        refine hK _ _ ?_
        clear hK K
        refine wpAny_ready (rs := [1]) (by kernel_rfl) (by simp) ?_
        refine AllReady.cons rfl (fun K hK => ?_) AllReady.nil
        refine step_load rfl _ _ rfl _ rfl _ LC2.out ?_
        refine hK _ _ ?_
        clear hK K
        refine wpAny_ready (rs := [3]) (by kernel_rfl) (by simp) ?_
        refine AllReady.cons rfl (fun K hK => ?_) AllReady.nil
        refine step_store rfl _ _ _ rfl _ rfl _ rfl _ SC.out ?_
        refine hK _ _ ?_
        clear hK K
        refine wpAny_done (by kernel_rfl) ?_ _
        (go_wp2_with fail; exact bodyPost_ret (results_cell_cell 2 3 38 45 ⟨w.heap.size + 1, 0, none⟩ ⟨w.heap.size + 2, 0, none⟩ _ _ rfl rfl rfl RA.out RC.out) rfl ⟨by rw [Hgc.out]; simp only [if_true], RB.out⟩)
    · refine step_load rfl _ _ rfl _ rfl _ LC.out ?_
      refine hK _ _ ?_
      clear hK K
      refine wpAny_ready (rs := [0]) (by kernel_rfl) (by simp) ?_
      refine AllReady.cons rfl (fun K hK => ?_) AllReady.nil
      refine step_value rfl hd0.v (build_Hd rfl) ?_
      refine hK _ _ ?_
      clear hK K
      refine wpAny_ready (rs := [2]) (by kernel_rfl) (by simp) ?_
      refine AllReady.cons rfl (fun K hK => ?_) AllReady.nil
      refine step_store rfl _ _ _ rfl _ rfl hd0.v (by rfl) _ SA.out ?_
      refine hK _ _ ?_
      clear hK K
      refine wpAny_ready (rs := [3]) (by kernel_rfl) (by simp) ?_
      refine AllReady.cons rfl (fun K hK => ?_) AllReady.nil
      refine step_store rfl _ _ _ rfl _ rfl _ rfl _ SC.out ?_
      refine hK _ _ ?_
      clear hK K
      refine wpAny_done (by kernel_rfl) ?_ _
      (go_wp2_with fail; exact bodyPost_ret (results_cell_cell 2 3 38 45 ⟨w.heap.size + 1, 0, none⟩ ⟨w.heap.size + 2, 0, none⟩ _ _ rfl rfl rfl RA.out RC.out) rfl ⟨by rw [Hgc.out]; simp only [if_true], RB.out⟩)
  · obtain ⟨S, hS⟩ : ∃ S, S = ba s := ⟨_, rfl⟩
    obtain ⟨ln, hln⟩ : ∃ l, l = (s.drop 4).take 32 := ⟨_, rfl⟩
    obtain ⟨tx, htx⟩ : ∃ l, l = (s.drop 36).take 32 := ⟨_, rfl⟩
    have hz : S.size = 76 := by rw [hS, ba_size, hs]
    have ht : S.toList.isEmpty = false := by
      rw [hS, bs_toList, bs_ba]
      cases s
      · simp at hs
      · rfl
    have HT0 := Lib.hid (show ∀ w, Calls Try.prog 89 #[.string S, .int .i64 0, .int .i64 4] w fun e w' => e = .returned (.int .u64 (beN ((s.drop 0).take 4))) ∧ w' = w from fun w => by rw [hS]; exact rtake_calls (ba s) 0 4 w (by rw [← hS]; omega) (by rw [← hS]; omega) (by omega))
    have HT1 := Lib.hid (show ∀ w, Calls Try.prog 89 #[.string S, .int .i64 68, .int .i64 8] w fun e w' => e = .returned (.int .u64 (beN ((s.drop 68).take 8))) ∧ w' = w from fun w => by rw [hS]; exact rtake_calls (ba s) 68 8 w (by rw [← hS]; omega) (by rw [← hS]; omega) (by omega))
    have hgo : Hid ((getC c).1 = Hd.of s ∧ (getC c).2 = d) := Lib.hid (by rw [Hgc.out, if_neg (by intro e; rw [e] at hs; simp at hs)]; exact ⟨rfl, rfl⟩)
    have hof : Hd.of s = ⟨beN ((s.drop 0).take 4), (s.drop 4).take 32, (s.drop 36).take 32, beN ((s.drop 68).take 8)⟩ := rfl
    have hok := Hd.of_ok s hs
    rw [← hln, ← htx] at hof
    rw [hof] at hok
    have l1 : ln.length = 32 := hok.2.1
    have l2 : tx.length = 32 := hok.2.2.1
    have x1 : ∀ k (h : k < 32), ln[k]'(by omega) = S[4 + k]'(by omega) := by
      intro k h
      subst hS hln
      rw [List.getElem_take, List.getElem_drop]
      rfl
    have x2 : ∀ k (h : k < 32), tx[k]'(by omega) = S[36 + k]'(by omega) := by
      intro k h
      subst hS htx
      rw [List.getElem_take, List.getElem_drop]
      rfl
    have hh : (beN ((s.drop 0).take 4) : Int) < 4294967296 := by have := hok.1; simp only at this; omega
    have Hof := Lib.hid hof
    rw [← hS]
    generalize beN ((s.drop 0).take 4) = a at *
    generalize beN ((s.drop 68).take 8) = n at *
    have hok1 : Hd.Ok ⟨a, zH, zH, n⟩ := ⟨hok.1, zH_len, zH_len, hok.2.2.2⟩
    have Hok := Lib.hid (And.intro hok hok1)
    have Hl := Lib.hid (And.intro l1 l2)
    have HX1 := Lib.hid x1
    have HX2 := Lib.hid x2
    clear hS hln htx
    clear hof hok hok1 x1 x2 hs
    go_wp2_with fail
    refine (HT0.out _).mono ?_
    rintro r w2 ⟨rfl, rfl⟩
    go_wp2_with fail
    refine (HT1.out _).mono ?_
    rintro r w2 ⟨rfl, rfl⟩
    go_wp2_with (first | (refine wpList_store_row rfl 38 _ _ rfl (w1.heap.size + 1) (Hd.c ⟨a, zH, zH, n⟩).toArray rfl rfl _ _ (heap_new2 _ _ _) (IHd Hok.out.2) (zero_size Hok.out.2) (Hd.c_one _) ?_))
    obtain ⟨Y1, Y2, hs1⟩ := S1.out
    generalize hV : World.setRow (World.alloc (World.alloc w1 _) _) _ _ = V
    have hcz : Hd.c ⟨a, zH, zH, n⟩ = Hd.c ⟨a, Cur.part ln 0, Cur.part tx 0, n⟩ := rfl
    have n0 : RQ (w1.heap.size + 1) w1.heap.size ⟨a, Cur.part ln 0, Cur.part tx 0, n⟩ d w V := by
      rw [← hV]
      refine ⟨by unfold HB; rw [← hcz]; exact setRow_heap _ _ _ (Hd.c ⟨a, zH, zH, n⟩).toArray _ _ (heap_new2 w1 (.cells #[.string (ba d.b), .int .i64 d.e] 45) (.cells Try.zeroCells38 38)), (setRow_other _ _ _ _ (by omega)).trans ((Below.heap_alloc _ _ _ (by simp <;> omega)).trans ((Below.heap_alloc _ _ _ (by omega)).trans Y1)), (setRow_other _ _ _ _ (by omega)).trans ((Below.heap_alloc _ _ _ (by simp <;> omega)).trans ((Below.heap_alloc _ _ _ (by omega)).trans Y2)),
        (setRow_other _ _ _ _ (by omega)).trans (heap_new1 _ _ _), setRow_below ((HB1.out.alloc (by omega) _).alloc (by simp <;> omega) _) (by omega)⟩
    have N0 := Lib.hid n0
    have Hs1 := Lib.hid hs1
    clear hV hcz Y1 Y2 S1 HB1 hs1 n0
    go_wp2_with fail
    go_loopw [7] (fun s7 wr => ∃ k : Nat, k ≤ 32 ∧ s7 = .int .i64 k ∧ Hid (RQ (w1.heap.size + 1) w1.heap.size ⟨a, Cur.part ln k, Cur.part tx k, n⟩ d w wr)) (fun s7 _ => 32 - (intOf s7).toNat)
    case atStart => exact ⟨0, by omega, rfl, N0⟩
    case round =>
      obtain ⟨k, hk, rfl, hq⟩ := hrel
      obtain ⟨h1, h2, h3, h4, h5⟩ := hq.out
      by_cases hkl : k < 32
      · have hokk : Hd.Ok ⟨a, Cur.part ln k, Cur.part tx k, n⟩ := ⟨Hok.out.1.1, Cur.part_len ln k (by omega) (by omega), Cur.part_len tx k (by omega) (by omega), Hok.out.1.2.2.2⟩
        have hcl := Hd.c_len _ hokk
        have g1 : 4 + k < S.size := by omega
        have g2 : 36 + k < S.size := by omega
        have hset := row_set a n ln tx k l1 l2 hkl
        rw [HX1.out k hkl, HX2.out k hkl] at hset
        obtain ⟨z1, hz1⟩ : ∃ z, (Hd.c ⟨a, Cur.part ln k, Cur.part tx k, n⟩)[1 + k]? = some z := ⟨_, List.getElem?_eq_getElem (by omega)⟩
        obtain ⟨z2, hz2⟩ : ∃ z, (Hd.c ⟨a, Cur.part ln k, Cur.part tx k, n⟩)[33 + k]? = some z := ⟨_, List.getElem?_eq_getElem (by omega)⟩
        have c1 : wr.cell? ⟨w1.heap.size + 1, 1 + k, none⟩ = some z1 := by rw [cell_of_row _ _ _ _ _ _ h1, List.getElem?_toArray]; exact hz1
        have c2 : wr.cell? ⟨w1.heap.size + 1, 33 + k, none⟩ = some z2 := by rw [cell_of_row _ _ _ _ _ _ h1, List.getElem?_toArray]; exact hz2
        have f1 : wr.frozen? ⟨w1.heap.size + 1, 1 + k, none⟩ = false := by simp [World.frozen?, show wr.heap[w1.heap.size + 1]? = _ from h1]
        have f2 : wr.frozen? ⟨w1.heap.size + 1, 33 + k, none⟩ = false := by simp [World.frozen?, show wr.heap[w1.heap.size + 1]? = _ from h1]
        have ks : ∀ (j : Nat) u v, j ≠ w1.heap.size + 1 → ((wr.setCell ⟨w1.heap.size + 1, 1 + k, none⟩ u).setCell ⟨w1.heap.size + 1, 33 + k, none⟩ v).heap[j]? = wr.heap[j]? := fun j u v hj => (Below.heap_setCell _ _ _ _ hj).trans (Below.heap_setCell _ _ _ _ hj)
        have hs1 := Hs1.out
        have hnew' : RQ (w1.heap.size + 1) w1.heap.size ⟨a, Cur.part ln (k + 1), Cur.part tx (k + 1), n⟩ d w ((wr.setCell ⟨w1.heap.size + 1, 1 + k, none⟩ (.int .u8 ((S[4 + k]'g1).toNat : Int))).setCell ⟨w1.heap.size + 1, 33 + k, none⟩ (.int .u8 ((S[36 + k]'g2).toNat : Int))) :=
          ⟨by
            unfold HB
            rw [← hset]
            have h1' : wr.heap[w1.heap.size + 1]? = _ := h1
            simp [World.setCell, Array.getElem?_modify, h1'], (ks _ _ _ (by omega)).trans h2, (ks _ _ _ (by omega)).trans h3, (ks _ _ _ (by omega)).trans h4, (h5.setCell (p := ⟨w1.heap.size + 1, 1 + k, none⟩) (by simp <;> omega) _).setCell (p := ⟨w1.heap.size + 1, 33 + k, none⟩) (by simp <;> omega) _⟩
        have hnew := Lib.hid hnew'
        clear HX1 HX2 hset hz
        clear hnew' h1 h2 h3 h4 h5 hz1 hz2 hcl hokk hq ks hs1
        have i1 : ¬ (k : Int) < 0 := by omega
        clear l1 l2 hh ht
        go_wp2_with fail
        go_roundw
        case rel => exact ⟨k + 1, by omega, by go_num, hnew⟩
        case measure => simp [intOf] <;> omega
      · obtain rfl : k = 32 := by omega
        have e1 : Cur.part ln 32 = ln := by unfold Cur.part; rw [List.take_of_length_le (by omega)]; simp
        have e2 : Cur.part tx 32 = tx := by unfold Cur.part; rw [List.take_of_length_le (by omega)]; simp
        rw [e1, e2] at h1
        have hs1 := Hs1.out
        clear e1 e2 hq N0 HX1 HX2 hz ht hh l1 l2
        have hok := Hok.out.1
        obtain ⟨V2, hV2⟩ : ∃ V, V = wr.drew := ⟨_, rfl⟩
        have N1 : HB (w.heap.size + 1) hd0 38 V2 := by rw [hV2]; exact h2
        have N2 : V2.heap[w.heap.size + 2]? = some (.cells zC 45 (0, 0)) := by rw [hV2]; exact h3
        have N3 : V2.heap[w1.heap.size]? = some (.cells #[.string (ba d.b), .int .i64 d.e] 45 (0, 0)) := by rw [hV2]; exact h4
        have N4 : HB (w1.heap.size + 1) ⟨a, ln, tx, n⟩ 38 V2 := by rw [hV2]; exact h1
        have NB : Below w.heap.size w V2 := by rw [hV2]; exact h5.drew
        have hV := hV2.symm
        have sz : hd0.c.toArray.size = (Hd.c ⟨a, ln, tx, n⟩).toArray.size := by rw [List.size_toArray, List.size_toArray, Hd.c_len _ hd0_ok, Hd.c_len _ hok]
        have LA := Lib.hid (loadAt_Hd N4 hok)
        have LC := Lib.hid (loadAt_C N3)
        have SA := Lib.hid (run_storeAt_row (P := Try.prog) (ty := 38) (cells := (Hd.c ⟨a, ln, tx, n⟩).toArray) N1 (IHd hok) sz (Hd.c_one _))
        have N3' : (V2.setRow (w.heap.size + 1) (Hd.c ⟨a, ln, tx, n⟩).toArray).heap[w1.heap.size]? = some (.cells #[.string (ba d.b), .int .i64 d.e] 45 (0, 0)) := (setRow_other _ _ _ _ (by omega)).trans N3
        have LC2 := Lib.hid (loadAt_C N3')
        have N2' : (V2.setRow (w.heap.size + 1) (Hd.c ⟨a, ln, tx, n⟩).toArray).heap[w.heap.size + 2]? = some (.cells zC 45 (0, 0)) := (setRow_other _ _ _ _ (by omega)).trans N2
        have SC := Lib.hid (run_storeAt_row (P := Try.prog) (ty := 45) (cells := #[.string (ba d.b), .int .i64 d.e]) N2' (IC' _ _) rfl (oneC _ _))
        have N1' : HB (w.heap.size + 1) ⟨a, ln, tx, n⟩ 38 ((V2.setRow (w.heap.size + 1) (Hd.c ⟨a, ln, tx, n⟩).toArray).setRow (w.heap.size + 2) #[.string (ba d.b), .int .i64 d.e]) := (setRow_other _ _ _ _ (by omega)).trans (setRow_heap _ _ _ _ _ _ N1)
        have RA := Lib.hid (load_Hd N1' hok)
        have RC := Lib.hid (load_C (setRow_heap (V2.setRow (w.heap.size + 1) (Hd.c ⟨a, ln, tx, n⟩).toArray) (w.heap.size + 2) zC #[.string (ba d.b), .int .i64 d.e] _ _ N2'))
        have RB := Lib.hid (setRow_below (g := w.heap.size + 2) (cs := #[.string (ba d.b), .int .i64 d.e]) (setRow_below (g := w.heap.size + 1) (cs := (Hd.c ⟨a, ln, tx, n⟩).toArray) NB (by omega)) (by omega))
        have HV := Lib.hid hV
        clear N1 N2 N3 N4 N1' N2' N3' NB h1 h2 h3 h4 h5 hV hV2 sz hok hs1
        go_wp2_with fail
        have hV := HV.out
        refine wp_region_any (by kernel_rfl) ?_
        change wpAny _ _ _ _ _ _ _ (World.drew _)
        rw [hV]
        refine wpAny_ready (rs := [0, 1]) (by kernel_rfl) (by simp) ?_
        refine AllReady.cons rfl (fun K hK => ?_) (AllReady.cons rfl (fun K hK => ?_) AllReady.nil)
        · refine step_load rfl _ _ rfl _ rfl _ LA.out ?_
          refine hK _ _ ?_
          clear hK K
          refine wpAny_ready (rs := [1, 2]) (by kernel_rfl) (by simp) ?_
          refine AllReady.cons rfl (fun K hK => ?_) (AllReady.cons rfl (fun K hK => ?_) AllReady.nil)
          · refine step_load rfl _ _ rfl _ rfl _ LC.out ?_
            refine hK _ _ ?_
            clear hK K
            refine wpAny_ready (rs := [2]) (by kernel_rfl) (by simp) ?_
            refine AllReady.cons rfl (fun K hK => ?_) AllReady.nil
            refine step_store rfl _ _ _ rfl _ rfl (Hd.v ⟨a, ln, tx, n⟩) (by rfl) _ SA.out ?_
            refine hK _ _ ?_
            clear hK K
            refine wpAny_ready (rs := [3]) (by kernel_rfl) (by simp) ?_
            refine AllReady.cons rfl (fun K hK => ?_) AllReady.nil
            refine step_store rfl _ _ _ rfl _ rfl _ rfl _ SC.out ?_
            refine hK _ _ ?_
            clear hK K
            refine wpAny_done (by kernel_rfl) ?_ _
            (clear hV; go_wp2_with fail; exact bodyPost_ret (results_cell_cell 2 3 38 45 ⟨w.heap.size + 1, 0, none⟩ ⟨w.heap.size + 2, 0, none⟩ _ _ rfl rfl rfl RA.out RC.out) rfl ⟨by rw [hgo.out.1, hgo.out.2, Hof.out], RB.out⟩)
          · refine step_store rfl _ _ _ rfl _ rfl (Hd.v ⟨a, ln, tx, n⟩) (by rfl) _ SA.out ?_
            refine hK _ _ ?_
            clear hK K
            refine wpAny_ready (rs := [1]) (by kernel_rfl) (by simp) ?_
            refine AllReady.cons rfl (fun K hK => ?_) AllReady.nil
            refine step_load rfl _ _ rfl _ rfl _ LC2.out ?_
            refine hK _ _ ?_
            clear hK K
            refine wpAny_ready (rs := [3]) (by kernel_rfl) (by simp) ?_
            refine AllReady.cons rfl (fun K hK => ?_) AllReady.nil
            refine step_store rfl _ _ _ rfl _ rfl _ rfl _ SC.out ?_
            refine hK _ _ ?_
            clear hK K
            refine wpAny_done (by kernel_rfl) ?_ _
            (clear hV; go_wp2_with fail; exact bodyPost_ret (results_cell_cell 2 3 38 45 ⟨w.heap.size + 1, 0, none⟩ ⟨w.heap.size + 2, 0, none⟩ _ _ rfl rfl rfl RA.out RC.out) rfl ⟨by rw [hgo.out.1, hgo.out.2, Hof.out], RB.out⟩)
        · refine step_load rfl _ _ rfl _ rfl _ LC.out ?_
          refine hK _ _ ?_
          clear hK K
          refine wpAny_ready (rs := [0]) (by kernel_rfl) (by simp) ?_
          refine AllReady.cons rfl (fun K hK => ?_) AllReady.nil
          refine step_load rfl _ _ rfl _ rfl _ LA.out ?_
          refine hK _ _ ?_
          clear hK K
          refine wpAny_ready (rs := [2]) (by kernel_rfl) (by simp) ?_
          refine AllReady.cons rfl (fun K hK => ?_) AllReady.nil
          refine step_store rfl _ _ _ rfl _ rfl (Hd.v ⟨a, ln, tx, n⟩) (by rfl) _ SA.out ?_
          refine hK _ _ ?_
          clear hK K
          refine wpAny_ready (rs := [3]) (by kernel_rfl) (by simp) ?_
          refine AllReady.cons rfl (fun K hK => ?_) AllReady.nil
          refine step_store rfl _ _ _ rfl _ rfl _ rfl _ SC.out ?_
          refine hK _ _ ?_
          clear hK K
          refine wpAny_done (by kernel_rfl) ?_ _
          (clear hV; go_wp2_with fail; exact bodyPost_ret (results_cell_cell 2 3 38 45 ⟨w.heap.size + 1, 0, none⟩ ⟨w.heap.size + 2, 0, none⟩ _ _ rfl rfl rfl RA.out RC.out) rfl ⟨by rw [hgo.out.1, hgo.out.2, Hof.out], RB.out⟩)
end Go.Proofs.Ytcaocnlchfbeaaa.Hd

/- Whether two headers are the same. -/
namespace Go.Proofs.Ytcaocnlchfbeaaa.Hd
open Go.RowKit Go.Proofs.Ytcaocnlchfbeaaa.Mk Go.Proofs.Ytcaocnlchfbeaaa.Wd Go.Proofs.Ytcaocnlchfbeaaa.Cur
open Extern.Stop (cell)
theorem eqf_cons {P : Program} {d : Nat} {xs ys : Array Value} {f : Field} {fs : List Field} {a b : Value} {r s : Bool} {w : World} (hn : f.name ≠ "_") (ha : (part f.type xs f.offset).run P w = .ok a w) (hb : (part f.type ys f.offset).run P w = .ok b w)
    (he : (Op.equalIn d f.type a b).run P w = .ok r w) (hr : (Op.eqFields d xs ys fs).run P w = .ok s w) : (Op.eqFields d xs ys (f :: fs)).run P w = .ok (r && s) w := by
  simp only [Op.eqFields, Sem.run_bind, Sem.run_ite]
  rw [if_pos hn]
  simp only [ha, hb, he, Result.andThen_ok]
  cases r
  · simp
  · simp [hr]
theorem eqf_nil {P : Program} {d : Nat} {xs ys : Array Value} {w : World} : (Op.eqFields d xs ys []).run P w = .ok true w := by simp [Op.eqFields]
theorem run_part_row {P : Program} {t e : TypeId} {n sz off : Nat} {xs : Array Value} {cs : List Value} {w : World} (hu : P.underlying t = some (.array n e)) (hs : ∀ w, (sizeOf t).run P w = .ok sz w) (hx : (xs.extract off (off + sz)) = cs.toArray) (_hl : off + sz ≤ xs.size) :
    (part t xs off).run P w = .ok (.agg cs.toArray) w := by
  simp [part, isAgg, run_underlying hu, hs, hx, Result.andThen]
theorem pl32 : Try.prog.plainKey 33 = true := by kernel_rfl
theorem pl64 : Try.prog.plainKey 36 = true := by kernel_rfl
theorem U32 : Try.prog.underlying 33 = some (.int .u32) := by kernel_rfl
theorem U64 : Try.prog.underlying 36 = some (.int .u64) := by kernel_rfl
theorem stoodHd : Try.prog.stoodInHeld 38 = false := by kernel_rfl
theorem fieldsHd : Try.prog.underlying 38 = some (.struct (Try.prog.fieldsOf 38)) := by
  unfold Program.fieldsOf
  rw [Try.underlying38]
theorem ext_ln (h : Hd) (k : h.Ok) : h.c.toArray.extract 1 (1 + 32) = (hc h.ln).toArray := by
  apply Array.ext'
  rw [Array.toList_extract]
  simp only [List.extract]
  rw [show 1 + 32 - 1 = 32 from rfl]
  unfold Hd.c
  rw [List.drop_succ_cons, List.drop_zero, List.take_left' (by rw [hc_len, k.2.1])]
theorem ext_tx (h : Hd) (k : h.Ok) : h.c.toArray.extract 33 (33 + 32) = (hc h.tx).toArray := by
  apply Array.ext'
  rw [Array.toList_extract]
  simp only [List.extract]
  rw [show 33 + 32 - 33 = 32 from rfl]
  unfold Hd.c
  rw [show 33 = 32 + 1 from rfl, List.drop_succ_cons, List.drop_left' (by rw [hc_len, k.2.1]), List.take_left' (by rw [hc_len, k.2.2.1])]
theorem get_ht (h : Hd) : h.c.toArray[0]? = some (.int .u32 h.ht) := rfl
theorem get_no (h : Hd) (o : h.Ok) : h.c.toArray[65]? = some (.int .u64 h.no) := by
  rw [List.getElem?_toArray]
  unfold Hd.c
  rw [List.getElem?_cons_succ, List.getElem?_append_right (by rw [hc_len, o.2.1]; decide), hc_len, o.2.1, List.getElem?_append_right (by rw [hc_len, o.2.2.1]; decide), hc_len, o.2.2.1]
  rfl
def Hd.eqb (h g : Hd) : Bool := ((h.ht : Int) == (g.ht : Int)) && ((h.ln == g.ln) && ((h.tx == g.tx) && (((h.no : Int) == (g.no : Int)) && true)))
theorem sizeH (w : World) : (sizeOf 35).run Try.prog w = .ok 32 w := Try.sizeOf35 w
theorem run_eq_Hd (h g : Hd) (kh : h.Ok) (kg : g.Ok) (w : World) : (Op.equalIn 10000 38 h.v g.v).run Try.prog w = .ok (h.eqb g) w := by
  unfold Hd.v
  rw [run_equalIn_struct w 9999 38 _ _ fieldsHd stoodHd]
  unfold Program.fieldsOf
  rw [Try.underlying38]
  have zh : h.c.toArray.size = 66 := by rw [List.size_toArray, Hd.c_len h kh]
  have zg : g.c.toArray.size = 66 := by rw [List.size_toArray, Hd.c_len g kg]
  refine eqf_cons (by decide) (run_part_plain w pl32 (get_ht h)) (run_part_plain w pl32 (get_ht g)) (run_equalIn_int w 9998 _ _ _ _ _ U32) ?_
  refine eqf_cons (by decide) (run_part_row UH sizeH (ext_ln h kh) (by rw [zh]; decide)) (run_part_row UH sizeH (ext_ln g kg) (by rw [zg]; decide)) (run_equalIn_bytes w 9997 _ _ 32 UH UB Try.sizeOf5 h.ln g.ln kh.2.1 kg.2.1) ?_
  refine eqf_cons (by decide) (run_part_row UH sizeH (ext_tx h kh) (by rw [zh]; decide)) (run_part_row UH sizeH (ext_tx g kg) (by rw [zg]; decide)) (run_equalIn_bytes w 9997 _ _ 32 UH UB Try.sizeOf5 h.tx g.tx kh.2.2.1 kg.2.2.1) ?_
  exact eqf_cons (by decide) (run_part_plain w pl64 (get_no h kh)) (run_part_plain w pl64 (get_no g kg)) (run_equalIn_int w 9998 _ _ _ _ _ U64) eqf_nil
theorem eqb_refl (h : Hd) : h.eqb h = true := by simp [Hd.eqb]
theorem eqb_eq {h g : Hd} (e : h.eqb g = true) : h = g := by
  obtain ⟨a, l, t, n⟩ := h
  obtain ⟨a', l', t', n'⟩ := g
  simp only [Hd.eqb, Bool.and_eq_true, beq_iff_eq, Bool.and_true] at e
  obtain ⟨e1, e2, e3, e4⟩ := e
  congr 1
  · omega
  · omega
theorem eqGuardHd {x y : Operand} {h g : Hd} (w : World) : (eqGuard .eql 38 x y h.v g.v).run Try.prog w = .ok () w := run_eqGuard_agg _ _ _ _ _ _ _ (by kernel_rfl)
theorem eqHd {h g : Hd} (kh : h.Ok) (kg : g.Ok) (w : World) : (binOp .eql 38 h.v g.v).run Try.prog w = .ok (.bool (h.eqb g)) w := by
  have := run_eq_Hd h g kh kg w
  unfold Hd.v at *
  rw [run_eql_struct, this]
  rfl
end Go.Proofs.Ytcaocnlchfbeaaa.Hd

/- The walks of head.Take and of chapter 17's example. -/
namespace Go.Proofs.Ytcaocnlchfbeaaa.Hd
open Go.RowKit Go.Proofs.Ytcaocnlchfbeaaa.Mk Go.Proofs.Ytcaocnlchfbeaaa.Wd Go.Proofs.Ytcaocnlchfbeaaa.Cur
open Extern.Stop (cell)
/-- the header of bytes, and what is wrong with them -/
def takeH (l : List UInt8) : Hd × Int := if doneC (getC ⟨l, 0⟩).2 = 0 then ((getC ⟨l, 0⟩).1, 0) else (hd0, doneC (getC ⟨l, 0⟩).2)
theorem takeH_ok (l : List UInt8) : (takeH l).1.Ok := by
  unfold takeH
  split
  · exact getC_ok _
  · exact hd0_ok
theorem getC_len (c : C) : (getC c).2.b.length ≤ c.b.length := (raw_len c 76).1
theorem zero_arr : (.cells Try.zeroCells38 38 : Obj) = .cells hd0.c.toArray 38 := rfl
/-- the header of 76 bytes -/
theorem takeH_76 (l : List UInt8) (h : l.length = 76) : takeH l = (Hd.of l, 0) := by
  have e : rawC ⟨l, 0⟩ 76 = (l, ⟨[], 0⟩) := by
    have := raw_ok l 76 (by omega)
    rw [List.take_of_length_le (by omega), List.drop_of_length_le (by omega)] at this
    exact this
  unfold takeH getC
  rw [e]
  simp only
  rw [if_pos (by simp [doneC]), if_neg (by intro e2; rw [e2] at h; simp at h)]
theorem takeH_not (l : List UInt8) (h : l.length ≠ 76) : (takeH l).1 = hd0 ∧ (takeH l).2 ≠ 0 := by
  have hd : doneC (getC ⟨l, 0⟩).2 ≠ 0 := by
    unfold getC
    simp only
    by_cases h1 : 76 ≤ l.length
    · have := raw_ok l 76 h1
      rw [show ((76 : Nat) : Int) = 76 from rfl] at this
      rw [this]
      have h2 : l.drop 76 ≠ [] := by
        intro e
        have := congrArg List.length e
        simp at this
        omega
      simp [doneC, h2]
    · have := raw_short l 76 (by omega)
      rw [show ((76 : Nat) : Int) = 76 from rfl] at this
      rw [this]
      simp [doneC]
  unfold takeH
  rw [if_neg hd]
  exact ⟨rfl, hd⟩
end Go.Proofs.Ytcaocnlchfbeaaa.Hd

/- The walks of chapter 17's laws. -/
namespace Go.Proofs.Ytcaocnlchfbeaaa.Hd
open Go.RowKit Go.Proofs.Ytcaocnlchfbeaaa.Mk Go.Proofs.Ytcaocnlchfbeaaa.Wd Go.Proofs.Ytcaocnlchfbeaaa.Cur
open Extern.Stop (cell)
def hdA : Hd := ⟨258, zH, zH, 7⟩
theorem hdA_ok : hdA.Ok := ⟨by decide, zH_len, zH_len, by decide⟩
theorem takeH_b (h : Hd) (k : h.Ok) : takeH (bs (ba h.b)) = (h, 0) := by
  rw [bs_ba, takeH_76 _ (h.b_len k), h.of_b k]
theorem b_size (h : Hd) (k : h.Ok) : (ba h.b).size = 76 := by rw [ba_size, h.b_len k]
theorem eqSelf {h : Hd} (kh : h.Ok) (w : World) : (binOp .eql 38 h.v h.v).run Try.prog w = .ok (.bool true) w := by
  rw [eqHd kh kh, eqb_refl]
end Go.Proofs.Ytcaocnlchfbeaaa.Hd
