/- The walks of a step's bytes. -/
import Derived.Test.YtgdlhcopgfgmaaaStR
import Derived.Test.YtgdlhcopgfgmaaaHdL
import Derived.Test.YtgdlhcopgfgmaaaOpS
namespace Go.Proofs.Ytgdlhcopgfgmaaa.Stp
open Go.RowKit Go.Proofs.Ytgdlhcopgfgmaaa.Mk Go.Proofs.Ytgdlhcopgfgmaaa.Op Go.Proofs.Ytgdlhcopgfgmaaa.Hd Go.Proofs.Ytgdlhcopgfgmaaa.St
open Go.Proofs.Ytgdlhcopgfgmaaa.Shape (depthI)
def sc (h : Hd) (o : Opn) (sv : Value) : List Value := h.c ++ [.int .i64 o.i, .int .i64 o.c, sv]
/-- a step's value -/
def SV (w : World) (v : Value) (h : Hd) (o : Opn) : Prop := ∃ sv, v = .agg (sc h o sv).toArray ∧ SL hc 32 w sv o.p
theorem SV.below {w w' : World} {v : Value} {h : Hd} {o : Opn} (k : SV w v h o) (hb : Below w.heap.size w w') : SV w' v h o := by
  obtain ⟨sv, e, s⟩ := k
  exact ⟨sv, e, s.below hb⟩
/-- a step's block -/
def SK (g : Nat) (h : Hd) (o : Opn) (sv : Value) (w : World) : Prop := w.heap[g]? = some (.cells (sc h o sv).toArray 66 (0, 0))
theorem SK.keep {g : Nat} {h : Hd} {o : Opn} {sv : Value} {w w' : World} (k : SK g h o sv w) (hb : Below w.heap.size w w') : SK g h o sv w' := (hb.block g (Array.getElem?_eq_some_iff.1 k).1).trans k
theorem SK.hd {g : Nat} {h : Hd} {o : Opn} {sv : Value} {w : World} (k : SK g h o sv w) : w.rangeAt g 0 h.c := fun j v hv => by
  rw [cell_of_row w g (0 + j) _ _ _ k, List.getElem?_toArray, Nat.zero_add]
  unfold sc
  rw [List.getElem?_append_left (List.getElem?_eq_some_iff.1 hv).1]
  exact hv
theorem SK.op {g : Nat} {h : Hd} {o : Opn} {sv : Value} {w : World} (k : SK g h o sv w) (ok : h.Ok) : w.rangeAt g 66 [.int .i64 o.i, .int .i64 o.c, sv] := fun j v hv => by
  rw [cell_of_row w g (66 + j) _ _ _ k, List.getElem?_toArray]
  unfold sc
  rw [List.getElem?_append_right (by rw [h.c_len ok]; omega), h.c_len ok, Nat.add_sub_cancel_left]
  exact hv
theorem UO : Try.prog.underlying 64 = some (.struct (Try.prog.fieldsOf 64)) := by kernel_rfl
theorem IO : (Try.prog.info? 64).map (·.size) = some 3 := by kernel_rfl
theorem IHc {h : Hd} (k : h.Ok) : (Try.prog.info? 27).map (·.size) = some h.c.length := by
  rw [IHd k, List.size_toArray]
theorem SK.loadO {g : Nat} {h : Hd} {o : Opn} {sv : Value} {w : World} (k : SK g h o sv w) (ok : h.Ok) : (Instr.loadAt 64 (.pointer (some ⟨g, 66, none⟩))).run Try.prog w = .ok (.agg (oc o.i o.c sv)) w :=
  run_loadAt_mid w g 66 _ _ _ (k.op ok) UO rfl IO
theorem SK.loadH {g : Nat} {h : Hd} {o : Opn} {sv : Value} {w : World} (k : SK g h o sv w) (ok : h.Ok) : (Instr.loadAt 27 (.pointer (some ⟨g, 0, none⟩))).run Try.prog w = .ok h.v w :=
  run_loadAt_mid w g 0 _ _ _ k.hd fieldsHd rfl (IHc ok)
/-- a step's bytes, and what is wrong with it -/
def stepB (h : Hd) (o : Opn) : List UInt8 × Int := if (openB o).2 ≠ 0 then ([], (openB o).2) else (h.b ++ (openB o).1, 0)
theorem openB_len (o : Opn) (ok : OOk o) : (openB o).1.length ≤ 2100 := by
  unfold openB
  split
  · have := Num.putL_len10 0 (by decide); simp only; omega
  split
  · simp
  · rename_i h
    obtain ⟨m1, m2, m3, m4, m5⟩ := may0 (by simpa using h)
    have hd := depth_le o.c o.i m2
    have l1 := Num.putL_len10 o.c.toNat (by omega)
    have l2 := Num.putL_len10 o.i.toNat (by omega)
    simp only [List.length_append, flat_len o.p ok.2.2]
    omega
set_option maxHeartbeats 4000000 in
set_option maxRecDepth 100000 in
theorem step_calls (h : Hd) (o : Opn) (v : Value) (w : World) (hv : SV w v h o) (kh : h.Ok) (ok : OOk o) :
    Calls Try.prog 33 #[v] w fun e w' => e = .returned (.tuple #[.string (ba (stepB h o).1), .int .i64 (stepB h o).2]) ∧ Below w.heap.size w w' := by
  obtain ⟨sv, rfl, hs⟩ := hv
  have hk0 : SK w.heap.size h o sv (w.alloc (.cells (sc h o sv).toArray 66)) := heap_new _ _
  have hB : Below w.heap.size w (w.alloc (.cells (sc h o sv).toArray 66)) := (Below.refl _ _).alloc (Nat.le_refl _) _
  have hs0 := hs.below hB
  have HB0 := Lib.hid hB
  have HO := Lib.hid (fun wx (hx : Below (w.alloc (.cells (sc h o sv).toArray 66)).heap.size (w.alloc (.cells (sc h o sv).toArray 66)) wx) => opening_calls o (.agg (oc o.i o.c sv)) wx ⟨sv, rfl, hs0.below hx⟩ ok)
  have HH := Lib.hid (fun wx => bytes_calls h wx kh)
  have hlen := openB_len o ok
  have Hr := Lib.hid (show stepB h o = if (openB o).2 ≠ 0 then ([], (openB o).2) else (h.b ++ (openB o).1, 0) from rfl)
  have Kh := Lib.hid kh
  have K0 := Lib.hid hk0
  have hsz := b_size h kh
  have hadd : ¬ 9223372036854775807 < (ba h.b).size + (ba (openB o).1).size := by rw [hsz, ba_size]; omega
  have LO := Lib.hid (fun wx (hb : Below (w.alloc (.cells (sc h o sv).toArray 66)).heap.size (w.alloc (.cells (sc h o sv).toArray 66)) wx) => (hk0.keep hb).loadO kh)
  clear hs hs0 kh hB hk0 hlen hsz
  go_enter Try.func33, Try.ntmps33
  go_wp2_with (refine wpList_loadg (by rfl) 64 (.tmp 7) (by rfl) _ (by rfl) _ (LO.out _ (Below.refl _ _)) ?_)
  generalize w.alloc (.cells (sc h o sv).toArray 66) = W at *
  refine (HO.out _ (Below.refl _ _)).mono ?_
  rintro r w1 ⟨rfl, hb1⟩
  have B1 := Lib.hid hb1
  clear hb1 LO
  by_cases he : (openB o).2 = 0
  · have t0 : ((openB o).2 != 0) = false := by rw [he]; rfl
    have Hr1 := Lib.hid (Hr.out.trans (if_neg (by simpa using he)))
    have L1 := Lib.hid (show ∀ wx, Below w1.heap.size w1 wx → (Instr.loadAt 27 (.pointer (some ⟨w.heap.size, 0, none⟩))).run Try.prog wx = .ok h.v wx from fun wx hbx => (K0.out.keep (below_up B1.out hbx)).loadH Kh.out)
    clear he
    go_wp2_with (refine wpList_loadg (by rfl) 27 (.tmp 15) (by rfl) _ (by rfl) _ (L1.out _ (Below.refl _ _)) ?_)
    refine (HH.out _).mono ?_
    rintro r w2 ⟨rfl, hb2⟩
    have hfin := Lib.hid (HB0.out.trans ((below_up B1.out hb2).mono HB0.out.size))
    clear hb2
    go_wp2_with fail
    go_ret2
    exact ⟨ret_se (by rw [Hr1.out, ba_append]) (by rw [Hr1.out]), hfin.out⟩
  · have t0 : ((openB o).2 != 0) = true := by simpa using he
    have Hr1 := Lib.hid (Hr.out.trans (if_pos he))
    have hfin := Lib.hid (HB0.out.trans (B1.out.mono HB0.out.size))
    clear he
    go_wp2_with fail
    go_ret2
    exact ⟨ret_se (by rw [Hr1.out]; try rfl) (by rw [Hr1.out]), hfin.out⟩
set_option maxHeartbeats 4000000 in
set_option maxRecDepth 100000 in
theorem rstep_calls (h : Hd) (o : Opn) (v : Value) (w : World) (hv : SV w v h o) (kh : h.Ok) (ok : OOk o) :
    Calls Try.prog 34 #[v] w fun e w' => e = .returned (.tuple #[.string (ba (stepB h o).1), .int .i64 (stepB h o).2]) ∧ Below w.heap.size w w' := by
  obtain ⟨sv, rfl, hs⟩ := hv
  have hk0 : SK w.heap.size h o sv (w.alloc (.cells (sc h o sv).toArray 66)) := heap_new _ _
  have hB : Below w.heap.size w (w.alloc (.cells (sc h o sv).toArray 66)) := (Below.refl _ _).alloc (Nat.le_refl _) _
  have hs0 := hs.below hB
  have HB0 := Lib.hid hB
  have HO := Lib.hid (fun wx (hx : Below (w.alloc (.cells (sc h o sv).toArray 66)).heap.size (w.alloc (.cells (sc h o sv).toArray 66)) wx) => ropening_calls o (.agg (oc o.i o.c sv)) wx ⟨sv, rfl, hs0.below hx⟩ ok)
  have HH := Lib.hid (fun wx => rbytes_calls h wx kh)
  have hlen := openB_len o ok
  have Hr := Lib.hid (show stepB h o = if (openB o).2 ≠ 0 then ([], (openB o).2) else (h.b ++ (openB o).1, 0) from rfl)
  have Kh := Lib.hid kh
  have K0 := Lib.hid hk0
  have hsz := b_size h kh
  have hadd : ¬ 9223372036854775807 < (ba h.b).size + (ba (openB o).1).size := by rw [hsz, ba_size]; omega
  have LO := Lib.hid (fun wx (hb : Below (w.alloc (.cells (sc h o sv).toArray 66)).heap.size (w.alloc (.cells (sc h o sv).toArray 66)) wx) => (hk0.keep hb).loadO kh)
  clear hs hs0 kh hB hk0 hlen hsz
  go_enter Try.func34, Try.ntmps34
  go_wp2_with (refine wpList_loadg (by rfl) 64 (.tmp 7) (by rfl) _ (by rfl) _ (LO.out _ (Below.refl _ _)) ?_)
  generalize w.alloc (.cells (sc h o sv).toArray 66) = W at *
  refine (HO.out _ (Below.refl _ _)).mono ?_
  rintro r w1 ⟨rfl, hb1⟩
  have B1 := Lib.hid hb1
  clear hb1 LO
  by_cases he : (openB o).2 = 0
  · have t0 : ((openB o).2 != 0) = false := by rw [he]; rfl
    have Hr1 := Lib.hid (Hr.out.trans (if_neg (by simpa using he)))
    have L1 := Lib.hid (show ∀ wx, Below w1.heap.size w1 wx → (Instr.loadAt 27 (.pointer (some ⟨w.heap.size, 0, none⟩))).run Try.prog wx = .ok h.v wx from fun wx hbx => (K0.out.keep (below_up B1.out hbx)).loadH Kh.out)
    clear he
    go_wp2_with (refine wpList_loadg (by rfl) 27 (.tmp 15) (by rfl) _ (by rfl) _ (L1.out _ (Below.refl _ _)) ?_)
    refine (HH.out _).mono ?_
    rintro r w2 ⟨rfl, hb2⟩
    have hfin := Lib.hid (HB0.out.trans ((below_up B1.out hb2).mono HB0.out.size))
    clear hb2
    go_wp2_with fail
    go_ret2
    exact ⟨ret_se (by rw [Hr1.out, ba_append]) (by rw [Hr1.out]), hfin.out⟩
  · have t0 : ((openB o).2 != 0) = true := by simpa using he
    have Hr1 := Lib.hid (Hr.out.trans (if_pos he))
    have hfin := Lib.hid (HB0.out.trans (B1.out.mono HB0.out.size))
    clear he
    go_wp2_with fail
    go_ret2
    exact ⟨ret_se (by rw [Hr1.out]; try rfl) (by rw [Hr1.out]), hfin.out⟩
end Go.Proofs.Ytgdlhcopgfgmaaa.Stp
