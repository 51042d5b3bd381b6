import Derived.Test.YtcaocnlchfbeaaaBg
import Derived.Test.YtcaocnlchfbeaaaBe
import Derived.Test.YtcaocnlchfbeaaaBa
import Derived.Test.YtcaocnlchfbeaaaBb
/- The walks of openings: whether two are the same, and whether one may be. -/
namespace Go.Proofs.Ytcaocnlchfbeaaa.Op
open Go.RowKit Go.Proofs.Ytcaocnlchfbeaaa.Mk
open Go.Proofs.Ytcaocnlchfbeaaa.Cur (UH UB IHl IHa eqH neH heap_new1 heap_new2 below2)
open Extern.Stop (cell)
abbrev HL := List (List UInt8)
theorem ret_bool {a b : Bool} (h : a = b) : Ending.returned (.bool a) = .returned (.bool b) := by rw [h]
set_option maxHeartbeats 4000000 in
set_option maxRecDepth 100000 in
theorem rhashes_calls (a b : HL) (va vb : Value) (w : World) (ha : SL hc 32 w va a) (hb : SL hc 32 w vb b) :
    Calls Try.prog 65 #[va, vb] w fun e w' => e = .returned (.bool (a == b)) ∧ Below w.heap.size w w' := by
  obtain ⟨hlen, hbd, A, c, rfl, hlc, hcm, hrd⟩ := ha
  obtain ⟨hlenb, hbdb, B, cb, rfl, hlcb, hcmb, hrdb⟩ := hb
  by_cases hne : a.length = b.length
  · have hq : ((a.length : Int) != (b.length : Int)) = false := by simp [hne]
    have hbl := Lib.hid hne
    have hle : a.length ≤ b.length := by omega
    have hle2 : b.length ≤ a.length := by omega
    clear hne
    go_enter Try.func65, Try.ntmps65
    go_wp2_with fail
    go_loopw [5] (fun s5 wr => ∃ k : Nat, k ≤ a.length ∧ s5 = .int .i64 k ∧ Hid (a.take k = b.take k) ∧ Below w.heap.size w wr) (fun i _ => a.length - (intOf i).toNat)
    case atStart => exact ⟨0, Nat.zero_le _, rfl, Lib.hid rfl, Below.refl _ _⟩
    case round =>
      obtain ⟨k, hk, rfl, hf, hbw⟩ := hrel
      by_cases hlt : k < a.length
      · obtain ⟨b1, o1, rfl, hr1⟩ := hrd (by omega)
        obtain ⟨b2, o2, rfl, hr2⟩ := hrdb (by omega)
        have hltb : k < b.length := by omega
        have hr3 := range_below (hr1 k a[k] (by simp)) hbw
        have hr4 := range_below (hr2 k b[k] (by simp)) hbw
        have hl1 : a[k].length = 32 := by rw [← hc_len]; exact hlen a[k] (by simp)
        have hl2 : b[k].length = 32 := by rw [← hc_len]; exact hlenb b[k] (by simp)
        have hst : Hid ((a[k] == b[k]) = true → a.take (k + 1) = b.take (k + 1)) := Lib.hid fun h => by
          rw [List.take_succ_eq_append_getElem hlt, List.take_succ_eq_append_getElem hltb, hf.out, eq_of_beq h]
        have hno : Hid ((a[k] == b[k]) = false → (a == b) = false) := Lib.hid fun h => by
          rw [beq_eq_false_iff_ne] at h ⊢
          rintro rfl
          exact h rfl
        clear hlen hlenb hrd hrdb hr1 hr2
        generalize a[k] = x at *
        generalize b[k] = y at *
        have e1 := neH hl1 hl2
        have L1 : ∀ wx, Below wr.heap.size wr wx → (Instr.loadAt 35 (.pointer (some ⟨b1, o1 + k * 32, none⟩))).run Try.prog wx = .ok (.agg (hc x).toArray) wx := fun wx hbx =>
          run_loadAt_mid wx b1 _ 35 (hc x) _ (range_below hr3 hbx) UH rfl (IHl hl1)
        have L2 : ∀ wx, Below wr.heap.size wr wx → (Instr.loadAt 35 (.pointer (some ⟨b2, o2 + k * 32, none⟩))).run Try.prog wx = .ok (.agg (hc y).toArray) wx := fun wx hbx =>
          run_loadAt_mid wx b2 _ 35 (hc y) _ (range_below hr4 hbx) UH rfl (IHl hl2)
        clear hr3 hr4 hl1 hl2
        cases hbe : (x == y)
        all_goals
          have H3 := Lib.hid hbe
          rw [hbe] at e1
          clear hbe
          go_wp2_with fail
          refine wp_region_quiet_below (by kernel_rfl) (by kernel_rfl) ?_
          repeat (first | (refine wpQuiet_load rfl 35 _ rfl _ rfl _ (rg_fact L1) ?_) | (refine wpQuiet_load rfl 35 _ rfl _ rfl _ (rg_fact L2) ?_) | go_big_quiet_step (fail) | quiet_step (fail))
          refine wpQuiet_nil ?_
          rintro _ ⟨rp, rfl⟩
          have hb2 := below_regrown wr rp.d rp.os
          generalize Sort.grow (redrawn wr rp.d) rp.os = w2 at *
          clear L1 L2
          go_wp2_with fail
        · go_ret
          exact ⟨ret_bool (hno.out H3.out).symm, below_up hbw hb2⟩
        · go_roundw
          case rel => exact ⟨k + 1, by omega, by go_num, Lib.hid (hst.out H3.out), below_up hbw hb2⟩
          case measure => simp [intOf] <;> omega
      · have hfin : (a == b) = true := by
          have h1 := hf.out
          rw [List.take_of_length_le (by omega), List.take_of_length_le (by omega)] at h1
          rw [h1]
          exact beq_self_eq_true b
        clear hlen hlenb hrd hrdb
        have Hfin := Lib.hid hfin
        clear hfin
        go_wp2_with fail
        go_ret
        exact ⟨ret_bool Hfin.out.symm, hbw⟩
  · have hq : ((a.length : Int) != (b.length : Int)) = true := by simp; omega
    have hfin : (a == b) = false := by
      rw [beq_eq_false_iff_ne]
      rintro rfl
      exact hne rfl
    have Hfin := Lib.hid hfin
    clear hfin hne hlen hlenb hrd hrdb
    go_enter Try.func65, Try.ntmps65
    go_wp2_with fail
    go_ret
    exact ⟨ret_bool Hfin.out.symm, Below.refl _ _⟩
/-- an opening -/
structure Opn where
  i : Int
  c : Int
  p : HL
/-- the cells of an opening whose path lies in a slice -/
def oc (i c : Int) (sv : Value) : Array Value := #[.int .i64 i, .int .i64 c, sv]
/-- a value reads as an opening -/
def OV (w : World) (v : Value) (o : Opn) : Prop := ∃ sv, v = .agg (oc o.i o.c sv) ∧ SL hc 32 w sv o.p
theorem OV.below {w w' : World} {v : Value} {o : Opn} (h : OV w v o) (hb : Below w.heap.size w w') : OV w' v o := by
  obtain ⟨sv, e, hs⟩ := h
  exact ⟨sv, e, hs.below hb⟩
theorem run_load_hs {w : World} {a : Addr} {v : Value} (h : w.cell? a = some v) : (Instr.loadAt 39 (.pointer (some a))).run Try.prog w = .ok v w := by go_simp
theorem run_load_i {w : World} {a : Addr} {v : Value} (h : w.cell? a = some v) : (Instr.loadAt 3 (.pointer (some a))).run Try.prog w = .ok v w := by go_simp
def sameO (a b : Opn) : Bool := (a.i == b.i) && ((a.c == b.c) && (a.p == b.p))
set_option maxHeartbeats 4000000 in
set_option maxRecDepth 100000 in
theorem rsame_calls (a b : Opn) (va vb : Value) (w : World) (ha : OV w va a) (hb : OV w vb b) :
    Calls Try.prog 25 #[va, vb] w fun e w' => e = .returned (.bool (sameO a b)) ∧ Below w.heap.size w w' := by
  obtain ⟨sa, rfl, hsa⟩ := ha
  obtain ⟨sb, rfl, hsb⟩ := hb
  have HH := Lib.hid (fun wx (h : Below w.heap.size w wx) => rhashes_calls a.p b.p sa sb wx (hsa.below h) (hsb.below h))
  have hB := Lib.hid (below2 w (.cells (oc a.i a.c sa) 41) (.cells (oc b.i b.c sb) 41))
  obtain ⟨ai, ac, ap⟩ := a
  obtain ⟨bi, bc, bp⟩ := b
  unfold sameO
  simp only at HH ⊢
  clear hsa hsb
  generalize (ap == bp) = q at *
  unfold oc at *
  simp only at hB ⊢
  go_enter Try.func25, Try.ntmps25
  by_cases h1 : ai = bi
  · have t1 : (ai == bi) = true := by simpa using h1
    by_cases h2 : ac = bc
    · have t2 : (ac == bc) = true := by simpa using h2
      clear h1 h2
      go_wp2_with fail
      refine (HH.out _ hB.out).mono ?_
      rintro e w2 ⟨rfl, hb2⟩
      have hfin := Lib.hid (hB.out.trans (hb2.mono hB.out.size))
      clear hb2
      go_wp2_with fail
      go_ret
      exact ⟨ret_bool (by rw [t1, t2]; simp), hfin.out⟩
    · have t2 : (ac == bc) = false := by simpa using h2
      clear h1 h2
      go_wp2_with fail
      go_ret
      exact ⟨ret_bool (by rw [t1, t2]; simp), hB.out⟩
  · have t1 : (ai == bi) = false := by simpa using h1
    clear h1
    go_wp2_with fail
    go_ret
    exact ⟨ret_bool (by rw [t1]; simp), hB.out⟩
end Go.Proofs.Ytcaocnlchfbeaaa.Op

/- The walks of openings: the program's Same and None, and both Mays. -/
namespace Go.Proofs.Ytcaocnlchfbeaaa.Op
open Go.RowKit Go.Proofs.Ytcaocnlchfbeaaa.Mk
open Go.Proofs.Ytcaocnlchfbeaaa.Cur (UH UB IHl IHa eqH neH heap_new1 heap_new2 below2)
open Extern.Stop (cell)
set_option maxHeartbeats 8000000 in
set_option maxRecDepth 100000 in
theorem same_calls (a b : Opn) (va vb : Value) (w : World) (ha : OV w va a) (hb : OV w vb b) :
    Calls Try.prog 71 #[va, vb] w fun e w' => e = .returned (.bool (sameO a b)) ∧ Below w.heap.size w w' := by
  obtain ⟨sa, rfl, hsa⟩ := ha
  obtain ⟨sb, rfl, hsb⟩ := hb
  obtain ⟨ai, ac, ap⟩ := a
  obtain ⟨bi, bc, bp⟩ := b
  unfold sameO
  simp only at hsa hsb ⊢
  have hB := below2 w (.cells (oc ai ac sa) 41) (.cells (oc bi bc sb) 41)
  have Z0 := heap_new1 w (.cells (oc ai ac sa) 41) (.cells (oc bi bc sb) 41)
  have Z1 := heap_new2 w (.cells (oc ai ac sa) 41) (.cells (oc bi bc sb) 41)
  have hsa2 := hsa.below hB
  have hsb2 := hsb.below hB
  clear hsa hsb
  obtain ⟨hlen, hbd, A, c, rfl, hlc, hcm, hrd⟩ := hsa2
  obtain ⟨hlenb, hbdb, B, cb, rfl, hlcb, hcmb, hrdb⟩ := hsb2
  have HB := Lib.hid hB
  go_enter Try.func71, Try.ntmps71
  by_cases h1 : ai = bi
  · have t1 : (ai == bi) = true := by simpa using h1
    have s1 : (ai != bi) = false := by simpa using h1
    by_cases h2 : ac = bc
    · have t2 : (ac == bc) = true := by simpa using h2
      have s2 : (ac != bc) = false := by simpa using h2
      have E12 := Lib.hid (show ∀ q, (((ai == bi) && ((ac == bc) && q)) : Bool) = q from fun q => by rw [t1, t2]; simp)
      clear h1 h2 t1 t2
      by_cases hne : ap.length = bp.length
      · have hq : ((ap.length : Int) != (bp.length : Int)) = false := by simp [hne]
        have hle : ap.length ≤ bp.length := by omega
        have hle2 : bp.length ≤ ap.length := by omega
        have Z0' := Lib.hid Z0
        have Z1' := Lib.hid Z1
        have Hlen := Lib.hid hlen
        have Hlenb := Lib.hid hlenb
        have Hrd := Lib.hid hrd
        have Hrdb := Lib.hid hrdb
        clear hne Z0 Z1 hB hlen hlenb hrd hrdb
        unfold oc at *
        go_wp2_with fail
        generalize (w.alloc (.cells #[.int .i64 ai, .int .i64 ac, .slice A ap.length c] 41)).alloc (.cells #[.int .i64 bi, .int .i64 bc, .slice B bp.length cb] 41) = W0 at *
        go_loopw [30] (fun s30 wr => ∃ k : Nat, k ≤ ap.length ∧ s30 = .int .i64 k ∧ Hid (ap.take k = bp.take k) ∧ Below W0.heap.size W0 wr) (fun i _ => ap.length - (intOf i).toNat)
        case atStart => exact ⟨0, Nat.zero_le _, rfl, Lib.hid rfl, Below.refl _ _⟩
        case round =>
          obtain ⟨k, hk, rfl, hf, hbw⟩ := hrel
          by_cases hlt : k < ap.length
          · obtain ⟨b1, o1, rfl, hr1⟩ := Hrd.out (by omega)
            obtain ⟨b2, o2, rfl, hr2⟩ := Hrdb.out (by omega)
            have hltb : k < bp.length := by omega
            have hr3 := range_below (hr1 k ap[k] (by simp)) hbw
            have hr4 := range_below (hr2 k bp[k] (by simp)) hbw
            have hl1 : ap[k].length = 32 := by rw [← hc_len]; exact Hlen.out ap[k] (by simp)
            have hl2 : bp[k].length = 32 := by rw [← hc_len]; exact Hlenb.out bp[k] (by simp)
            have hst : Hid ((ap[k] == bp[k]) = true → ap.take (k + 1) = bp.take (k + 1)) := Lib.hid fun h => by
              rw [List.take_succ_eq_append_getElem hlt, List.take_succ_eq_append_getElem hltb, hf.out, eq_of_beq h]
            have hno : Hid ((ap[k] == bp[k]) = false → (ap == bp) = false) := Lib.hid fun h => by
              rw [beq_eq_false_iff_ne] at h ⊢
              rintro rfl
              exact h rfl
            have hz0 := (hbw.block _ (Array.getElem?_eq_some_iff.1 Z0'.out).1).trans Z0'.out
            have hz1 := (hbw.block _ (Array.getElem?_eq_some_iff.1 Z1'.out).1).trans Z1'.out
            clear hr1 hr2
            generalize ap[k] = x at *
            generalize bp[k] = y at *
            have e1 := neH hl1 hl2
            have L1 : ∀ wx, Below wr.heap.size wr wx → (Instr.loadAt 35 (.pointer (some ⟨b1, o1 + k * 32, none⟩))).run Try.prog wx = .ok (.agg (hc x).toArray) wx := fun wx hbx =>
              run_loadAt_mid wx b1 _ 35 (hc x) _ (range_below hr3 hbx) UH rfl (IHl hl1)
            have L2 : ∀ wx, Below wr.heap.size wr wx → (Instr.loadAt 35 (.pointer (some ⟨b2, o2 + k * 32, none⟩))).run Try.prog wx = .ok (.agg (hc y).toArray) wx := fun wx hbx =>
              run_loadAt_mid wx b2 _ 35 (hc y) _ (range_below hr4 hbx) UH rfl (IHl hl2)
            have L3 : ∀ wx, Below wr.heap.size wr wx → (Instr.loadAt 39 (.pointer (some ⟨w.heap.size, 2, none⟩))).run Try.prog wx = .ok (.slice (some ⟨b1, o1, none⟩) ap.length c) wx := fun wx hbx =>
              run_load_hs (by rw [cell_of_row _ _ _ _ _ _ ((hbx.block _ (Array.getElem?_eq_some_iff.1 hz0).1).trans hz0)]; rfl)
            have L4 : ∀ wx, Below wr.heap.size wr wx → (Instr.loadAt 39 (.pointer (some ⟨w.heap.size + 1, 2, none⟩))).run Try.prog wx = .ok (.slice (some ⟨b2, o2, none⟩) bp.length cb) wx := fun wx hbx =>
              run_load_hs (by rw [cell_of_row _ _ _ _ _ _ ((hbx.block _ (Array.getElem?_eq_some_iff.1 hz1).1).trans hz1)]; rfl)
            clear hr3 hr4 hl1 hl2 hz0 hz1
            cases hbe : (x == y)
            all_goals
              have H3 := Lib.hid hbe
              rw [hbe] at e1
              clear hbe
              go_wp2_with fail
              refine wp_region_quiet_below (by kernel_rfl) (by kernel_rfl) ?_
              repeat (first | (refine wpQuiet_load rfl 35 _ rfl _ rfl _ (rg_fact L1) ?_) | (refine wpQuiet_load rfl 35 _ rfl _ rfl _ (rg_fact L2) ?_) | (refine wpQuiet_load rfl 39 _ rfl _ rfl _ (rg_fact L3) ?_) | (refine wpQuiet_load rfl 39 _ rfl _ rfl _ (rg_fact L4) ?_) | go_big_quiet_step (fail) | quiet_step (fail))
              refine wpQuiet_nil ?_
              rintro _ ⟨rp, rfl⟩
              have hb2 := below_regrown wr rp.d rp.os
              generalize Sort.grow (redrawn wr rp.d) rp.os = w2 at *
              clear L1 L2 L3 L4
              go_wp2_with fail
            · go_ret
              exact ⟨ret_bool (by rw [E12.out, hno.out H3.out]), HB.out.trans ((below_up hbw hb2).mono HB.out.size)⟩
            · go_roundw
              case rel => exact ⟨k + 1, by omega, by go_num, Lib.hid (hst.out H3.out), below_up hbw hb2⟩
              case measure => simp [intOf] <;> omega
          · have hfin : (ap == bp) = true := by
              have h1 := hf.out
              rw [List.take_of_length_le (by omega), List.take_of_length_le (by omega)] at h1
              rw [h1]
              exact beq_self_eq_true bp
            have Hfin := Lib.hid hfin
            clear hfin
            go_wp2_with fail
            go_ret
            exact ⟨ret_bool (by rw [E12.out, Hfin.out]), HB.out.trans (hbw.mono HB.out.size)⟩
      · have hq : ((ap.length : Int) != (bp.length : Int)) = true := by simp; omega
        have hfin : (ap == bp) = false := by
          rw [beq_eq_false_iff_ne]
          rintro rfl
          exact hne rfl
        have Hfin := Lib.hid hfin
        clear hfin hne hlen hlenb hrd hrdb Z0 Z1 hB
        unfold oc at *
        go_wp2_with fail
        go_ret
        exact ⟨ret_bool (by rw [E12.out, Hfin.out]), HB.out⟩
    · have t2 : (ac == bc) = false := by simpa using h2
      have s2 : (ac != bc) = true := by simpa using h2
      clear h1 h2 hlen hlenb hrd hrdb Z0 Z1 hB
      unfold oc at *
      go_wp2_with fail
      go_ret
      exact ⟨ret_bool (by rw [t1, t2]; simp), HB.out⟩
  · have t1 : (ai == bi) = false := by simpa using h1
    have s1 : (ai != bi) = true := by simpa using h1
    clear h1 hlen hlenb hrd hrdb Z0 Z1 hB
    unfold oc at *
    go_wp2_with fail
    go_ret
    exact ⟨ret_bool (by rw [t1]; simp), HB.out⟩
end Go.Proofs.Ytcaocnlchfbeaaa.Op

/- The walks of openings: None, and both Mays. -/
namespace Go.Proofs.Ytcaocnlchfbeaaa.Op
open Go.RowKit Go.Proofs.Ytcaocnlchfbeaaa.Mk
open Go.Proofs.Ytcaocnlchfbeaaa.Cur (UH UB IHl IHa eqH neH heap_new1 heap_new2 below2)
open Go.Proofs.Ytcaocnlchfbeaaa.Shape (depthI depth_calls rdepth_calls)
open Extern.Stop (cell)
def op0 : Opn := ⟨0, 0, []⟩
theorem ov0 (w : World) : OV w (.agg #[.int .i64 0, .int .i64 0, .slice none 0 0]) op0 := ⟨_, rfl, SL.nil _ _ _⟩
def noneO (o : Opn) : Bool := sameO o op0
theorem noneO_iff (o : Opn) : noneO o = true ↔ o.i = 0 ∧ o.c = 0 ∧ o.p = [] := by
  simp [noneO, sameO, op0]
set_option maxHeartbeats 4000000 in
set_option maxRecDepth 100000 in
theorem none_calls (o : Opn) (v : Value) (w : World) (h : OV w v o) :
    Calls Try.prog 98 #[v] w fun e w' => e = .returned (.bool (noneO o)) ∧ Below w.heap.size w w' := by
  obtain ⟨sv, rfl, hs⟩ := h
  have hB : Below w.heap.size w (w.alloc (.cells (oc o.i o.c sv) 41)) := (Below.refl _ _).alloc (Nat.le_refl _) _
  have HS := Lib.hid (same_calls o op0 (.agg (oc o.i o.c sv)) (.agg #[.int .i64 0, .int .i64 0, .slice none 0 0]) (w.alloc (.cells (oc o.i o.c sv) 41)) ⟨sv, rfl, hs.below hB⟩ (ov0 _))
  have HB := Lib.hid hB
  unfold noneO
  generalize sameO o op0 = q at *
  clear hs hB
  unfold oc at *
  go_enter Try.func98, Try.ntmps98
  go_wp2_with fail
  refine HS.out.mono ?_
  rintro e w2 ⟨rfl, hb2⟩
  have hfin := Lib.hid (HB.out.trans (hb2.mono HB.out.size))
  clear hb2
  go_wp2_with fail
  go_ret
  exact ⟨rfl, hfin.out⟩
/-- what is wrong with an opening's form -/
def mayI (o : Opn) : Int := if o.c < 1 ∨ 1048576 < o.c ∨ o.i < 0 ∨ o.c ≤ o.i then 3 else if (o.p.length : Int) ≠ depthI o.c o.i then 2 else 0
theorem ret_i {k : IntKind} {a b : Int} (h : a = b) : Ending.returned (.int k a) = .returned (.int k b) := by rw [h]
set_option maxHeartbeats 4000000 in
set_option maxRecDepth 100000 in
theorem may_calls (o : Opn) (v : Value) (w : World) (h : OV w v o) (hi : o.i ≤ 9223372036854775807) (hi0 : -9223372036854775808 ≤ o.i) :
    Calls Try.prog 99 #[v] w fun e w' => e = .returned (.int .i64 (mayI o)) ∧ Below w.heap.size w w' := by
  obtain ⟨sv, rfl, hs⟩ := h
  obtain ⟨i, c, p⟩ := o
  simp only at hs hi hi0 ⊢
  obtain ⟨_, hbd, A, cap, rfl, hlc, hcm, _⟩ := hs
  have hB : Below w.heap.size w (w.alloc (.cells (oc i c (.slice A p.length cap)) 41)) := (Below.refl _ _).alloc (Nat.le_refl _) _
  have Z := heap_new w (.cells (oc i c (.slice A p.length cap)) 41)
  have HB := Lib.hid hB
  have hm : mayI ⟨i, c, p⟩ = if c < 1 ∨ 1048576 < c ∨ i < 0 ∨ c ≤ i then 3 else if (p.length : Int) ≠ depthI c i then 2 else 0 := rfl
  by_cases hbad : c < 1 ∨ 1048576 < c ∨ i < 0 ∨ c ≤ i
  · rw [hm, if_pos hbad]
    clear hm Z hB
    unfold oc at *
    go_enter Try.func99, Try.ntmps99
    by_cases h1 : c < 1
    · clear hbad
      go_wp2_with fail
      go_ret
      exact ⟨rfl, HB.out⟩
    by_cases h2 : 1048576 < c
    · clear hbad
      go_wp2_with fail
      go_ret
      exact ⟨rfl, HB.out⟩
    by_cases h3 : i < 0
    · clear hbad
      go_wp2_with fail
      go_ret
      exact ⟨rfl, HB.out⟩
    · have h4 : c ≤ i := by omega
      clear hbad
      go_wp2_with fail
      go_ret
      exact ⟨rfl, HB.out⟩
  · rw [if_neg hbad] at hm
    have h1 : ¬ c < 1 := by omega
    have h2 : ¬ 1048576 < c := by omega
    have h3 : ¬ i < 0 := by omega
    have h4 : ¬ c ≤ i := by omega
    have HD := Lib.hid (fun w => depth_calls c i w (by omega) (by omega) hi hi0)
    have Hm := Lib.hid hm
    generalize depthI c i = d at *
    have L1 := Lib.hid (show ∀ wx, Below (w.alloc (.cells (oc i c (.slice A p.length cap)) 41)).heap.size (w.alloc (.cells (oc i c (.slice A p.length cap)) 41)) wx → (Instr.loadAt 39 (.pointer (some ⟨w.heap.size, 2, none⟩))).run Try.prog wx = .ok (.slice A p.length cap) wx from fun wx hbx =>
      run_load_hs (by rw [cell_of_row _ _ _ _ _ _ ((hbx.block _ (by simp)).trans Z)]; rfl))
    have L2 := Lib.hid (show ∀ wx, Below (w.alloc (.cells (oc i c (.slice A p.length cap)) 41)).heap.size (w.alloc (.cells (oc i c (.slice A p.length cap)) 41)) wx → (Instr.loadAt 3 (.pointer (some ⟨w.heap.size, 1, none⟩))).run Try.prog wx = .ok (.int .i64 c) wx from fun wx hbx =>
      run_load_i (by rw [cell_of_row _ _ _ _ _ _ ((hbx.block _ (by simp)).trans Z)]; rfl))
    have L3 := Lib.hid (show ∀ wx, Below (w.alloc (.cells (oc i c (.slice A p.length cap)) 41)).heap.size (w.alloc (.cells (oc i c (.slice A p.length cap)) 41)) wx → (Instr.loadAt 3 (.pointer (some ⟨w.heap.size, 0, none⟩))).run Try.prog wx = .ok (.int .i64 i) wx from fun wx hbx =>
      run_load_i (by rw [cell_of_row _ _ _ _ _ _ ((hbx.block _ (by simp)).trans Z)]; rfl))
    clear hm Z hB hbad
    unfold oc at *
    go_enter Try.func99, Try.ntmps99
    by_cases hd : (p.length : Int) = d
    · have t1 : ((p.length : Int) != d) = false := by simpa using hd
      have Hm2 := Lib.hid (Hm.out.trans (if_neg (by simpa using hd)))
      clear hd Hm
      go_wp2_with fail
      generalize w.alloc (.cells #[.int .i64 i, .int .i64 c, .slice A p.length cap] 41) = W at *
      refine wp_region_quiet_below (by kernel_rfl) (by kernel_rfl) ?_
      repeat (first | (refine wpQuiet_load rfl 39 _ rfl _ rfl _ (rg_fact L1.out) ?_) | (refine wpQuiet_load rfl 3 _ rfl _ rfl _ (rg_fact L2.out) ?_) | (refine wpQuiet_load rfl 3 _ rfl _ rfl _ (rg_fact L3.out) ?_) | ((refine wpQuiet_call rfl _ _ ?_ _ (rg_of (fun wx _ => HD.out wx)) ?_); focus (intro wx; go_simp; done)) | go_big_quiet_step (fail) | quiet_step (fail))
      refine wpQuiet_nil ?_
      rintro _ ⟨rp, rfl⟩
      have hb2 := below_regrown W rp.d rp.os
      generalize Sort.grow (redrawn W rp.d) rp.os = w2 at *
      have hfin := Lib.hid (HB.out.trans (hb2.mono HB.out.size))
      clear hb2
      go_wp2_with fail
      go_ret
      exact ⟨ret_i (by rw [Hm2.out]), hfin.out⟩
    · have t1 : ((p.length : Int) != d) = true := by simpa using hd
      have Hm2 := Lib.hid (Hm.out.trans (if_pos (by simpa using hd)))
      clear hd Hm
      go_wp2_with fail
      generalize w.alloc (.cells #[.int .i64 i, .int .i64 c, .slice A p.length cap] 41) = W at *
      refine wp_region_quiet_below (by kernel_rfl) (by kernel_rfl) ?_
      repeat (first | (refine wpQuiet_load rfl 39 _ rfl _ rfl _ (rg_fact L1.out) ?_) | (refine wpQuiet_load rfl 3 _ rfl _ rfl _ (rg_fact L2.out) ?_) | (refine wpQuiet_load rfl 3 _ rfl _ rfl _ (rg_fact L3.out) ?_) | ((refine wpQuiet_call rfl _ _ ?_ _ (rg_of (fun wx _ => HD.out wx)) ?_); focus (intro wx; go_simp; done)) | go_big_quiet_step (fail) | quiet_step (fail))
      refine wpQuiet_nil ?_
      rintro _ ⟨rp, rfl⟩
      have hb2 := below_regrown W rp.d rp.os
      generalize Sort.grow (redrawn W rp.d) rp.os = w2 at *
      have hfin := Lib.hid (HB.out.trans (hb2.mono HB.out.size))
      clear hb2
      go_wp2_with fail
      go_ret
      exact ⟨ret_i (by rw [Hm2.out]), hfin.out⟩
set_option maxHeartbeats 4000000 in
set_option maxRecDepth 100000 in
theorem rmay_calls (o : Opn) (v : Value) (w : World) (h : OV w v o) (hi : o.i ≤ 9223372036854775807) (hi0 : -9223372036854775808 ≤ o.i) :
    Calls Try.prog 108 #[v] w fun e w' => e = .returned (.int .i64 (mayI o)) ∧ Below w.heap.size w w' := by
  obtain ⟨sv, rfl, hs⟩ := h
  obtain ⟨i, c, p⟩ := o
  simp only at hs hi hi0 ⊢
  obtain ⟨_, hbd, A, cap, rfl, hlc, hcm, _⟩ := hs
  have hB : Below w.heap.size w (w.alloc (.cells (oc i c (.slice A p.length cap)) 41)) := (Below.refl _ _).alloc (Nat.le_refl _) _
  have Z := heap_new w (.cells (oc i c (.slice A p.length cap)) 41)
  have HB := Lib.hid hB
  have hm : mayI ⟨i, c, p⟩ = if c < 1 ∨ 1048576 < c ∨ i < 0 ∨ c ≤ i then 3 else if (p.length : Int) ≠ depthI c i then 2 else 0 := rfl
  by_cases hbad : c < 1 ∨ 1048576 < c ∨ i < 0 ∨ c ≤ i
  · rw [hm, if_pos hbad]
    clear hm Z hB
    unfold oc at *
    go_enter Try.func108, Try.ntmps108
    by_cases h1 : c < 1
    · clear hbad
      go_wp2_with fail
      go_ret
      exact ⟨rfl, HB.out⟩
    by_cases h2 : 1048576 < c
    · clear hbad
      go_wp2_with fail
      go_ret
      exact ⟨rfl, HB.out⟩
    by_cases h3 : i < 0
    · clear hbad
      go_wp2_with fail
      go_ret
      exact ⟨rfl, HB.out⟩
    · have h4 : c ≤ i := by omega
      clear hbad
      go_wp2_with fail
      go_ret
      exact ⟨rfl, HB.out⟩
  · rw [if_neg hbad] at hm
    have h1 : ¬ c < 1 := by omega
    have h2 : ¬ 1048576 < c := by omega
    have h3 : ¬ i < 0 := by omega
    have h4 : ¬ c ≤ i := by omega
    have HD := Lib.hid (fun w => rdepth_calls c i w (by omega) (by omega) hi hi0)
    have Hm := Lib.hid hm
    generalize depthI c i = d at *
    have L1 := Lib.hid (show ∀ wx, Below (w.alloc (.cells (oc i c (.slice A p.length cap)) 41)).heap.size (w.alloc (.cells (oc i c (.slice A p.length cap)) 41)) wx → (Instr.loadAt 39 (.pointer (some ⟨w.heap.size, 2, none⟩))).run Try.prog wx = .ok (.slice A p.length cap) wx from fun wx hbx =>
      run_load_hs (by rw [cell_of_row _ _ _ _ _ _ ((hbx.block _ (by simp)).trans Z)]; rfl))
    have L2 := Lib.hid (show ∀ wx, Below (w.alloc (.cells (oc i c (.slice A p.length cap)) 41)).heap.size (w.alloc (.cells (oc i c (.slice A p.length cap)) 41)) wx → (Instr.loadAt 3 (.pointer (some ⟨w.heap.size, 1, none⟩))).run Try.prog wx = .ok (.int .i64 c) wx from fun wx hbx =>
      run_load_i (by rw [cell_of_row _ _ _ _ _ _ ((hbx.block _ (by simp)).trans Z)]; rfl))
    have L3 := Lib.hid (show ∀ wx, Below (w.alloc (.cells (oc i c (.slice A p.length cap)) 41)).heap.size (w.alloc (.cells (oc i c (.slice A p.length cap)) 41)) wx → (Instr.loadAt 3 (.pointer (some ⟨w.heap.size, 0, none⟩))).run Try.prog wx = .ok (.int .i64 i) wx from fun wx hbx =>
      run_load_i (by rw [cell_of_row _ _ _ _ _ _ ((hbx.block _ (by simp)).trans Z)]; rfl))
    clear hm Z hB hbad
    unfold oc at *
    go_enter Try.func108, Try.ntmps108
    by_cases hd : (p.length : Int) = d
    · have t1 : ((p.length : Int) != d) = false := by simpa using hd
      have Hm2 := Lib.hid (Hm.out.trans (if_neg (by simpa using hd)))
      clear hd Hm
      go_wp2_with fail
      generalize w.alloc (.cells #[.int .i64 i, .int .i64 c, .slice A p.length cap] 41) = W at *
      refine wp_region_quiet_below (by kernel_rfl) (by kernel_rfl) ?_
      repeat (first | (refine wpQuiet_load rfl 39 _ rfl _ rfl _ (rg_fact L1.out) ?_) | (refine wpQuiet_load rfl 3 _ rfl _ rfl _ (rg_fact L2.out) ?_) | (refine wpQuiet_load rfl 3 _ rfl _ rfl _ (rg_fact L3.out) ?_) | ((refine wpQuiet_call rfl _ _ ?_ _ (rg_of (fun wx _ => HD.out wx)) ?_); focus (intro wx; go_simp; done)) | go_big_quiet_step (fail) | quiet_step (fail))
      refine wpQuiet_nil ?_
      rintro _ ⟨rp, rfl⟩
      have hb2 := below_regrown W rp.d rp.os
      generalize Sort.grow (redrawn W rp.d) rp.os = w2 at *
      have hfin := Lib.hid (HB.out.trans (hb2.mono HB.out.size))
      clear hb2
      go_wp2_with fail
      go_ret
      exact ⟨ret_i (by rw [Hm2.out]), hfin.out⟩
    · have t1 : ((p.length : Int) != d) = true := by simpa using hd
      have Hm2 := Lib.hid (Hm.out.trans (if_pos (by simpa using hd)))
      clear hd Hm
      go_wp2_with fail
      generalize w.alloc (.cells #[.int .i64 i, .int .i64 c, .slice A p.length cap] 41) = W at *
      refine wp_region_quiet_below (by kernel_rfl) (by kernel_rfl) ?_
      repeat (first | (refine wpQuiet_load rfl 39 _ rfl _ rfl _ (rg_fact L1.out) ?_) | (refine wpQuiet_load rfl 3 _ rfl _ rfl _ (rg_fact L2.out) ?_) | (refine wpQuiet_load rfl 3 _ rfl _ rfl _ (rg_fact L3.out) ?_) | ((refine wpQuiet_call rfl _ _ ?_ _ (rg_of (fun wx _ => HD.out wx)) ?_); focus (intro wx; go_simp; done)) | go_big_quiet_step (fail) | quiet_step (fail))
      refine wpQuiet_nil ?_
      rintro _ ⟨rp, rfl⟩
      have hb2 := below_regrown W rp.d rp.os
      generalize Sort.grow (redrawn W rp.d) rp.os = w2 at *
      have hfin := Lib.hid (HB.out.trans (hb2.mono HB.out.size))
      clear hb2
      go_wp2_with fail
      go_ret
      exact ⟨ret_i (by rw [Hm2.out]), hfin.out⟩
end Go.Proofs.Ytcaocnlchfbeaaa.Op

/- Plain laws on the bytes of openings and steps. No condition. -/
namespace Go.Proofs.Ytcaocnlchfbeaaa.St
open Go.RowKit Go.Proofs.Ytcaocnlchfbeaaa.Op Go.Proofs.Ytcaocnlchfbeaaa.Hd
open Go.Proofs.Ytcaocnlchfbeaaa.Shape (depthI)
/-- an opening that can be -/
def OOk (o : Opn) : Prop := o.i ≤ 9223372036854775807 ∧ -9223372036854775808 ≤ o.i ∧ ∀ x ∈ o.p, x.length = 32
/-- an opening's bytes, and what is wrong with it -/
def openB (o : Opn) : List UInt8 × Int :=
  if noneO o = true then (Num.putL 0, 0) else if mayI o ≠ 0 then ([], mayI o) else (Num.putL o.c.toNat ++ Num.putL o.i.toNat ++ o.p.flatten, 0)
theorem may0 {o : Opn} (h : mayI o = 0) : 1 ≤ o.c ∧ o.c ≤ 1048576 ∧ 0 ≤ o.i ∧ o.i < o.c ∧ (o.p.length : Int) = depthI o.c o.i := by
  unfold mayI at h
  by_cases hb : o.c < 1 ∨ 1048576 < o.c ∨ o.i < 0 ∨ o.c ≤ o.i
  · rw [if_pos hb] at h; omega
  · rw [if_neg hb] at h
    by_cases hd : (o.p.length : Int) ≠ depthI o.c o.i
    · rw [if_pos hd] at h; omega
    · have : (o.p.length : Int) = depthI o.c o.i := by simpa using hd
      omega
theorem flat_len (p : HL) (h : ∀ x ∈ p, x.length = 32) : p.flatten.length = p.length * 32 := by
  induction p with
  | nil => rfl
  | cons x p ih =>
    rw [List.flatten_cons, List.length_append, h x (by simp), ih (fun y hy => h y (by simp [hy])), List.length_cons]
    omega
theorem depth_le (n i : Int) (hn : n ≤ 1048576) : depthI n i ≤ 63 := by
  unfold depthI
  split
  · have := Shape.sidesI_len n i (by omega)
    omega
  · omega
end Go.Proofs.Ytcaocnlchfbeaaa.St

/- Plain laws: what is taken as an opening, as a step. No condition. -/
namespace Go.Proofs.Ytcaocnlchfbeaaa.Tk
open Go.RowKit Go.Proofs.Ytcaocnlchfbeaaa.Op Go.Proofs.Ytcaocnlchfbeaaa.Hd Go.Proofs.Ytcaocnlchfbeaaa.St Go.Proofs.Ytcaocnlchfbeaaa.Cur
open Go.Proofs.Ytcaocnlchfbeaaa.Shape (depthI)
/-- so many ids, until the cursor fails -/
def loopC : Nat → C → HL → HL × C
  | 0, c, p => (p, c)
  | k + 1, c, p => if c.e ≠ 0 then (p, c) else loopC k (hashC c).2 (p ++ [(hashC c).1])
/-- what is taken as an opening -/
def openC (c : C) : Opn × C :=
  let n := numC c 1048576
  if n.1 = 0 then (op0, n.2) else
  let i := numC n.2 (n.1 - 1)
  let r := loopC (depthI n.1 i.1).toNat i.2 []
  if r.2.e ≠ 0 then (op0, r.2) else (⟨i.1, n.1, r.1⟩, r.2)
/-- what is taken as a step -/
def stepC (c : C) : (Hd × Opn) × C :=
  let h := getC c
  let o := openC h.2
  if o.2.e ≠ 0 then ((hd0, op0), o.2) else ((h.1, o.1), o.2)
theorem hash_len (c : C) : (hashC c).2.b.length ≤ c.b.length := by unfold hashC; exact (raw_len c 32).1
theorem hash_32 (c : C) : (hashC c).1.length = 32 := by
  have : (rawC c 32).1.length ≤ 32 := by
    unfold rawC
    rw [if_neg (by decide)]
    split
    · simp
    split
    · simp
    · simp [List.length_take]; omega
  unfold hashC
  simp only [List.length_append, List.length_replicate]
  omega
theorem loop_len : ∀ (k : Nat) (c : C) (p : HL), (loopC k c p).2.b.length ≤ c.b.length
  | 0, _, _ => Nat.le_refl _
  | k + 1, c, p => by
    unfold loopC
    split
    · exact Nat.le_refl _
    · exact Nat.le_trans (loop_len k _ _) (hash_len c)
theorem loop_stop {k : Nat} {c : C} {p : HL} (h : k = 0 ∨ c.e ≠ 0) : loopC k c p = (p, c) := by
  rcases h with rfl | h
  · rfl
  · cases k with
    | zero => rfl
    | succ k => unfold loopC; rw [if_pos h]
theorem loop_go {k : Nat} {c : C} {p : HL} (h : c.e = 0) : loopC (k + 1) c p = loopC k (hashC c).2 (p ++ [(hashC c).1]) := by
  rw [loopC, if_neg (by simpa using h)]
theorem loop_ok : ∀ (k : Nat) (c : C) (p : HL), (∀ x ∈ p, x.length = 32) → (∀ x ∈ (loopC k c p).1, x.length = 32) ∧ (loopC k c p).1.length ≤ p.length + k
  | 0, _, p, h => ⟨h, Nat.le_refl _⟩
  | k + 1, c, p, h => by
    unfold loopC
    split
    · exact ⟨h, by simp⟩
    · have := loop_ok k (hashC c).2 (p ++ [(hashC c).1]) (by
        intro x hx
        rcases List.mem_append.1 hx with hx | hx
        · exact h x hx
        · rw [List.mem_singleton.1 hx]; exact hash_32 c)
      refine ⟨this.1, ?_⟩
      have h2 := this.2
      rw [List.length_append] at h2
      simp at h2
      omega
theorem openC_eq (c : C) : openC c = (if (numC c 1048576).1 = 0 then (op0, (numC c 1048576).2) else
      if (loopC (depthI (numC c 1048576).1 (numC (numC c 1048576).2 ((numC c 1048576).1 - 1)).1).toNat (numC (numC c 1048576).2 ((numC c 1048576).1 - 1)).2 []).2.e ≠ 0 then
        (op0, (loopC (depthI (numC c 1048576).1 (numC (numC c 1048576).2 ((numC c 1048576).1 - 1)).1).toNat (numC (numC c 1048576).2 ((numC c 1048576).1 - 1)).2 []).2) else
        (⟨(numC (numC c 1048576).2 ((numC c 1048576).1 - 1)).1, (numC c 1048576).1, (loopC (depthI (numC c 1048576).1 (numC (numC c 1048576).2 ((numC c 1048576).1 - 1)).1).toNat (numC (numC c 1048576).2 ((numC c 1048576).1 - 1)).2 []).1⟩, (loopC (depthI (numC c 1048576).1 (numC (numC c 1048576).2 ((numC c 1048576).1 - 1)).1).toNat (numC (numC c 1048576).2 ((numC c 1048576).1 - 1)).2 []).2)) := rfl
theorem open_len (c : C) : (openC c).2.b.length ≤ c.b.length := by
  rw [openC_eq]
  have h1 := num_len c 1048576
  have h2 := num_len (numC c 1048576).2 ((numC c 1048576).1 - 1)
  have h3 := loop_len (depthI (numC c 1048576).1 (numC (numC c 1048576).2 ((numC c 1048576).1 - 1)).1).toNat (numC (numC c 1048576).2 ((numC c 1048576).1 - 1)).2 []
  split
  · exact h1
  split
  · exact Nat.le_trans h3 (Nat.le_trans h2 h1)
  · exact Nat.le_trans h3 (Nat.le_trans h2 h1)
theorem depth_nn {n i : Nat} (h : i < n) : 0 ≤ depthI n i := by
  unfold depthI
  rw [if_pos (by omega)]
  omega
end Go.Proofs.Ytcaocnlchfbeaaa.Tk
