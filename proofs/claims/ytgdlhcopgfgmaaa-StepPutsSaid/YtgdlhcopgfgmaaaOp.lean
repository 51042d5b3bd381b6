/- The walks of openings: whether two are the same, and whether one may be. -/
import Derived.Test.YtgdlhcopgfgmaaaHdR
import Derived.Test.YtgdlhcopgfgmaaaShapeR
import Derived.Test.YtgdlhcopgfgmaaaKnown
namespace Go.Proofs.Ytgdlhcopgfgmaaa.Op
open Go.RowKit Go.Proofs.Ytgdlhcopgfgmaaa.Mk
open Go.Proofs.Ytgdlhcopgfgmaaa.Cur (UH UB IHl IHa eqH neH heap_new1 heap_new2 below2)
open Extern.Stop (cell)
abbrev HL := List (List UInt8)
theorem ret_bool {a b : Bool} (h : a = b) : Ending.returned (.bool a) = .returned (.bool b) := by rw [h]
set_option maxHeartbeats 4000000 in
set_option maxRecDepth 100000 in
theorem rhashes_calls (a b : HL) (va vb : Value) (w : World) (ha : SL hc 32 w va a) (hb : SL hc 32 w vb b) :
    Calls Try.prog 78 #[va, vb] w fun e w' => e = .returned (.bool (a == b)) ∧ Below w.heap.size w w' := by
  obtain ⟨hlen, hbd, A, c, rfl, hlc, hcm, hrd⟩ := ha
  obtain ⟨hlenb, hbdb, B, cb, rfl, hlcb, hcmb, hrdb⟩ := hb
  by_cases hne : a.length = b.length
  · have hq : ((a.length : Int) != (b.length : Int)) = false := by simp [hne]
    have hbl := Lib.hid hne
    have hle : a.length ≤ b.length := by omega
    have hle2 : b.length ≤ a.length := by omega
    clear hne
    go_enter Try.func78, Try.ntmps78
    go_wp2_with fail
    go_loopw [5] (fun s5 wr => ∃ k : Nat, k ≤ a.length ∧ s5 = .int .i64 k ∧ Hid (a.take k = b.take k) ∧ Below w.heap.size w wr) (fun i _ => a.length - (intOf i).toNat)
    case atStart => exact ⟨0, Nat.zero_le _, rfl, Lib.hid rfl, Below.refl _ _⟩
    case round =>
      obtain ⟨k, hk, rfl, hf, hbw⟩ := hrel
      by_cases hlt : k < a.length
      · obtain ⟨b1, o1, rfl, hr1⟩ := hrd (by omega)
        obtain ⟨b2, o2, rfl, hr2⟩ := hrdb (by omega)
        have hltb : k < b.length := by omega
        have hr3 := range_below (hr1 k a[k] (by simp)) hbw
        have hr4 := range_below (hr2 k b[k] (by simp)) hbw
        have hl1 : a[k].length = 32 := by rw [← hc_len]; exact hlen a[k] (by simp)
        have hl2 : b[k].length = 32 := by rw [← hc_len]; exact hlenb b[k] (by simp)
        have hst : Hid ((a[k] == b[k]) = true → a.take (k + 1) = b.take (k + 1)) := Lib.hid fun h => by
          rw [List.take_succ_eq_append_getElem hlt, List.take_succ_eq_append_getElem hltb, hf.out, eq_of_beq h]
        have hno : Hid ((a[k] == b[k]) = false → (a == b) = false) := Lib.hid fun h => by
          rw [beq_eq_false_iff_ne] at h ⊢
          rintro rfl
          exact h rfl
        clear hlen hlenb hrd hrdb hr1 hr2
        generalize a[k] = x at *
        generalize b[k] = y at *
        have e1 := neH hl1 hl2
        have L1 : ∀ wx, Below wr.heap.size wr wx → (Instr.loadAt 24 (.pointer (some ⟨b1, o1 + k * 32, none⟩))).run Try.prog wx = .ok (.agg (hc x).toArray) wx := fun wx hbx =>
          run_loadAt_mid wx b1 _ 24 (hc x) _ (range_below hr3 hbx) UH rfl (IHl hl1)
        have L2 : ∀ wx, Below wr.heap.size wr wx → (Instr.loadAt 24 (.pointer (some ⟨b2, o2 + k * 32, none⟩))).run Try.prog wx = .ok (.agg (hc y).toArray) wx := fun wx hbx =>
          run_loadAt_mid wx b2 _ 24 (hc y) _ (range_below hr4 hbx) UH rfl (IHl hl2)
        clear hr3 hr4 hl1 hl2
        cases hbe : (x == y)
        all_goals
          have H3 := Lib.hid hbe
          rw [hbe] at e1
          clear hbe
          go_wp2_with fail
          refine wp_region_quiet_below (by kernel_rfl) (by kernel_rfl) ?_
          repeat (first | (refine wpQuiet_load rfl 24 _ rfl _ rfl _ (rg_fact L1) ?_) | (refine wpQuiet_load rfl 24 _ rfl _ rfl _ (rg_fact L2) ?_) | go_big_quiet_step (fail) | quiet_step (fail))
          refine wpQuiet_nil ?_
          rintro _ ⟨rp, rfl⟩
          have hb2 := below_regrown wr rp.d rp.os
          generalize Sort.grow (redrawn wr rp.d) rp.os = w2 at *
          clear L1 L2
          go_wp2_with fail
        · go_ret
          exact ⟨ret_bool (hno.out H3.out).symm, below_up hbw hb2⟩
        · go_roundw
          case rel => exact ⟨k + 1, by omega, by go_num, Lib.hid (hst.out H3.out), below_up hbw hb2⟩
          case measure => simp [intOf] <;> omega
      · have hfin : (a == b) = true := by
          have h1 := hf.out
          rw [List.take_of_length_le (by omega), List.take_of_length_le (by omega)] at h1
          rw [h1]
          exact beq_self_eq_true b
        clear hlen hlenb hrd hrdb
        have Hfin := Lib.hid hfin
        clear hfin
        go_wp2_with fail
        go_ret
        exact ⟨ret_bool Hfin.out.symm, hbw⟩
  · have hq : ((a.length : Int) != (b.length : Int)) = true := by simp; omega
    have hfin : (a == b) = false := by
      rw [beq_eq_false_iff_ne]
      rintro rfl
      exact hne rfl
    have Hfin := Lib.hid hfin
    clear hfin hne hlen hlenb hrd hrdb
    go_enter Try.func78, Try.ntmps78
    go_wp2_with fail
    go_ret
    exact ⟨ret_bool Hfin.out.symm, Below.refl _ _⟩
/-- an opening -/
structure Opn where
  i : Int
  c : Int
  p : HL
/-- the cells of an opening whose path lies in a slice -/
def oc (i c : Int) (sv : Value) : Array Value := #[.int .i64 i, .int .i64 c, sv]
/-- a value reads as an opening -/
def OV (w : World) (v : Value) (o : Opn) : Prop := ∃ sv, v = .agg (oc o.i o.c sv) ∧ SL hc 32 w sv o.p
theorem OV.below {w w' : World} {v : Value} {o : Opn} (h : OV w v o) (hb : Below w.heap.size w w') : OV w' v o := by
  obtain ⟨sv, e, hs⟩ := h
  exact ⟨sv, e, hs.below hb⟩
theorem run_load_hs {w : World} {a : Addr} {v : Value} (h : w.cell? a = some v) : (Instr.loadAt 62 (.pointer (some a))).run Try.prog w = .ok v w := by go_simp
theorem run_load_i {w : World} {a : Addr} {v : Value} (h : w.cell? a = some v) : (Instr.loadAt 3 (.pointer (some a))).run Try.prog w = .ok v w := by go_simp
def sameO (a b : Opn) : Bool := (a.i == b.i) && ((a.c == b.c) && (a.p == b.p))
set_option maxHeartbeats 4000000 in
set_option maxRecDepth 100000 in
theorem rsame_calls (a b : Opn) (va vb : Value) (w : World) (ha : OV w va a) (hb : OV w vb b) :
    Calls Try.prog 48 #[va, vb] w fun e w' => e = .returned (.bool (sameO a b)) ∧ Below w.heap.size w w' := by
  obtain ⟨sa, rfl, hsa⟩ := ha
  obtain ⟨sb, rfl, hsb⟩ := hb
  have HH := Lib.hid (fun wx (h : Below w.heap.size w wx) => rhashes_calls a.p b.p sa sb wx (hsa.below h) (hsb.below h))
  have hB := Lib.hid (below2 w (.cells (oc a.i a.c sa) 64) (.cells (oc b.i b.c sb) 64))
  obtain ⟨ai, ac, ap⟩ := a
  obtain ⟨bi, bc, bp⟩ := b
  unfold sameO
  simp only at HH ⊢
  clear hsa hsb
  generalize (ap == bp) = q at *
  unfold oc at *
  simp only at hB ⊢
  go_enter Try.func48, Try.ntmps48
  by_cases h1 : ai = bi
  · have t1 : (ai == bi) = true := by simpa using h1
    by_cases h2 : ac = bc
    · have t2 : (ac == bc) = true := by simpa using h2
      clear h1 h2
      go_wp2_with fail
      refine (HH.out _ hB.out).mono ?_
      rintro e w2 ⟨rfl, hb2⟩
      have hfin := Lib.hid (hB.out.trans (hb2.mono hB.out.size))
      clear hb2
      go_wp2_with fail
      go_ret
      exact ⟨ret_bool (by rw [t1, t2]; simp), hfin.out⟩
    · have t2 : (ac == bc) = false := by simpa using h2
      clear h1 h2
      go_wp2_with fail
      go_ret
      exact ⟨ret_bool (by rw [t1, t2]; simp), hB.out⟩
  · have t1 : (ai == bi) = false := by simpa using h1
    clear h1
    go_wp2_with fail
    go_ret
    exact ⟨ret_bool (by rw [t1]; simp), hB.out⟩
end Go.Proofs.Ytgdlhcopgfgmaaa.Op
