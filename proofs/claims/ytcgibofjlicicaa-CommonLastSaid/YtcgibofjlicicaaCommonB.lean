/- The walks of the document's Last and of chapter 40's example. -/
import Derived.Test.YtcgibofjlicicaaCommon
namespace Go.Proofs.Ytcgibofjlicicaa.Common
open Go.RowKit Go.Proofs.Ytcgibofjlicicaa.Mk
open Extern.Stop (cell)

set_option maxHeartbeats 1000000 in
theorem place_calls (l : List H) (id : H) (v : Value) (w : World) (hl : SL hc 32 w v l) (hid : id.length = 32) :
    Calls Try.prog 57 #[v, hv id] w fun e w' => e = .returned (.int .i64 (firstI l id)) ∧ Below w.heap.size w w' := by
  obtain ⟨hlen, hbd, A, c, rfl, hlc, hcm, hrd⟩ := hl
  unfold hv
  go_enter Try.func57, Try.ntmps57
  go_wp2_with fail
  go_loopw [5, 6, 7, 8] (fun s5 _ _ _ wr => ∃ k : Nat, k ≤ l.length ∧ s5 = .int .i64 k ∧ Hid (shift k (firstI (l.drop k) id) = firstI l id) ∧ Below (w.heap.size + 1) (w.alloc (.cells (hc id).toArray 30)) wr) (fun i _ _ _ _ => l.length - (intOf i).toNat)
  case atStart => exact ⟨0, Nat.zero_le _, rfl, Lib.hid (by rw [List.drop_zero, shift_zero]), Below.refl _ _⟩
  case round =>
    obtain ⟨k, hk, rfl, hf, hb⟩ := hrel
    have hbw : Below w.heap.size w wr := ((Below.refl _ _).alloc (Nat.le_refl _) _).trans (hb.mono (Nat.le_succ _))
    by_cases hlt : k < l.length
    · obtain ⟨b, o, rfl, hrd2⟩ := hrd (by omega)
      have hr1 := range_below (hrd2 k l[k] (by simp)) hbw
      have hl1 : l[k].length = 32 := by rw [← hc_len]; exact hlen l[k] (by simp)
      have hhit := Lib.hid (firstI_hit l id k hlt)
      have hmiss := Lib.hid (firstI_miss l id k hlt)
      clear hlen hrd hrd2
      generalize l[k] = h at hr1 hl1 hhit hmiss
      have e1 := eqH hl1 hid
      have hcell : wr.heap[w.heap.size]? = some (.cells (hc id).toArray 30 (0,0)) := by
        rw [hb.block _ (by omega)]; exact heap_alloc_last w _
      have L1 : ∀ n, (Instr.loadAt 30 (.pointer (some ⟨b, o + k * 32, none⟩))).run Try.prog (wr.drewN n) = .ok (.agg (hc h).toArray) (wr.drewN n) := fun n =>
        run_loadAt_mid (wr.drewN n) b _ 30 (hc h) _ hr1 UH rfl (IHl hl1)
      have L2 : ∀ n, (Instr.loadAt 30 (.pointer (some ⟨w.heap.size, 0, none⟩))).run Try.prog (wr.drewN n) = .ok (.agg (hc id).toArray) (wr.drewN n) := fun n =>
        run_loadAt_row (wr.drewN n) _ 30 30 _ _ _ hcell UH rfl (IHa hid)
      clear hcell hl1 hid hr1
      cases hbe : (h == id)
      all_goals
        have H3 := Lib.hid hbe
        rw [hbe] at e1
        clear hbe
        go_wp2_with fail
        refine wp_region_quiet_lit (by kernel_rfl) (by kernel_rfl) ?_
        repeat (first | (refine wpQuiet_load rfl 30 _ rfl _ rfl _ (by rintro _ ⟨n, rfl⟩; first | exact L1 n | exact L2 n) ?_) | go_big_quiet_step (fail) | quiet_step (fail))
        refine wpQuiet_nil ?_
        intro _ hw'
        obtain ⟨nq, hw''⟩ := hw'
        subst hw''
        clear L1 L2
        go_wp2_with fail
      · go_roundw
        case rel => exact ⟨k + 1, by omega, by go_num, Lib.hid ((hmiss.out H3.out).symm.trans hf.out), bdN hb _⟩
        case measure => simp [intOf] <;> omega
      · go_ret
        exact ⟨ret_int ((hhit.out H3.out).symm.trans hf.out), bdN hbw _⟩
    · clear hlen hrd
      go_wp2_with fail
      go_ret
      exact ⟨ret_int ((firstI_end l id k (by omega)).symm.trans hf.out), hbw⟩

set_option maxHeartbeats 1000000 in
theorem rlast_calls (a b : List H) (va vb : Value) (w : World) (ha : SL hc 32 w va a) (hb : SL hc 32 w vb b) :
    Calls Try.prog 20 #[va, vb] w fun e w' => e = .returned (lastP a b) ∧ Below w.heap.size w w' := by
  obtain ⟨hlen, hbd, A, c, rfl, hlc, hcm, hrd⟩ := ha
  go_enter Try.func20, Try.ntmps20
  go_wp2_with fail
  go_loopw [6, 7, 8, 9] (fun s6 s7 s8 _ wr => ∃ (n : Nat) (x y : Int), n ≤ a.length ∧ s8 = .int .i64 n ∧ s6 = .int .i64 x ∧ s7 = .int .i64 y ∧ Hid (lastU a b n = (x, y)) ∧ Below w.heap.size w wr) (fun _ _ i _ _ => a.length - (intOf i).toNat)
  case atStart => exact ⟨0, _, _, Nat.zero_le _, rfl, rfl, rfl, Lib.hid rfl, Below.refl _ _⟩
  case round =>
    obtain ⟨n, x, y, hn, rfl, rfl, rfl, hf, hbw⟩ := hrel
    by_cases hlt : n < a.length
    · obtain ⟨b0, o, rfl, hrd2⟩ := hrd (by omega)
      have hr1 := range_below (hrd2 n a[n] (by simp)) hbw
      have hl1 : a[n].length = 32 := by rw [← hc_len]; exact hlen a[n] (by simp)
      have hhit := Lib.hid (lastU_hit a b n hlt)
      have hmiss := Lib.hid (lastU_miss a b n hlt)
      have hb2 := hb.below hbw
      clear hlen hrd hrd2
      generalize a[n] = h at hr1 hl1 hhit hmiss
      have i1 := IHl hl1
      have H1 := Lib.hid hl1
      clear hl1
      have hge := firstI_ge b h
      have hlt2 := firstI_lt b h
      have hbb := hb.bd
      have hcall := fun (wx : World) (hh : SL hc 32 wx vb b) => place_calls b h vb wx hh H1.out
      have Hcall := Lib.hid hcall
      clear hcall
      generalize firstI b h = r at *
      by_cases hr0 : 0 ≤ r
      all_goals
        go_wp2_with (first | (refine wpList_load_mid rfl 30 _ rfl b0 (o + n * 32) rfl (hc h) _ (by assumption) UH rfl (by assumption) ?_) | (go_at_call 57; refine (Hcall.out _ hb2).mono ?_; rintro e w1 ⟨rfl, hb1⟩))
      · go_roundw
        case rel => exact ⟨n + 1, _, _, by omega, by go_num, rfl, rfl, Lib.hid (hhit.out hr0), below_up hbw hb1⟩
        case measure => simp [intOf] <;> omega
      · go_roundw
        case rel => exact ⟨n + 1, _, _, by omega, by go_num, rfl, rfl, Lib.hid ((hmiss.out (by omega)).trans hf.out), below_up hbw hb1⟩
        case measure => simp [intOf] <;> omega
    · obtain rfl : n = a.length := by omega
      clear hlen hrd hb
      go_wp2_with fail
      go_ret2
      exact ⟨ret_last hf.out, hbw⟩
end Go.Proofs.Ytcgibofjlicicaa.Common
