/- The walks of the law's own helpers: does an id stand in a list, does each stand once, are two lists the same. -/
import Derived.Test.YtcgibofjlicicaaCommonE
namespace Go.Proofs.Ytcgibofjlicicaa.Common
open Go.RowKit Go.Proofs.Ytcgibofjlicicaa.Mk
/-- does an id stand in a list? -/
def standsB (l : List H) (id : H) : Bool := decide (0 ≤ firstI l id)
theorem stands_hit (l : List H) (id : H) (k : Nat) (h : k < l.length) (he : (l[k] == id) = true) (hf : shift k (firstI (l.drop k) id) = firstI l id) : standsB l id = true := by
  rw [firstI_hit l id k h he] at hf
  unfold standsB
  rw [← hf]; simp
theorem stands_end (l : List H) (id : H) (k : Nat) (h : l.length ≤ k) (hf : shift k (firstI (l.drop k) id) = firstI l id) : standsB l id = false := by
  rw [firstI_end l id k h] at hf
  unfold standsB
  rw [← hf]; rfl
theorem ret_bool {a b : Bool} (h : a = b) : Ending.returned (.bool a) = .returned (.bool b) := by rw [h]
set_option maxHeartbeats 1000000 in
theorem stands_calls (l : List H) (id : H) (v : Value) (w : World) (hl : SL hc 32 w v l) (hid : id.length = 32) :
    Calls Try.prog 22 #[v, hv id] w fun e w' => e = .returned (.bool (standsB l id)) ∧ Below w.heap.size w w' := by
  obtain ⟨hlen, hbd, A, c, rfl, hlc, hcm, hrd⟩ := hl
  unfold hv
  go_enter Try.func22, Try.ntmps22
  go_wp2_with fail
  go_loopw [5, 6, 7, 8] (fun s5 _ _ _ wr => ∃ k : Nat, k ≤ l.length ∧ s5 = .int .i64 k ∧ Hid (shift k (firstI (l.drop k) id) = firstI l id) ∧ Below (w.heap.size + 1) (w.alloc (.cells (hc id).toArray 30)) wr) (fun i _ _ _ _ => l.length - (intOf i).toNat)
  case atStart => exact ⟨0, Nat.zero_le _, rfl, Lib.hid (by rw [List.drop_zero, shift_zero]), Below.refl _ _⟩
  case round =>
    obtain ⟨k, hk, rfl, hf, hb⟩ := hrel
    have hbw : Below w.heap.size w wr := ((Below.refl _ _).alloc (Nat.le_refl _) _).trans (hb.mono (Nat.le_succ _))
    by_cases hlt : k < l.length
    · obtain ⟨b, o, rfl, hrd2⟩ := hrd (by omega)
      have hr1 := range_below (hrd2 k l[k] (by simp)) hbw
      have hl1 : l[k].length = 32 := by rw [← hc_len]; exact hlen l[k] (by simp)
      have hhit := Lib.hid (fun he => stands_hit l id k hlt he hf.out)
      have hmiss := Lib.hid (firstI_miss l id k hlt)
      clear hlen hrd hrd2
      generalize l[k] = h at hr1 hl1 hhit hmiss
      have e1 := eqH hl1 hid
      have hcell : wr.heap[w.heap.size]? = some (.cells (hc id).toArray 30 (0,0)) := by
        rw [hb.block _ (by omega)]; exact heap_alloc_last w _
      have L1 : ∀ n, (Instr.loadAt 30 (.pointer (some ⟨b, o + k * 32, none⟩))).run Try.prog (wr.drewN n) = .ok (.agg (hc h).toArray) (wr.drewN n) := fun n =>
        run_loadAt_mid (wr.drewN n) b _ 30 (hc h) _ hr1 UH rfl (IHl hl1)
      have L2 : ∀ n, (Instr.loadAt 30 (.pointer (some ⟨w.heap.size, 0, none⟩))).run Try.prog (wr.drewN n) = .ok (.agg (hc id).toArray) (wr.drewN n) := fun n =>
        run_loadAt_row (wr.drewN n) _ 30 30 _ _ _ hcell UH rfl (IHa hid)
      clear hcell hl1 hid hr1
      cases hbe : (h == id)
      all_goals
        have H3 := Lib.hid hbe
        rw [hbe] at e1
        clear hbe
        go_wp2_with fail
        refine wp_region_quiet_lit (by kernel_rfl) (by kernel_rfl) ?_
        repeat (first | (refine wpQuiet_load rfl 30 _ rfl _ rfl _ (by rintro _ ⟨n, rfl⟩; first | exact L1 n | exact L2 n) ?_) | go_big_quiet_step (fail) | quiet_step (fail))
        refine wpQuiet_nil ?_
        intro _ hw'
        obtain ⟨nq, hw''⟩ := hw'
        subst hw''
        clear L1 L2
        go_wp2_with fail
      · go_roundw
        case rel => exact ⟨k + 1, by omega, by go_num, Lib.hid ((hmiss.out H3.out).symm.trans hf.out), bdN hb _⟩
        case measure => simp [intOf] <;> omega
      · go_ret
        exact ⟨ret_bool (hhit.out H3.out).symm, bdN hbw _⟩
    · clear hlen hrd
      go_wp2_with fail
      go_ret
      exact ⟨ret_bool (stands_end l id k (by omega) hf.out).symm, hbw⟩

/-- does each id stand once (the first n)? -/
def onceN (l : List H) : Nat → Bool
  | 0 => true
  | n + 1 => onceN l n && !standsB (l.take n) (l.getD n [])
theorem once_false (l : List H) (k : Nat) (hk : k ≤ l.length) (h : onceN l k = false) : onceN l l.length = false := by
  obtain ⟨m, hm⟩ : ∃ m, l.length = k + m := ⟨l.length - k, by omega⟩
  rw [hm]
  clear hm hk
  induction m with
  | zero => exact h
  | succ m ih => rw [← Nat.add_assoc, onceN, ih]; rfl
set_option maxHeartbeats 1000000 in
theorem once_calls (l : List H) (v : Value) (w : World) (hl : SL hc 32 w v l) :
    Calls Try.prog 23 #[v] w fun e w' => e = .returned (.bool (onceN l l.length)) ∧ Below w.heap.size w w' := by
  have hl0 := hl
  obtain ⟨hlen, hbd, A, c, rfl, hlc, hcm, hrd⟩ := hl
  go_enter Try.func23, Try.ntmps23
  go_wp2_with fail
  go_loopw [3, 4, 5, 6] (fun s3 _ _ _ wr => ∃ k : Nat, k ≤ l.length ∧ s3 = .int .i64 k ∧ Hid (onceN l k = true) ∧ Below w.heap.size w wr) (fun i _ _ _ _ => l.length - (intOf i).toNat)
  case atStart => exact ⟨0, Nat.zero_le _, rfl, Lib.hid rfl, Below.refl _ _⟩
  case round =>
    obtain ⟨k, hk, rfl, hf, hbw⟩ := hrel
    by_cases hlt : k < l.length
    · obtain ⟨b, o, rfl, hrd2⟩ := hrd (by omega)
      have hr1 := range_below (hrd2 k l[k] (by simp)) hbw
      have hl1 : l[k].length = 32 := by rw [← hc_len]; exact hlen l[k] (by simp)
      have hsl := (hl0.below hbw).take k hk
      have hts : ∀ wx, Below wr.heap.size wr wx → Calls Try.prog 22 #[.slice (some ⟨b, o, none⟩) k c, .agg (hc l[k]).toArray] wx fun e w' => e = .returned (.bool (standsB (l.take k) l[k])) ∧ Below wx.heap.size wx w' := fun wx hbx => stands_calls (l.take k) l[k] _ wx (hsl.below hbx) hl1
      have hon : Hid (onceN l (k + 1) = !standsB (l.take k) l[k]) := by
        refine Lib.hid ?_
        rw [onceN, hf.out, Bool.true_and, List.getD_eq_getElem?_getD, List.getElem?_eq_getElem hlt]
        rfl
      clear hsl hl0 hlen hrd hrd2
      generalize standsB (l.take k) l[k] = q at hts hon
      generalize l[k] = h at hts hr1 hl1
      have L1 : ∀ wx, Below wr.heap.size wr wx → (Instr.loadAt 30 (.pointer (some ⟨b, o + k * 32, none⟩))).run Try.prog wx = .ok (.agg (hc h).toArray) wx := fun wx hbx =>
        run_loadAt_mid wx b _ 30 (hc h) _ (range_below hr1 hbx) UH rfl (IHl hl1)
      clear hr1 hl1
      have hkc : k ≤ c := by omega
      cases q
      all_goals
        go_wp2_with fail
        refine wp_region_quiet_below (by kernel_rfl) (by kernel_rfl) ?_
        repeat (first | (refine wpQuiet_load rfl 30 _ rfl _ rfl _ (rg_fact L1) ?_) | ((refine wpQuiet_call rfl 22 _ ?_ _ (rg_of hts) ?_); focus (intro wx; go_simp; done)) | go_big_quiet_step (fail) | quiet_step (fail))
        refine wpQuiet_nil ?_
        rintro _ ⟨rp, rfl⟩
        have hb2 := below_regrown wr rp.d rp.os
        generalize Sort.grow (redrawn wr rp.d) rp.os = w2 at *
        clear L1 hts
        go_wp2_with fail
      · go_roundw
        case rel => exact ⟨k + 1, by omega, by go_num, Lib.hid hon.out, below_up hbw hb2⟩
        case measure => simp [intOf] <;> omega
      · go_ret
        exact ⟨ret_bool (once_false l (k + 1) (by omega) hon.out).symm, below_up hbw hb2⟩
    · obtain rfl : k = l.length := by omega
      clear hlen hrd hl0
      go_wp2_with fail
      go_ret
      exact ⟨ret_bool hf.out.symm, hbw⟩

set_option maxHeartbeats 1000000 in
theorem ordered_calls (a b : List H) (va vb : Value) (w : World) (ha : SL hc 32 w va a) (hb : SL hc 32 w vb b) :
    Calls Try.prog 24 #[va, vb] w fun e w' => e = .returned (.bool (a == b)) ∧ Below w.heap.size w w' := by
  have hb0 := hb
  obtain ⟨hlen, hbd, A, c, rfl, hlc, hcm, hrd⟩ := ha
  obtain ⟨hlenb, hbdb, B, cb, rfl, hlcb, hcmb, hrdb⟩ := hb
  by_cases hne : a.length = b.length
  · have hq : ((a.length : Int) != (b.length : Int)) = false := by simp [hne]
    have hbl := Lib.hid hne
    have hle : a.length ≤ b.length := by omega
    have hle2 : b.length ≤ a.length := by omega
    clear hne
    go_enter Try.func24, Try.ntmps24
    go_wp2_with fail
    go_loopw [5, 11, 12, 13] (fun s5 _ _ _ wr => ∃ k : Nat, k ≤ a.length ∧ s5 = .int .i64 k ∧ Hid (a.take k = b.take k) ∧ Below w.heap.size w wr) (fun i _ _ _ _ => a.length - (intOf i).toNat)
    case atStart => exact ⟨0, Nat.zero_le _, rfl, Lib.hid rfl, Below.refl _ _⟩
    case round =>
      obtain ⟨k, hk, rfl, hf, hbw⟩ := hrel
      by_cases hlt : k < a.length
      · obtain ⟨b1, o1, rfl, hr1⟩ := hrd (by omega)
        obtain ⟨b2, o2, rfl, hr2⟩ := hrdb (by omega)
        have hltb : k < b.length := by omega
        have hr3 := range_below (hr1 k a[k] (by simp)) hbw
        have hr4 := range_below (hr2 k b[k] (by simp)) hbw
        have hl1 : a[k].length = 32 := by rw [← hc_len]; exact hlen a[k] (by simp)
        have hl2 : b[k].length = 32 := by rw [← hc_len]; exact hlenb b[k] (by simp)
        have hst : Hid ((a[k] == b[k]) = true → a.take (k + 1) = b.take (k + 1)) := Lib.hid fun h => by
          rw [List.take_succ_eq_append_getElem hlt, List.take_succ_eq_append_getElem hltb, hf.out, eq_of_beq h]
        have hno : Hid ((a[k] == b[k]) = false → (a == b) = false) := Lib.hid fun h => by
          rw [beq_eq_false_iff_ne] at h ⊢
          rintro rfl
          exact h rfl
        clear hlen hlenb hrd hrdb hr1 hr2 hb0
        generalize a[k] = x at *
        generalize b[k] = y at *
        have e1 := neH hl1 hl2
        have L1 : ∀ wx, Below wr.heap.size wr wx → (Instr.loadAt 30 (.pointer (some ⟨b1, o1 + k * 32, none⟩))).run Try.prog wx = .ok (.agg (hc x).toArray) wx := fun wx hbx =>
          run_loadAt_mid wx b1 _ 30 (hc x) _ (range_below hr3 hbx) UH rfl (IHl hl1)
        have L2 : ∀ wx, Below wr.heap.size wr wx → (Instr.loadAt 30 (.pointer (some ⟨b2, o2 + k * 32, none⟩))).run Try.prog wx = .ok (.agg (hc y).toArray) wx := fun wx hbx =>
          run_loadAt_mid wx b2 _ 30 (hc y) _ (range_below hr4 hbx) UH rfl (IHl hl2)
        clear hr3 hr4 hl1 hl2
        cases hbe : (x == y)
        all_goals
          have H3 := Lib.hid hbe
          rw [hbe] at e1
          clear hbe
          go_wp2_with fail
          refine wp_region_quiet_below (by kernel_rfl) (by kernel_rfl) ?_
          repeat (first | (refine wpQuiet_load rfl 30 _ rfl _ rfl _ (rg_fact L1) ?_) | (refine wpQuiet_load rfl 30 _ rfl _ rfl _ (rg_fact L2) ?_) | go_big_quiet_step (fail) | quiet_step (fail))
          refine wpQuiet_nil ?_
          rintro _ ⟨rp, rfl⟩
          have hb2 := below_regrown wr rp.d rp.os
          generalize Sort.grow (redrawn wr rp.d) rp.os = w2 at *
          clear L1 L2
          go_wp2_with fail
        · go_ret
          exact ⟨ret_bool (hno.out H3.out).symm, below_up hbw hb2⟩
        · go_roundw
          case rel => exact ⟨k + 1, by omega, by go_num, Lib.hid (hst.out H3.out), below_up hbw hb2⟩
          case measure => simp [intOf] <;> omega
      · have hfin : (a == b) = true := by
          have h1 := hf.out
          rw [List.take_of_length_le (by omega), List.take_of_length_le (by omega)] at h1
          rw [h1]
          exact beq_self_eq_true b
        clear hlen hlenb hrd hrdb hb0
        have Hfin := Lib.hid hfin
        clear hfin
        go_wp2_with fail
        go_ret
        exact ⟨ret_bool Hfin.out.symm, hbw⟩
  · have hq : ((a.length : Int) != (b.length : Int)) = true := by simp; omega
    have hfin : (a == b) = false := by
      rw [beq_eq_false_iff_ne]
      rintro rfl
      exact hne rfl
    have Hfin := Lib.hid hfin
    clear hfin hne hlen hlenb hrd hrdb hb0
    go_enter Try.func24, Try.ntmps24
    go_wp2_with fail
    go_ret
    exact ⟨ret_bool Hfin.out.symm, Below.refl _ _⟩
end Go.Proofs.Ytcgibofjlicicaa.Common
