import Derived.Test.YtihdeanfcbiflaaDoorProg
import Derived.Test.YtihdeanfcbiflaaDoorMk
/- The walks of chapter 40's functions: the first place of an id, the last common one, all common ones. -/
namespace Go.Proofs.YtihdeanfcbiflaaDoor.Common
open Go.RowKit Go.Proofs.YtihdeanfcbiflaaDoor.Mk
open Extern.Stop (cell)
theorem IH : (Tryd.prog.info? 74).map (·.size) = some 32 := by kernel_rfl
theorem IHi : (Tryd.prog.info? 74).map (fun i => (i.zero, i.size, i.bytes)) = some (some (hv (List.replicate 32 0)), 32, 32) := by kernel_rfl
theorem UHs : Tryd.prog.underlying 35 = some (.slice 74) := by kernel_rfl
theorem UH : Tryd.prog.underlying 74 = some (.array 32 5) := by kernel_rfl
theorem UB : Tryd.prog.underlying 5 = some (.int .u8) := by kernel_rfl
theorem IHl {h : List UInt8} (hl : h.length = 32) : (Tryd.prog.info? 74).map (·.size) = some (hc h).length := by rw [IH, hc_len, hl]
theorem IHa {h : List UInt8} (hl : h.length = 32) : (Tryd.prog.info? 74).map (·.size) = some (hc h).toArray.size := by rw [IH]; simp [hc_len, hl]
theorem eqH {x y : List UInt8} (hx : x.length = 32) (hy : y.length = 32) : ∀ wx, (binOp .eql 74 (.agg (hc x).toArray) (.agg (hc y).toArray)).run Tryd.prog wx = .ok (.bool (x == y)) wx :=
  fun wx => run_eql_bytes (P := Tryd.prog) wx 74 5 32 UH UB Tryd.sizeOf5 x y hx hy
theorem neH {x y : List UInt8} (hx : x.length = 32) (hy : y.length = 32) : ∀ wx, (binOp .neq 74 (.agg (hc x).toArray) (.agg (hc y).toArray)).run Tryd.prog wx = .ok (.bool (!(x == y))) wx :=
  fun wx => run_neq_bytes (P := Tryd.prog) wx 74 5 32 UH UB Tryd.sizeOf5 x y hx hy

abbrev H := List UInt8
/-- the first place of an id, -1 if there is none -/
def firstI : List H → H → Int
  | [], _ => -1
  | x :: l, id => if x == id then 0 else if firstI l id < 0 then -1 else firstI l id + 1
def shift (k : Nat) (r : Int) : Int := if r < 0 then -1 else r + k
theorem firstI_ge (l : List H) (id : H) : -1 ≤ firstI l id := by
  induction l with
  | nil => simp [firstI]
  | cons x l ih => unfold firstI; split <;> (try split) <;> omega
theorem shift_zero (l : List H) (id : H) : shift 0 (firstI l id) = firstI l id := by
  have := firstI_ge l id
  unfold shift; split <;> omega
theorem firstI_hit (l : List H) (id : H) (k : Nat) (h : k < l.length) (he : (l[k] == id) = true) : shift k (firstI (l.drop k) id) = k := by
  rw [List.drop_eq_getElem_cons h, firstI, if_pos he]
  unfold shift; simp
theorem firstI_miss (l : List H) (id : H) (k : Nat) (h : k < l.length) (he : (l[k] == id) = false) : shift k (firstI (l.drop k) id) = shift (k + 1) (firstI (l.drop (k + 1)) id) := by
  rw [List.drop_eq_getElem_cons h, firstI, if_neg (by simp [he])]
  have := firstI_ge (l.drop (k + 1)) id
  unfold shift
  repeat' split
  all_goals omega
theorem firstI_end (l : List H) (id : H) (k : Nat) (h : l.length ≤ k) : shift k (firstI (l.drop k) id) = -1 := by
  rw [List.drop_eq_nil_of_le h]; rfl
theorem firstI_lt (l : List H) (id : H) : firstI l id < l.length := by
  induction l with
  | nil => simp [firstI]
  | cons x l ih => unfold firstI; rw [List.length_cons]; split <;> (try split) <;> omega

theorem ret_int {k : IntKind} {a b : Int} (h : a = b) : Ending.returned (.int k a) = .returned (.int k b) := by rw [h]

set_option maxHeartbeats 1000000 in
set_option maxRecDepth 100000 in
theorem first_calls (l : List H) (id : H) (v : Value) (w : World) (hl : SL hc 32 w v l) (hid : id.length = 32) :
    Calls Tryd.prog 46 #[v, hv id] w fun e w' => e = .returned (.int .i64 (firstI l id)) ∧ Below w.heap.size w w' := by
  have hl0 := hl
  obtain ⟨hlen, hbd, A, c, rfl, hlc, hcm, hrd⟩ := hl
  unfold hv
  go_enter Tryd.func46, Tryd.ntmps46
  go_wp2_with fail
  go_loopw [5, 6, 9] (fun s5 s6 s9 wr => ∃ k : Nat, k ≤ l.length ∧ s9 = .int .i64 k ∧ Hid (shift k (firstI (l.drop k) id) = firstI l id) ∧ Below (w.heap.size + 1) (w.alloc (.cells (hc id).toArray 74)) wr) (fun _ _ i _ => l.length - (intOf i).toNat)
  case atStart => exact ⟨0, Nat.zero_le _, rfl, Lib.hid (by rw [List.drop_zero, shift_zero]), Below.refl _ _⟩
  case round =>
    obtain ⟨k, hk, rfl, hf, hb⟩ := hrel
    have hbw : Below w.heap.size w wr := ((Below.refl _ _).alloc (Nat.le_refl _) _).trans (hb.mono (Nat.le_succ _))
    by_cases hlt : k < l.length
    · obtain ⟨b, o, rfl, hrd2⟩ := hrd (by omega)
      have hr1 := range_below (hrd2 k l[k] (by simp)) hbw
      have hl1 : l[k].length = 32 := by rw [← hc_len]; exact hlen l[k] (by simp)
      have hhit := Lib.hid (firstI_hit l id k hlt)
      have hmiss := Lib.hid (firstI_miss l id k hlt)
      clear hlen hrd hrd2 hl0
      generalize l[k] = h at hr1 hl1 hhit hmiss
      have i1 := IHl hl1
      have i2 := IHa hid
      have e1 := eqH hl1 hid
      have hcell : wr.heap[w.heap.size]? = some (.cells (hc id).toArray 74 (0,0)) := by
        rw [hb.block _ (by omega)]; exact heap_alloc_last w _
      have hsz : w.heap.size < wr.heap.size := by have := hb.size; simp at this; omega
      have hcell2 : ∀ ob, (wr.alloc ob).heap[w.heap.size]? = some (.cells (hc id).toArray 74 (0,0)) := fun ob => (Below.heap_alloc _ _ _ hsz).trans hcell
      have H1 := Lib.hid hl1
      have i3 := IHa hl1
      have H0 := Lib.hid (show (0 : Nat) = 0 from rfl)
      clear hcell hl1 hid
      cases hbe : (h == id)
      all_goals
        have H3 := Lib.hid hbe
        rw [hbe] at e1
        clear hbe
        go_wp2_with (first | (refine wpList_load_mid rfl 74 _ rfl b (o + k * 32) rfl (hc h) _ (by assumption) UH rfl (by assumption) ?_) | (refine wpList_store_last rfl 74 _ _ rfl _ (hc h).toArray rfl rfl (by assumption) (by simp [hc_len, H1.out]) (hc_one _) ?_) | (refine wpList_load_row rfl 74 _ rfl _ rfl _ _ _ _ (heap_alloc_last _ _) UH rfl i3 ?_) | (refine wpList_load_row rfl 74 _ rfl _ rfl _ _ _ _ (hcell2 _) UH rfl i2 ?_))
      · go_roundw
        case rel => exact ⟨k + 1, by omega, by go_num, Lib.hid ((hmiss.out H3.out).symm.trans hf.out), hb.alloc (by omega) _⟩
        case measure => simp [intOf] <;> omega
      · go_ret
        exact ⟨ret_int ((hhit.out H3.out).symm.trans hf.out), hbw.alloc (by omega) _⟩
    · go_wp2
      go_ret
      exact ⟨ret_int ((firstI_end l id k (by omega)).symm.trans hf.out), hbw⟩

/-- the last place of a list whose id stands in another one, and its first place there, of the first n -/
def lastU (a b : List H) : Nat → Int × Int
  | 0 => (-1, -1)
  | n + 1 => if 0 ≤ firstI b (a.getD n []) then ((n : Int), firstI b (a.getD n [])) else lastU a b n
def lastP (a b : List H) : Value := .tuple #[.int .i64 (lastU a b a.length).1, .int .i64 (lastU a b a.length).2]
theorem lastU_hit (a b : List H) (n : Nat) (h : n < a.length) (hr : 0 ≤ firstI b a[n]) : lastU a b (n + 1) = ((n : Int), firstI b a[n]) := by
  have e : a.getD n [] = a[n] := by simp [List.getD_eq_getElem?_getD, h]
  rw [lastU, e, if_pos hr]
theorem lastU_miss (a b : List H) (n : Nat) (h : n < a.length) (hr : firstI b a[n] < 0) : lastU a b (n + 1) = lastU a b n := by
  have e : a.getD n [] = a[n] := by simp [List.getD_eq_getElem?_getD, h]
  rw [lastU, e, if_neg (by omega)]
theorem lastP_of (a b : List H) {x y : Int} (h : lastU a b a.length = (x, y)) : lastP a b = .tuple #[.int .i64 x, .int .i64 y] := by unfold lastP; rw [h]
theorem ret_last {a b : List H} {x y : Int} (h : lastU a b a.length = (x, y)) : Ending.returned (.tuple #[.int .i64 x, .int .i64 y]) = .returned (lastP a b) := by rw [lastP_of a b h]

set_option maxHeartbeats 1000000 in
set_option maxRecDepth 100000 in
theorem last_calls (a b : List H) (va vb : Value) (w : World) (ha : SL hc 32 w va a) (hb : SL hc 32 w vb b) :
    Calls Tryd.prog 27 #[va, vb] w fun e w' => e = .returned (lastP a b) ∧ Below w.heap.size w w' := by
  obtain ⟨hlen, hbd, A, c, rfl, hlc, hcm, hrd⟩ := ha
  go_enter Tryd.func27, Tryd.ntmps27
  go_wp2_with fail
  go_loopw [6, 7] (fun s6 _ wr => ∃ (n : Nat) (x : Int), n ≤ a.length ∧ x = (n : Int) - 1 ∧ s6 = .int .i64 x ∧ Hid (lastU a b n = lastU a b a.length) ∧ Below w.heap.size w wr) (fun i _ _ => (intOf i + 1).toNat)
  case atStart => exact ⟨a.length, _, Nat.le_refl _, rfl, rfl, Lib.hid rfl, Below.refl _ _⟩
  case round =>
    obtain ⟨n, x, hn, hx, rfl, hf, hbw⟩ := hrel
    cases n with
    | zero =>
      obtain rfl : x = -1 := by omega
      clear hx hlen hrd hb
      go_wp2_with fail
      go_ret2
      exact ⟨ret_last (hf.out.symm.trans rfl), hbw⟩
    | succ m =>
      obtain rfl : x = (m : Int) := by omega
      clear hx
      obtain ⟨b0, o, rfl, hrd2⟩ := hrd (by omega)
      have hr1 := range_below (hrd2 m a[m] (by simp)) hbw
      have hl1 : a[m].length = 32 := by rw [← hc_len]; exact hlen a[m] (by simp)
      have hhit := Lib.hid (lastU_hit a b m (by omega))
      have hmiss := Lib.hid (lastU_miss a b m (by omega))
      have hb2 := hb.below hbw
      clear hlen hrd hrd2
      generalize a[m] = h at hr1 hl1 hhit hmiss
      have i1 := IHl hl1
      have H1 := Lib.hid hl1
      clear hl1
      have hge := firstI_ge b h
      have hlt := firstI_lt b h
      have hbb := hb.bd
      have hcall := fun (wx : World) (hh : SL hc 32 wx vb b) => first_calls b h vb wx hh H1.out
      have Hcall := Lib.hid hcall
      clear hcall
      generalize firstI b h = r at *
      by_cases hr0 : 0 ≤ r
      all_goals
        go_wp2_with (first | (refine wpList_load_mid rfl 74 _ rfl b0 (o + m * 32) rfl (hc h) _ (by assumption) UH rfl (by assumption) ?_) | (go_at_call 46; refine (Hcall.out _ hb2).mono ?_; rintro e w1 ⟨rfl, hb1⟩))
      · go_ret2
        exact ⟨ret_last (hf.out.symm.trans (hhit.out hr0)), below_up hbw hb1⟩
      · go_roundw
        case rel => exact ⟨m, _, by omega, rfl, rfl, Lib.hid ((hmiss.out (by omega)).symm.trans hf.out), below_up hbw hb1⟩
        case measure => simp [intOf] <;> omega
end Go.Proofs.YtihdeanfcbiflaaDoor.Common

/- The walks of the document's Last and of chapter 40's example. -/
namespace Go.Proofs.YtihdeanfcbiflaaDoor.Common
open Go.RowKit Go.Proofs.YtihdeanfcbiflaaDoor.Mk
open Extern.Stop (cell)

set_option maxHeartbeats 1000000 in
set_option maxRecDepth 100000 in
theorem place_calls (l : List H) (id : H) (v : Value) (w : World) (hl : SL hc 32 w v l) (hid : id.length = 32) :
    Calls Tryd.prog 31 #[v, hv id] w fun e w' => e = .returned (.int .i64 (firstI l id)) ∧ Below w.heap.size w w' := by
  obtain ⟨hlen, hbd, A, c, rfl, hlc, hcm, hrd⟩ := hl
  unfold hv
  go_enter Tryd.func31, Tryd.ntmps31
  go_wp2_with fail
  go_loopw [5, 6, 7, 8] (fun s5 _ _ _ wr => ∃ k : Nat, k ≤ l.length ∧ s5 = .int .i64 k ∧ Hid (shift k (firstI (l.drop k) id) = firstI l id) ∧ Below (w.heap.size + 1) (w.alloc (.cells (hc id).toArray 74)) wr) (fun i _ _ _ _ => l.length - (intOf i).toNat)
  case atStart => exact ⟨0, Nat.zero_le _, rfl, Lib.hid (by rw [List.drop_zero, shift_zero]), Below.refl _ _⟩
  case round =>
    obtain ⟨k, hk, rfl, hf, hb⟩ := hrel
    have hbw : Below w.heap.size w wr := ((Below.refl _ _).alloc (Nat.le_refl _) _).trans (hb.mono (Nat.le_succ _))
    by_cases hlt : k < l.length
    · obtain ⟨b, o, rfl, hrd2⟩ := hrd (by omega)
      have hr1 := range_below (hrd2 k l[k] (by simp)) hbw
      have hl1 : l[k].length = 32 := by rw [← hc_len]; exact hlen l[k] (by simp)
      have hhit := Lib.hid (firstI_hit l id k hlt)
      have hmiss := Lib.hid (firstI_miss l id k hlt)
      clear hlen hrd hrd2
      generalize l[k] = h at hr1 hl1 hhit hmiss
      have e1 := eqH hl1 hid
      have hcell : wr.heap[w.heap.size]? = some (.cells (hc id).toArray 74 (0,0)) := by
        rw [hb.block _ (by omega)]; exact heap_alloc_last w _
      have L1 : ∀ n, (Instr.loadAt 74 (.pointer (some ⟨b, o + k * 32, none⟩))).run Tryd.prog (wr.drewN n) = .ok (.agg (hc h).toArray) (wr.drewN n) := fun n =>
        run_loadAt_mid (wr.drewN n) b _ 74 (hc h) _ hr1 UH rfl (IHl hl1)
      have L2 : ∀ n, (Instr.loadAt 74 (.pointer (some ⟨w.heap.size, 0, none⟩))).run Tryd.prog (wr.drewN n) = .ok (.agg (hc id).toArray) (wr.drewN n) := fun n =>
        run_loadAt_row (wr.drewN n) _ 74 74 _ _ _ hcell UH rfl (IHa hid)
      clear hcell hl1 hid hr1
      cases hbe : (h == id)
      all_goals
        have H3 := Lib.hid hbe
        rw [hbe] at e1
        clear hbe
        go_wp2_with fail
        refine wp_region_quiet_lit (by kernel_rfl) (by kernel_rfl) ?_
        repeat (first | (refine wpQuiet_load rfl 74 _ rfl _ rfl _ (by rintro _ ⟨n, rfl⟩; first | exact L1 n | exact L2 n) ?_) | go_big_quiet_step (fail) | quiet_step (fail))
        refine wpQuiet_nil ?_
        intro _ hw'
        obtain ⟨nq, hw''⟩ := hw'
        subst hw''
        clear L1 L2
        go_wp2_with fail
      · go_roundw
        case rel => exact ⟨k + 1, by omega, by go_num, Lib.hid ((hmiss.out H3.out).symm.trans hf.out), bdN hb _⟩
        case measure => simp [intOf] <;> omega
      · go_ret
        exact ⟨ret_int ((hhit.out H3.out).symm.trans hf.out), bdN hbw _⟩
    · clear hlen hrd
      go_wp2_with fail
      go_ret
      exact ⟨ret_int ((firstI_end l id k (by omega)).symm.trans hf.out), hbw⟩

set_option maxHeartbeats 1000000 in
set_option maxRecDepth 100000 in
theorem rlast_calls (a b : List H) (va vb : Value) (w : World) (ha : SL hc 32 w va a) (hb : SL hc 32 w vb b) :
    Calls Tryd.prog 12 #[va, vb] w fun e w' => e = .returned (lastP a b) ∧ Below w.heap.size w w' := by
  obtain ⟨hlen, hbd, A, c, rfl, hlc, hcm, hrd⟩ := ha
  go_enter Tryd.func12, Tryd.ntmps12
  go_wp2_with fail
  go_loopw [6, 7, 8, 9] (fun s6 s7 s8 _ wr => ∃ (n : Nat) (x y : Int), n ≤ a.length ∧ s8 = .int .i64 n ∧ s6 = .int .i64 x ∧ s7 = .int .i64 y ∧ Hid (lastU a b n = (x, y)) ∧ Below w.heap.size w wr) (fun _ _ i _ _ => a.length - (intOf i).toNat)
  case atStart => exact ⟨0, _, _, Nat.zero_le _, rfl, rfl, rfl, Lib.hid rfl, Below.refl _ _⟩
  case round =>
    obtain ⟨n, x, y, hn, rfl, rfl, rfl, hf, hbw⟩ := hrel
    by_cases hlt : n < a.length
    · obtain ⟨b0, o, rfl, hrd2⟩ := hrd (by omega)
      have hr1 := range_below (hrd2 n a[n] (by simp)) hbw
      have hl1 : a[n].length = 32 := by rw [← hc_len]; exact hlen a[n] (by simp)
      have hhit := Lib.hid (lastU_hit a b n hlt)
      have hmiss := Lib.hid (lastU_miss a b n hlt)
      have hb2 := hb.below hbw
      clear hlen hrd hrd2
      generalize a[n] = h at hr1 hl1 hhit hmiss
      have i1 := IHl hl1
      have H1 := Lib.hid hl1
      clear hl1
      have hge := firstI_ge b h
      have hlt2 := firstI_lt b h
      have hbb := hb.bd
      have hcall := fun (wx : World) (hh : SL hc 32 wx vb b) => place_calls b h vb wx hh H1.out
      have Hcall := Lib.hid hcall
      clear hcall
      generalize firstI b h = r at *
      by_cases hr0 : 0 ≤ r
      all_goals
        go_wp2_with (first | (refine wpList_load_mid rfl 74 _ rfl b0 (o + n * 32) rfl (hc h) _ (by assumption) UH rfl (by assumption) ?_) | (go_at_call 31; refine (Hcall.out _ hb2).mono ?_; rintro e w1 ⟨rfl, hb1⟩))
      · go_roundw
        case rel => exact ⟨n + 1, _, _, by omega, by go_num, rfl, rfl, Lib.hid (hhit.out hr0), below_up hbw hb1⟩
        case measure => simp [intOf] <;> omega
      · go_roundw
        case rel => exact ⟨n + 1, _, _, by omega, by go_num, rfl, rfl, Lib.hid ((hmiss.out (by omega)).trans hf.out), below_up hbw hb1⟩
        case measure => simp [intOf] <;> omega
    · obtain rfl : n = a.length := by omega
      clear hlen hrd hb
      go_wp2_with fail
      go_ret2
      exact ⟨ret_last hf.out, hbw⟩
end Go.Proofs.YtihdeanfcbiflaaDoor.Common
