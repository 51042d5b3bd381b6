/- The walk of chapter 9's back: a cursor takes what a step put. -/
import Derived.Deep.RegionHeld3
import Derived.Test.YtgdlhcopgfgmaaaBufK
import Derived.Test.YtgdlhcopgfgmaaaCurT
import Derived.Test.YtgdlhcopgfgmaaaStepG
namespace Go.Proofs.Ytgdlhcopgfgmaaa.Bk
open Go.RowKit Go.Proofs.Ytgdlhcopgfgmaaa.Mk Go.Proofs.Ytgdlhcopgfgmaaa.Cur Go.Proofs.Ytgdlhcopgfgmaaa.Buf
theorem raw_all (l m : List UInt8) (n : Nat) (h : l.length = n) : rawC ⟨l ++ m, 0⟩ n = (l, ⟨m, 0⟩) := by
  rw [raw_ok _ n (by rw [List.length_append]; omega), List.take_left' h, List.drop_left' h]
theorem byte_one (c : UInt8) (m : List UInt8) : byteC ⟨c :: m, 0⟩ = (c.toNat, ⟨m, 0⟩) := by
  have := raw_all [c] m 1 rfl
  rw [show ((1 : Nat) : Int) = 1 from rfl] at this
  unfold byteC
  rw [show c :: m = [c] ++ m from rfl, this]
  rfl
theorem num_put (n : Nat) (m : List UInt8) (hn : n < 18446744073709551616) : numC ⟨Num.putL n ++ m, 0⟩ n = (n, ⟨m, 0⟩) := by
  have h := Num.takeR_put n hn m
  rw [num_ok _ n (by rw [h]) (by rw [h]; exact Nat.lt_irrefl n), h]
  simp
theorem num_put_le (n k : Nat) (m : List UInt8) (hn : n < 18446744073709551616) (hk : n ≤ k) : numC ⟨Num.putL n ++ m, 0⟩ k = (n, ⟨m, 0⟩) := by
  have h := Num.takeR_put n hn m
  rw [num_ok _ k (by rw [h]) (by rw [h]; simp only; omega), h]
  simp
theorem hash_put (l m : List UInt8) (h : l.length = 32) : hashC ⟨l ++ m, 0⟩ = (l, ⟨m, 0⟩) := by
  have := raw_all l m 32 h
  rw [show ((32 : Nat) : Int) = 32 from rfl] at this
  unfold hashC
  rw [this]
  simp [h]
theorem text_put (l m : List UInt8) (h : l.length < 9223372036854775808) : textC ⟨Num.putL l.length ++ (l ++ m), 0⟩ l.length = (l, ⟨m, 0⟩) := by
  unfold textC
  have e : (max (l.length : Int) 0).toNat = l.length := by omega
  rw [e, num_put _ _ (by omega)]
  exact raw_all l m _ rfl
/-- what a back leaves -/
def BP (b : Nat) (m : List UInt8) (w : World) (r : Ending) (w' : World) : Prop := r = .returned (.bool true) ∧ CU b ⟨m, 0⟩ w' ∧ CW b w w'
theorem bp_of {b : Nat} {m : List UInt8} {w W w3 : World} (hB : Below w.heap.size w W) (hu : CU b ⟨m, 0⟩ w3) (hw : CW b W.drew w3) : BP b m w (.returned (.bool true)) w3 :=
  ⟨rfl, hu, (But.of_below hB.drew).trans hw (fun _ _ e => e)⟩
set_option maxHeartbeats 4000000 in
set_option maxRecDepth 100000 in
theorem back1 (b : Nat) (s : ByteArray) (n : Nat) (hh m : List UInt8) (w : World) (h : CU b ⟨bs s ++ bs s ++ m, 0⟩ w) (hl : (bs s ++ bs s ++ m).length ≤ 9223372036854775807) :
    Calls Try.prog 44 #[.pointer (some ⟨b, 0, none⟩), stepV 1 s n hh] w (BP b m w) := by
  obtain ⟨cs, hcs⟩ : ∃ cs, cs = (stepC 1 s n hh).toArray := ⟨_, rfl⟩
  have hvv : stepV 1 s n hh = .agg cs := by rw [hcs]; rfl
  rw [hvv]
  have Z : (w.alloc (.cells cs 77)).heap[w.heap.size]? = some (.cells cs 77 (0, 0)) := heap_new _ _
  have hB0 : Below w.heap.size w (w.alloc (.cells cs 77)) := (Below.refl _ _).alloc (Nat.le_refl _) _
  have c0 : (w.alloc (.cells cs 77)).cell? ⟨w.heap.size, 0, none⟩ = some (.int .i64 1) := by rw [cell_of_row _ _ _ _ _ _ Z, hcs]; rfl
  have c1 : (w.alloc (.cells cs 77)).cell? ⟨w.heap.size, 1, none⟩ = some (.string s) := by rw [cell_of_row _ _ _ _ _ _ Z, hcs]; rfl
  have c2 : (w.alloc (.cells cs 77)).cell? ⟨w.heap.size, 2, none⟩ = some (.int .u64 n) := by rw [cell_of_row _ _ _ _ _ _ Z, hcs]; rfl
  have hbl := h.lt
  have HK := Lib.hid (show ∀ w3, CW b (w.alloc (.cells cs 77)).drew w3 → w3.heap[w.heap.size]? = some (.cells cs 77 (0, 0)) from fun w3 hw => (hw.block _ (by simp) (by omega)).trans Z)
  have hraw := raw_all (bs s ++ bs s) m (2 * s.size) (by rw [List.length_append, bs_len]; omega)
  have HR := Lib.hid (raw_calls b ⟨bs s ++ bs s ++ m, 0⟩ ((2 * s.size : Nat) : Int) (w.alloc (.cells cs 77)).drew (h.keep hB0.drew) hl (by simp only [List.length_append, bs_len] at hl; omega))
  rw [hraw, ← ba_append, ba_bs] at HR
  have e2 : ((2 * s.size : Nat) : Int) = 2 * (s.size : Int) := by omega
  rw [e2] at HR
  have w2 : IntKind.i64.wrap (2 * (s.size : Int)) = 2 * (s.size : Int) := by simp only [List.length_append, bs_len] at hl; rw [IntKind.wrap_i64]; omega
  have hss : ¬ 9223372036854775807 < s.size + s.size := by simp only [List.length_append, bs_len] at hl; omega
  have HC := Lib.hid (show ∀ w3, CW b (w.alloc (.cells cs 77)).drew w3 → w3.cell? ⟨w.heap.size, 1, none⟩ = some (.string s) from fun w3 hw => by rw [cell_of_row _ _ _ _ _ _ (HK.out w3 hw), hcs]; rfl)
  have HB := Lib.hid hB0
  clear hcs hvv Z hB0 hraw e2 h hl c2 hbl HK
  go_enter Try.func44, Try.ntmps44
  go_wp2_with fail
  go_region_held3 (fun w' => w'.cell? ⟨w.heap.size, 1, none⟩ = some (.string s)) (first | exact hc3 | go_keep) ((go_at_call 24; refine HR.out.mono ?_; rintro r w3 ⟨rfl, hu3, hw3⟩; have hc3 := HC.out w3 hw3))
  all_goals go_wp2_with fail
  all_goals go_ret
  all_goals exact bp_of HB.out hu3 hw3
set_option maxHeartbeats 4000000 in
set_option maxRecDepth 100000 in
theorem back2 (b : Nat) (s : ByteArray) (n : Nat) (hh m : List UInt8) (w : World) (h : CU b ⟨UInt8.ofNat (n % 256) :: m, 0⟩ w) (hl : (UInt8.ofNat (n % 256) :: m).length ≤ 9223372036854775807) :
    Calls Try.prog 44 #[.pointer (some ⟨b, 0, none⟩), stepV 2 s n hh] w (BP b m w) := by
  obtain ⟨cs, hcs⟩ : ∃ cs, cs = (stepC 2 s n hh).toArray := ⟨_, rfl⟩
  have hvv : stepV 2 s n hh = .agg cs := by rw [hcs]; rfl
  rw [hvv]
  have Z : (w.alloc (.cells cs 77)).heap[w.heap.size]? = some (.cells cs 77 (0, 0)) := heap_new _ _
  have hB0 : Below w.heap.size w (w.alloc (.cells cs 77)) := (Below.refl _ _).alloc (Nat.le_refl _) _
  have c0 : (w.alloc (.cells cs 77)).cell? ⟨w.heap.size, 0, none⟩ = some (.int .i64 2) := by rw [cell_of_row _ _ _ _ _ _ Z, hcs]; rfl
  have c1 : (w.alloc (.cells cs 77)).cell? ⟨w.heap.size, 1, none⟩ = some (.string s) := by rw [cell_of_row _ _ _ _ _ _ Z, hcs]; rfl
  have c2 : (w.alloc (.cells cs 77)).cell? ⟨w.heap.size, 2, none⟩ = some (.int .u64 n) := by rw [cell_of_row _ _ _ _ _ _ Z, hcs]; rfl
  have hbl := h.lt
  have HK := Lib.hid (show ∀ w3, CW b (w.alloc (.cells cs 77)).drew w3 → w3.heap[w.heap.size]? = some (.cells cs 77 (0, 0)) from fun w3 hw => (hw.block _ (by simp) (by omega)).trans Z)
  have HR := Lib.hid (byte_calls b ⟨UInt8.ofNat (n % 256) :: m, 0⟩ (w.alloc (.cells cs 77)).drew (h.keep hB0.drew) hl)
  rw [byte_one] at HR
  have e2 : (((UInt8.ofNat (n % 256)).toNat : Nat) : Int) = (n : Int) % 256 := by rw [UInt8.toNat_ofNat']; omega
  simp only [e2] at HR
  have w8 : IntKind.u8.wrap (n : Int) = (n : Int) % 256 := by rw [IntKind.wrap_u8]
  have HC := Lib.hid (show ∀ w3, CW b (w.alloc (.cells cs 77)).drew w3 → w3.cell? ⟨w.heap.size, 2, none⟩ = some (.int .u64 n) from fun w3 hw => by rw [cell_of_row _ _ _ _ _ _ (HK.out w3 hw), hcs]; rfl)
  have HB := Lib.hid hB0
  clear hcs hvv Z hB0 e2 h hl c1 hbl HK
  go_enter Try.func44, Try.ntmps44
  go_wp2_with fail
  go_region_held3 (fun w' => w'.cell? ⟨w.heap.size, 2, none⟩ = some (.int .u64 n)) (first | exact hc3 | go_keep) ((go_at_call 29; refine HR.out.mono ?_; rintro r w3 ⟨rfl, hu3, hw3⟩; have hc3 := HC.out w3 hw3))
  all_goals go_wp2_with fail
  all_goals go_ret
  all_goals exact bp_of HB.out hu3 hw3
set_option maxHeartbeats 4000000 in
set_option maxRecDepth 100000 in
theorem back3 (b : Nat) (s : ByteArray) (n : Nat) (hh m : List UInt8) (w : World) (h : CU b ⟨Num.putL n ++ m, 0⟩ w) (hl : (Num.putL n ++ m).length ≤ 9223372036854775807) (hn : n < 18446744073709551616) :
    Calls Try.prog 44 #[.pointer (some ⟨b, 0, none⟩), stepV 3 s n hh] w (BP b m w) := by
  obtain ⟨cs, hcs⟩ : ∃ cs, cs = (stepC 3 s n hh).toArray := ⟨_, rfl⟩
  have hvv : stepV 3 s n hh = .agg cs := by rw [hcs]; rfl
  rw [hvv]
  have Z : (w.alloc (.cells cs 77)).heap[w.heap.size]? = some (.cells cs 77 (0, 0)) := heap_new _ _
  have hB0 : Below w.heap.size w (w.alloc (.cells cs 77)) := (Below.refl _ _).alloc (Nat.le_refl _) _
  have c0 : (w.alloc (.cells cs 77)).cell? ⟨w.heap.size, 0, none⟩ = some (.int .i64 3) := by rw [cell_of_row _ _ _ _ _ _ Z, hcs]; rfl
  have c1 : (w.alloc (.cells cs 77)).cell? ⟨w.heap.size, 1, none⟩ = some (.string s) := by rw [cell_of_row _ _ _ _ _ _ Z, hcs]; rfl
  have c2 : (w.alloc (.cells cs 77)).cell? ⟨w.heap.size, 2, none⟩ = some (.int .u64 n) := by rw [cell_of_row _ _ _ _ _ _ Z, hcs]; rfl
  have hbl := h.lt
  have HK := Lib.hid (show ∀ w3, CW b (w.alloc (.cells cs 77)).drew w3 → w3.heap[w.heap.size]? = some (.cells cs 77 (0, 0)) from fun w3 hw => (hw.block _ (by simp) (by omega)).trans Z)
  have HR := Lib.hid (num_calls b ⟨Num.putL n ++ m, 0⟩ n (w.alloc (.cells cs 77)).drew (h.keep hB0.drew) hl)
  rw [num_put n m hn] at HR
  have HC := Lib.hid (show ∀ w3, CW b (w.alloc (.cells cs 77)).drew w3 → w3.cell? ⟨w.heap.size, 2, none⟩ = some (.int .u64 n) from fun w3 hw => by rw [cell_of_row _ _ _ _ _ _ (HK.out w3 hw), hcs]; rfl)
  have HB := Lib.hid hB0
  clear hcs hvv Z hB0 h hl c1 hbl HK
  go_enter Try.func44, Try.ntmps44
  go_wp2_with fail
  go_region_held3 (fun w' => w'.cell? ⟨w.heap.size, 2, none⟩ = some (.int .u64 n)) (first | exact hc3 | go_keep) ((go_at_call 30; refine HR.out.mono ?_; rintro r w3 ⟨rfl, hu3, hw3⟩; have hc3 := HC.out w3 hw3))
  all_goals go_wp2_with fail
  all_goals go_ret
  all_goals exact bp_of HB.out hu3 hw3
set_option maxHeartbeats 4000000 in
set_option maxRecDepth 100000 in
theorem back5 (b : Nat) (k : Int) (h1 : (k == 1) = false) (h2 : (k == 2) = false) (h3 : (k == 3) = false) (h4 : (k == 4) = false) (s : ByteArray) (n : Nat) (hh m : List UInt8) (w : World) (h : CU b ⟨Num.putL s.size ++ (bs s ++ m), 0⟩ w) (hl : (Num.putL s.size ++ (bs s ++ m)).length ≤ 9223372036854775807) :
    Calls Try.prog 44 #[.pointer (some ⟨b, 0, none⟩), stepV k s n hh] w (BP b m w) := by
  obtain ⟨cs, hcs⟩ : ∃ cs, cs = (stepC k s n hh).toArray := ⟨_, rfl⟩
  have hvv : stepV k s n hh = .agg cs := by rw [hcs]; rfl
  rw [hvv]
  have Z : (w.alloc (.cells cs 77)).heap[w.heap.size]? = some (.cells cs 77 (0, 0)) := heap_new _ _
  have hB0 : Below w.heap.size w (w.alloc (.cells cs 77)) := (Below.refl _ _).alloc (Nat.le_refl _) _
  have c0 : (w.alloc (.cells cs 77)).cell? ⟨w.heap.size, 0, none⟩ = some (.int .i64 k) := by rw [cell_of_row _ _ _ _ _ _ Z, hcs]; rfl
  have c1 : (w.alloc (.cells cs 77)).cell? ⟨w.heap.size, 1, none⟩ = some (.string s) := by rw [cell_of_row _ _ _ _ _ _ Z, hcs]; rfl
  have c2 : (w.alloc (.cells cs 77)).cell? ⟨w.heap.size, 2, none⟩ = some (.int .u64 n) := by rw [cell_of_row _ _ _ _ _ _ Z, hcs]; rfl
  have hbl := h.lt
  have HK := Lib.hid (show ∀ w3, CW b (w.alloc (.cells cs 77)).drew w3 → w3.heap[w.heap.size]? = some (.cells cs 77 (0, 0)) from fun w3 hw => (hw.block _ (by simp) (by omega)).trans Z)
  have hs : s.size ≤ 9223372036854775807 := by simp only [List.length_append, bs_len] at hl; omega
  have HR := Lib.hid (text_calls b ⟨Num.putL s.size ++ (bs s ++ m), 0⟩ s.size (w.alloc (.cells cs 77)).drew (h.keep hB0.drew) hl (by omega) (by omega))
  have ht := text_put (bs s) m (by rw [bs_len]; omega)
  rw [bs_len] at ht
  rw [ht, ba_bs] at HR
  have HC := Lib.hid (show ∀ w3, CW b (w.alloc (.cells cs 77)).drew w3 → w3.cell? ⟨w.heap.size, 1, none⟩ = some (.string s) from fun w3 hw => by rw [cell_of_row _ _ _ _ _ _ (HK.out w3 hw), hcs]; rfl)
  have HB := Lib.hid hB0
  clear hcs hvv Z hB0 ht h hl c2 hbl HK hs
  go_enter Try.func44, Try.ntmps44
  go_wp2_with fail
  go_region_held3 (fun w' => w'.cell? ⟨w.heap.size, 1, none⟩ = some (.string s)) (first | exact hc3 | go_keep) ((go_at_call 31; refine HR.out.mono ?_; rintro r w3 ⟨rfl, hu3, hw3⟩; have hc3 := HC.out w3 hw3))
  all_goals go_wp2_with fail
  all_goals go_ret
  all_goals exact bp_of HB.out hu3 hw3
set_option maxHeartbeats 4000000 in
set_option maxRecDepth 100000 in
theorem back4 (b : Nat) (s : ByteArray) (n : Nat) (hh m : List UInt8) (w : World) (h : CU b ⟨hh ++ (hh ++ m), 0⟩ w) (hl : (hh ++ (hh ++ m)).length ≤ 9223372036854775807) (hx : hh.length = 32) :
    Calls Try.prog 44 #[.pointer (some ⟨b, 0, none⟩), stepV 4 s n hh] w (BP b m w) := by
  obtain ⟨cs, hcs⟩ : ∃ cs, cs = (stepC 4 s n hh).toArray := ⟨_, rfl⟩
  have hvv : stepV 4 s n hh = .agg cs := by rw [hcs]; rfl
  rw [hvv]
  have Z : (w.alloc (.cells cs 77)).heap[w.heap.size]? = some (.cells cs 77 (0, 0)) := heap_new _ _
  have hB0 : Below w.heap.size w (w.alloc (.cells cs 77)) := (Below.refl _ _).alloc (Nat.le_refl _) _
  have c0 : (w.alloc (.cells cs 77)).cell? ⟨w.heap.size, 0, none⟩ = some (.int .i64 4) := by rw [cell_of_row _ _ _ _ _ _ Z, hcs]; rfl
  have c1 : (w.alloc (.cells cs 77)).cell? ⟨w.heap.size, 1, none⟩ = some (.string s) := by rw [cell_of_row _ _ _ _ _ _ Z, hcs]; rfl
  have c2 : (w.alloc (.cells cs 77)).cell? ⟨w.heap.size, 2, none⟩ = some (.int .u64 n) := by rw [cell_of_row _ _ _ _ _ _ Z, hcs]; rfl
  have hbl := h.lt
  have HK := Lib.hid (show ∀ w3, CW b (w.alloc (.cells cs 77)).drew w3 → w3.heap[w.heap.size]? = some (.cells cs 77 (0, 0)) from fun w3 hw => (hw.block _ (by simp) (by omega)).trans Z)
  have HR := Lib.hid (hash_calls b ⟨hh ++ (hh ++ m), 0⟩ (w.alloc (.cells cs 77)).drew (h.keep hB0.drew) hl)
  rw [hash_put hh (hh ++ m) hx] at HR
  have HR2 := Lib.hid (fun W (hW : CU b ⟨hh ++ m, 0⟩ W) => hash_calls b ⟨hh ++ m, 0⟩ W hW (by simp only [List.length_append] at hl ⊢; omega))
  rw [hash_put hh m hx] at HR2
  simp only at HR HR2
  have Hrow := Lib.hid (show ∀ wx : World, wx.heap[w.heap.size]? = some (.cells cs 77 (0, 0)) → wx.rangeAt w.heap.size 3 (hc hh) from fun wx hk j v hjv => by
    rw [cell_of_row _ _ _ _ _ _ hk, hcs, List.getElem?_toArray]
    show (stepC 4 s n hh)[3 + j]? = _
    unfold stepC
    rw [show 3 + j = j + 1 + 1 + 1 by omega, List.getElem?_cons_succ, List.getElem?_cons_succ, List.getElem?_cons_succ]
    exact hjv)
  have HB := Lib.hid hB0
  have Hne := Lib.hid (show w.heap.size ≠ b from by omega)
  have hle := Cur.IHl hx
  have hEq : ∀ wx, (binOp .eql 24 (hv hh) (hv hh)).run Try.prog wx = .ok (.bool true) wx := fun wx => by rw [show hv hh = .agg (hc hh).toArray from rfl, Cur.eqH hx hx]; simp
  have hEg : ∀ wx x y, (eqGuard .eql 24 x y (hv hh) (hv hh)).run Try.prog wx = .ok () wx := fun wx x y => run_eqGuard_agg _ _ _ _ _ _ _ (by kernel_rfl)
  have HZ := Lib.hid (show (w.alloc (.cells cs 77)).drew.heap[w.heap.size]? = some (.cells cs 77 (0, 0)) from Z)
  clear hcs hvv Z hB0 h hl c1 c2 hbl
  go_enter Try.func44, Try.ntmps44
  go_wp2_with fail
  refine wp_region_held_drew (S := fun w' => w'.heap[w.heap.size]? = some (.cells cs 77 (0, 0))) (by kernel_rfl) HZ.out (fun hHeld => ?_)
  refine wpAnyH_take (i := 0) (oi := ⟨some 40, _, _, _, _, _⟩) (v := .pointer (some ⟨b, 0, none⟩)) rfl (by kernel_rfl) (by kernel_rfl) (by kernel_rfl) (fun _ _ _ h => h) (Or.inl ⟨by rfl, by intro wx _; go_simp⟩) (by assumption) ?_
  try simp only [Act.put, List.setIfInBounds_toArray, List.set_cons_zero, List.set_cons_succ]
  refine wpAnyH_take (i := 2) (oi := ⟨some 42, _, _, _, _, _⟩) (v := .pointer (some ⟨w.heap.size, 3, none⟩)) rfl (by kernel_rfl) (by kernel_rfl) (by kernel_rfl) (fun _ _ _ h => h) (Or.inl ⟨by rfl, by intro wx _; go_simp⟩) (by assumption) ?_
  try simp only [Act.put, List.setIfInBounds_toArray, List.set_cons_zero, List.set_cons_succ]
  refine wpAnyH_take (i := 3) (oi := ⟨some 43, _, _, _, _, _⟩) (v := hv hh) rfl (by kernel_rfl) (by kernel_rfl) (by kernel_rfl) (fun _ _ _ h => h) (yieldsIf_load_mid (by rfl) 24 _ rfl w.heap.size 3 rfl (hc hh) _ (fun wx hS => Hrow.out wx hS) Cur.UH rfl hle) (by assumption) ?_
  try simp only [Act.put, List.setIfInBounds_toArray, List.set_cons_zero, List.set_cons_succ]
  refine wpAnyH_ready (rs := [1]) (by kernel_rfl) (by simp) ?_
  refine AllReadyH.cons rfl (fun K hK => ?_) AllReadyH.nil
  go_simp
  go_at_call 27
  refine HR.out.mono ?_
  rintro r w3 ⟨rfl, hu3, hw3⟩
  dsimp only
  refine hK.out _ _ (HK.out w3 hw3) (fun hHeld3 => ?_)
  clear hK K
  refine wpAnyH_take (i := 4) (oi := ⟨some 44, _, _, _, _, _⟩) (v := .bool true) rfl (by kernel_rfl) (by kernel_rfl) (by kernel_rfl) (fun _ _ _ h => h) (Or.inl ⟨by rfl, fun wx _ => run_bin (x := .tmp 41) (y := .tmp 43) rfl rfl rfl (hEg wx _ _) (hEq wx)⟩) (by assumption) ?_
  try simp only [Act.put, List.setIfInBounds_toArray, List.set_cons_zero, List.set_cons_succ]
  refine wpAnyH_take (i := 5) (oi := ⟨some 45, _, _, _, _, _⟩) (v := .bool true) rfl (by kernel_rfl) (by kernel_rfl) (by kernel_rfl) (fun _ _ _ h => h) (Or.inl ⟨by rfl, by intro wx _; go_simp⟩) (by assumption) ?_
  try simp only [Act.put, List.setIfInBounds_toArray, List.set_cons_zero, List.set_cons_succ]
  refine wpAnyH_take (i := 6) (oi := ⟨some 46, _, _, _, _, _⟩) (v := .pointer (some ⟨b, 0, none⟩)) rfl (by kernel_rfl) (by kernel_rfl) (by kernel_rfl) (fun _ _ _ h => h) (Or.inl ⟨by rfl, by intro wx _; go_simp⟩) (by assumption) ?_
  try simp only [Act.put, List.setIfInBounds_toArray, List.set_cons_zero, List.set_cons_succ]
  refine wpAnyH_take (i := 8) (oi := ⟨some 48, _, _, _, _, _⟩) (v := .pointer (some ⟨w.heap.size, 3, none⟩)) rfl (by kernel_rfl) (by kernel_rfl) (by kernel_rfl) (fun _ _ _ h => h) (Or.inl ⟨by rfl, by intro wx _; go_simp⟩) (by assumption) ?_
  try simp only [Act.put, List.setIfInBounds_toArray, List.set_cons_zero, List.set_cons_succ]
  refine wpAnyH_take (i := 9) (oi := ⟨some 49, _, _, _, _, _⟩) (v := hv hh) rfl (by kernel_rfl) (by kernel_rfl) (by kernel_rfl) (fun _ _ _ h => h) (yieldsIf_load_mid (by rfl) 24 _ rfl w.heap.size 3 rfl (hc hh) _ (fun wx hS => Hrow.out wx hS) Cur.UH rfl hle) (by assumption) ?_
  try simp only [Act.put, List.setIfInBounds_toArray, List.set_cons_zero, List.set_cons_succ]
  refine wpAnyH_ready (rs := [7]) (by kernel_rfl) (by simp) ?_
  refine AllReadyH.cons rfl (fun K hK => ?_) AllReadyH.nil
  go_simp
  go_at_call 27
  refine (HR2.out _ hu3).mono ?_
  rintro r w4 ⟨rfl, hu4, hw4⟩
  dsimp only
  refine hK.out _ _ ((hw4.block _ (Array.getElem?_eq_some_iff.1 hHeld3).1 Hne.out).trans hHeld3) (fun hHeld4 => ?_)
  clear hK K
  refine wpAnyH_take (i := 10) (oi := ⟨some 50, _, _, _, _, _⟩) (v := .bool true) rfl (by kernel_rfl) (by kernel_rfl) (by kernel_rfl) (fun _ _ _ h => h) (Or.inl ⟨by rfl, fun wx _ => run_bin (x := .tmp 47) (y := .tmp 49) rfl rfl rfl (hEg wx _ _) (hEq wx)⟩) (by assumption) ?_
  try simp only [Act.put, List.setIfInBounds_toArray, List.set_cons_zero, List.set_cons_succ]
  refine wpAnyH_take (i := 11) (oi := ⟨some 51, _, _, _, _, _⟩) (v := .bool true) rfl (by kernel_rfl) (by kernel_rfl) (by kernel_rfl) (fun _ _ _ h => h) (Or.inl ⟨by rfl, by intro wx _; go_simp⟩) (by assumption) ?_
  try simp only [Act.put, List.setIfInBounds_toArray, List.set_cons_zero, List.set_cons_succ]
  refine wpAnyH_take (i := 12) (oi := ⟨some 4, _, _, _, _, _⟩) (v := .bool true) rfl (by kernel_rfl) (by kernel_rfl) (by kernel_rfl) (fun _ _ _ h => h) (Or.inl ⟨by rfl, by intro wx _; go_simp⟩) (by assumption) ?_
  try simp only [Act.put, List.setIfInBounds_toArray, List.set_cons_zero, List.set_cons_succ]
  refine wpAnyH_done (by kernel_rfl) ?_ _
  clear hHeld hHeld3 hHeld4
  go_wp2_with fail
  go_ret
  exact bp_of HB.out hu4 (hw3.trans hw4 (fun _ _ e => e))
end Go.Proofs.Ytgdlhcopgfgmaaa.Bk
