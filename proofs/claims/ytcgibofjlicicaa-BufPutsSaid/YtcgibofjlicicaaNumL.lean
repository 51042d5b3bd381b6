/- The walks of chapter 7's example and laws: each answers true. -/
import Derived.Test.YtcgibofjlicicaaNum
import Derived.Test.YtcgibofjlicicaaNumP
namespace Go.Proofs.Ytcgibofjlicicaa.Num
open Go.RowKit Go.Proofs.Ytcgibofjlicicaa.Mk
theorem ex1 : takeR (bs ⟨#[128, 0]⟩) = (0, 0, 2) := by decide
theorem ex2 : takeR (bs ⟨#[128]⟩) = (0, 0, 1) := by decide
theorem ex3 : ba (putL 300) = ⟨#[172, 2]⟩ := by rw [putL_more 300 (by decide), putL_one 2 (by decide)]; rfl
set_option maxHeartbeats 1000000 in
theorem awake_calls (w : World) : Calls Try.prog 27 #[] w fun e w' => e = .returned (.bool true) ∧ Below w.heap.size w w' := by
  go_enter Try.func27, Try.ntmps27
  go_wp2_with fail
  refine (take_calls ⟨#[128, 0]⟩ _ (by decide)).mono ?_
  rw [ex1]
  unfold takeV
  rintro e w1 ⟨rfl, hb1⟩
  go_wp2_with fail
  refine (take_calls ⟨#[128]⟩ _ (by decide)).mono ?_
  rw [ex2]
  unfold takeV
  rintro e w2 ⟨rfl, hb2⟩
  go_wp2_with fail
  refine (put_calls 300 _ (by decide)).mono ?_
  rw [ex3]
  rintro e w3 ⟨rfl, hb3⟩
  go_wp2_with fail
  go_ret
  exact ⟨rfl, below_up (below_up hb1 hb2) hb3⟩
theorem takeV_open (r : Nat × Nat × Nat) : ∃ x n e : Int, takeV r = .tuple #[.int .u64 x, .int .i64 n, .int .i64 e] := ⟨_, _, _, rfl⟩
set_option maxHeartbeats 1000000 in
theorem lawTakes_calls (s : ByteArray) (w : World) (hs : s.size ≤ 9223372036854775807) :
    Calls Try.prog 5 #[.string s] w fun e w' => e = .returned (.bool true) ∧ Below w.heap.size w w' := by
  obtain ⟨x, n, e, h⟩ := takeV_open (takeR (bs s))
  have H := Lib.hid h
  clear h
  go_enter Try.func5, Try.ntmps5
  go_wp2_with fail
  refine (take_calls s _ hs).mono ?_
  rw [H.out]
  rintro e w1 ⟨rfl, hb1⟩
  go_wp2_with fail
  refine (rtake_calls s _ hs).mono ?_
  rw [H.out]
  rintro e w2 ⟨rfl, hb2⟩
  go_wp2_with fail
  refine (awake_calls _).mono ?_
  rintro e w3 ⟨rfl, hb3⟩
  go_wp2_with fail
  go_ret
  exact ⟨rfl, below_up (below_up hb1 hb2) hb3⟩
set_option maxHeartbeats 1000000 in
theorem lawPuts_calls (x : Nat) (w : World) (hx : x < 18446744073709551616) :
    Calls Try.prog 9 #[.int .u64 x] w fun e w' => e = .returned (.bool true) ∧ Below w.heap.size w w' := by
  have Hp := Lib.hid (fun w => put_calls x w hx)
  have Hr := Lib.hid (fun w => rput_calls x w hx)
  have Hs := Lib.hid (fun w => size_calls x w hx)
  clear hx
  have hz : (ba (putL x)).size = (putL x).length := rfl
  generalize putL x = l at *
  generalize ba l = b at *
  generalize l.length = n at *
  have Hz := Lib.hid hz
  clear hz
  obtain rfl : b.size = n := Hz.out
  go_enter Try.func9, Try.ntmps9
  go_wp2_with fail
  refine (Hp.out _).mono ?_
  rintro e w1 ⟨rfl, hb1⟩
  go_wp2_with fail
  refine (Hr.out _).mono ?_
  rintro e w2 ⟨rfl, hb2⟩
  go_wp2_with fail
  refine (Hs.out _).mono ?_
  rintro e w3 ⟨rfl, hb3⟩
  go_wp2_with fail
  refine (Hr.out _).mono ?_
  rintro e w4 ⟨rfl, hb4⟩
  go_wp2_with fail
  refine (awake_calls _).mono ?_
  rintro e w5 ⟨rfl, hb5⟩
  go_wp2_with fail
  go_ret
  exact ⟨rfl, below_up (below_up (below_up (below_up hb1 hb2) hb3) hb4) hb5⟩
set_option maxHeartbeats 1000000 in
theorem lawBack_calls (x : Nat) (s : ByteArray) (w : World) (hx : x < 18446744073709551616) (hs : s.size ≤ 140737488351232) :
    Calls Try.prog 10 #[.int .u64 x, .string s] w fun e w' => e = .returned (.bool true) ∧ Below w.heap.size w w' := by
  have Hp := Lib.hid (fun w => put_calls x w hx)
  have Hs := Lib.hid (fun w => size_calls x w hx)
  have hl1 := putL_pos x
  have hl2 := putL_len10 x hx
  have ht : takeR (bs (ba (putL x) ++ s)) = (x, (putL x).length, 0) := by rw [bs_append, bs_ba, takeR_put x hx]
  have hz : (ba (putL x)).size = (putL x).length := rfl
  generalize putL x = l at *
  generalize ba l = b at *
  generalize l.length = n at *
  obtain rfl : b.size = n := hz
  have Ht := Lib.hid ht
  clear ht hx
  go_enter Try.func10, Try.ntmps10
  go_wp2_with fail
  refine (Hp.out _).mono ?_
  rintro e w1 ⟨rfl, hb1⟩
  go_wp2_with fail
  refine (take_calls (b ++ s) _ (by rw [ByteArray.size_append]; omega)).mono ?_
  rw [Ht.out]
  unfold takeV
  rintro e w2 ⟨rfl, hb2⟩
  go_wp2_with fail
  refine (Hs.out _).mono ?_
  rintro e w3 ⟨rfl, hb3⟩
  go_wp2_with fail
  refine (awake_calls _).mono ?_
  rintro e w4 ⟨rfl, hb4⟩
  go_wp2_with fail
  go_ret
  exact ⟨rfl, below_up (below_up (below_up hb1 hb2) hb3) hb4⟩
theorem take_extract (s : ByteArray) (n : Nat) (_h : n ≤ s.size) (l : List UInt8) (hl : l = (bs s).take n) : ba l = s.extract 0 n := by
  subst hl
  apply ByteArray.ext
  apply Array.ext'
  simp [ba, bs]
set_option maxHeartbeats 1000000 in
theorem lawOne_calls (s : ByteArray) (w : World) (hs : s.size ≤ 9223372036854775807) :
    Calls Try.prog 6 #[.string s] w fun e w' => e = .returned (.bool true) ∧ Below w.heap.size w w' := by
  obtain ⟨x, n, e, h⟩ : ∃ x n e, takeR (bs s) = (x, n, e) := ⟨_, _, _, rfl⟩
  have hlt := takeR_lt (bs s)
  rw [h, bs_len] at hlt
  simp only at hlt
  by_cases he : e = 0
  · subst he
    have h2 := putR_take (bs s) x n h
    have hex := take_extract s n hlt.2.2.1 (putL x) h2.2
    have Hp : Hid (∀ w, Calls Try.prog 28 #[.int .u64 x] w fun e w' => e = .returned (.string (s.extract 0 n)) ∧ Below w.heap.size w w') := Lib.hid (fun w => by
      have := put_calls x w hlt.1
      rwa [hex] at this)
    have hn1 := hlt.2.2.1
    have hn2 := hlt.2.1
    have H := Lib.hid h
    clear h h2 hex hlt
    go_enter Try.func6, Try.ntmps6
    go_wp2_with fail
    refine (take_calls s _ hs).mono ?_
    rw [H.out]
    unfold takeV
    rintro e w1 ⟨rfl, hb1⟩
    go_wp2_with fail
    refine wp_region_quiet_below (by kernel_rfl) (by kernel_rfl) ?_
    repeat (first | ((refine wpQuiet_call rfl 28 _ ?_ _ (rg_of (fun wx _ => Hp.out wx)) ?_); focus (intro wx; go_simp; done)) | ((refine wpQuiet_call rfl 27 _ ?_ _ (rg_of (fun wx _ => awake_calls wx)) ?_); focus (intro wx; go_simp; done)) | go_big_quiet_step (fail) | quiet_step (fail))
    refine wpQuiet_nil ?_
    rintro _ ⟨rp, rfl⟩
    have hb2 := below_regrown w1 rp.d rp.os
    generalize Sort.grow (redrawn w1 rp.d) rp.os = w2 at *
    go_wp2_with fail
    go_ret
    exact ⟨rfl, below_up hb1 hb2⟩
  · have hz := takeR_err (bs s) x n e h he
    obtain ⟨rfl, rfl⟩ := hz
    have H := Lib.hid h
    have t1 : ((e : Int) != 0) = true := by simp; omega
    clear h hlt he
    go_enter Try.func6, Try.ntmps6
    go_wp2_with fail
    refine (take_calls s _ hs).mono ?_
    rw [H.out]
    unfold takeV
    rintro e w1 ⟨rfl, hb1⟩
    go_wp2_with fail
    refine (awake_calls _).mono ?_
    rintro e w2 ⟨rfl, hb2⟩
    go_wp2_with fail
    go_ret
    exact ⟨rfl, below_up hb1 hb2⟩
end Go.Proofs.Ytcgibofjlicicaa.Num
