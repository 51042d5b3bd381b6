/- The walks of a cursor's own functions, at a cursor that lies in a block. -/
import Derived.Test.YtgdlhcopgfgmaaaBut
import Derived.Test.YtgdlhcopgfgmaaaCurMath
import Derived.Test.YtgdlhcopgfgmaaaNum
import Derived.Test.YtgdlhcopgfgmaaaProg
namespace Go.Proofs.Ytgdlhcopgfgmaaa.Cur
open Go.RowKit Go.Proofs.Ytgdlhcopgfgmaaa.Mk
/-- block b holds a cursor -/
def CU (b : Nat) (c : C) (w : World) : Prop := w.heap[b]? = some (.cells #[.string (ba c.b), .int .i64 c.e] 56 (0, 0))
/-- what a take may turn -/
abbrev CW (b : Nat) (w w' : World) : Prop := But (fun k => k = b) w w'
theorem CU.lt {b : Nat} {c : C} {w : World} (h : CU b c w) : b < w.heap.size := (Array.getElem?_eq_some_iff.1 h).1
theorem CU.c0 {b : Nat} {c : C} {w : World} (h : CU b c w) : w.cell? ⟨b, 0, none⟩ = some (.string (ba c.b)) := by
  rw [cell_of_row w b 0 _ _ _ h]; rfl
theorem CU.c1 {b : Nat} {c : C} {w : World} (h : CU b c w) : w.cell? ⟨b, 1, none⟩ = some (.int .i64 c.e) := by
  rw [cell_of_row w b 1 _ _ _ h]; rfl
theorem CU.fz {b : Nat} {c : C} {w : World} (h : CU b c w) (o : Nat) : w.frozen? ⟨b, o, none⟩ = false := by
  simp [World.frozen?, show w.heap[b]? = _ from h]
theorem CU.set0 {b : Nat} {c : C} {w : World} (h : CU b c w) (l : List UInt8) : CU b ⟨l, c.e⟩ (w.setCell ⟨b, 0, none⟩ (.string (ba l))) := by
  have hb : w.heap[b]? = _ := h
  unfold CU
  simp [World.setCell, Array.getElem?_modify, hb]
theorem CU.set1 {b : Nat} {c : C} {w : World} (h : CU b c w) (e : Int) : CU b ⟨c.b, e⟩ (w.setCell ⟨b, 1, none⟩ (.int .i64 e)) := by
  have hb : w.heap[b]? = _ := h
  unfold CU
  simp [World.setCell, Array.getElem?_modify, hb]
theorem CU.keep {b : Nat} {c : C} {w w' : World} (h : CU b c w) (hb : Below w.heap.size w w') : CU b c w' := (hb.block b h.lt).trans h
theorem CU.other {b b2 : Nat} {c : C} {w w' : World} (h : CU b c w) (hb : CW b2 w w') (hne : b ≠ b2) : CU b c w' := (hb.block b h.lt hne).trans h
theorem CW.below {B b : Nat} {w w' : World} (h : CW b w w') (hB : B ≤ w.heap.size) (hb : B ≤ b) : Below B w w' := But.below h hB (fun i hi => by rw [hi]; exact hb)
theorem ret_str {a b : ByteArray} (h : a = b) : Ending.returned (.string a) = .returned (.string b) := by rw [h]
theorem ba_nil : ba [] = ⟨#[]⟩ := rfl
set_option maxHeartbeats 2000000 in
theorem sfail_calls (b : Nat) (c : C) (e : Int) (w : World) (h : CU b c w) :
    Calls Try.prog 63 #[.pointer (some ⟨b, 0, none⟩), .int .i64 e] w fun r w' => r = .returned (.tuple #[]) ∧ CU b (failC c e) w' ∧ CW b w w' := by
  obtain ⟨l, ce⟩ := c
  have c0 := h.c0
  have c1 := h.c1
  have f0 := h.fz 0
  have f1 := h.fz 1
  have H := Lib.hid h
  clear h
  by_cases h0 : ce = 0
  · by_cases he : e = 0
    · subst h0 he
      go_enter Try.func63, Try.ntmps63
      go_wp2_with fail
      go_end0
      exact ⟨rfl, by simpa [failC] using H.out, But.refl _ _⟩
    · subst h0
      have t1 : (e == 0) = false := by simpa using he
      have t2 : (e != 0) = true := by simpa using he
      have hs1 := H.out.set1 e
      have d0 := hs1.c0
      have g0 := hs1.fz 0
      have H2 := Lib.hid (hs1.set0 [])
      rw [ba_nil] at H2
      clear hs1
      go_enter Try.func63, Try.ntmps63
      go_wp2_with fail
      go_end0
      refine ⟨rfl, ?_, ((But.refl (fun k => k = b) w).setCell (p := ⟨b, 1, none⟩) rfl _).setCell (p := ⟨b, 0, none⟩) rfl _⟩
      have : failC ⟨l, 0⟩ e = ⟨[], e⟩ := by simp [failC, he]
      rw [this]
      exact H2.out
  · have t1 : (ce == 0) = false := by simpa using h0
    go_enter Try.func63, Try.ntmps63
    go_wp2_with fail
    go_end0
    exact ⟨rfl, by simpa [failC, h0] using H.out, But.refl _ _⟩
theorem take_extract (l : List UInt8) (n : Nat) : (ba l).extract 0 n = ba (l.take n) := by
  apply ByteArray.ext
  simp [ba]
theorem drop_extract (l : List UInt8) (n m : Nat) (h : m = l.length) : (ba l).extract n m = ba (l.drop n) := by
  subst h
  apply ByteArray.ext
  simp [ba]
  rw [List.take_of_length_le (by simp)]
set_option maxHeartbeats 2000000 in
theorem cut_calls (b : Nat) (c : C) (n : Nat) (w : World) (h : CU b c w) (hl : c.b.length ≤ 9223372036854775807) (_hn : n ≤ 9223372036854775807) :
    Calls Try.prog 62 #[.pointer (some ⟨b, 0, none⟩), .int .i64 n] w fun r w' => r = .returned (.string (ba (rawC c n).1)) ∧ CU b (rawC c n).2 w' ∧ CW b w w' := by
  obtain ⟨l, ce⟩ := c
  have c0 := h.c0
  have c1 := h.c1
  have f0 := h.fz 0
  have f1 := h.fz 1
  simp only at c0 c1 hl
  have hsz : (ba l).size = l.length := rfl
  by_cases h0 : ce = 0
  · subst h0
    by_cases hlen : n ≤ l.length
    · have H1 := Lib.hid (h.set0 (l.drop n))
      have hr := raw_ok l n hlen
      rw [hr]
      clear h hr
      have t1 : decide (((ba l).size : Int) < (n : Int)) = false := by rw [hsz]; simp; omega
      have t2 : decide ((ba l).size < n) = false := by rw [hsz]; simp; omega
      have t3 : n ≤ (ba l).size := by rw [hsz]; exact hlen
      have HT := Lib.hid (take_extract l n)
      rw [← drop_extract l n (ba l).size rfl] at H1
      clear hsz hlen
      generalize ba l = s at *
      go_enter Try.func62, Try.ntmps62
      go_wp2_with fail
      go_ret
      exact ⟨ret_str HT.out, H1.out, (But.refl (fun k => k = b) w).setCell (p := ⟨b, 0, none⟩) rfl _⟩
    · have HF := Lib.hid (sfail_calls b ⟨l, 0⟩ 1 w h)
      rw [raw_short l n (by omega)]
      rw [fail_some l 1 (by decide)] at HF
      have t1 : decide (((ba l).size : Int) < (n : Int)) = true := by rw [hsz]; simp; omega
      have t2 : decide ((ba l).size < n) = true := by rw [hsz]; simp; omega
      clear h hsz
      generalize ba l = s at *
      go_enter Try.func62, Try.ntmps62
      go_wp2_with fail
      refine HF.out.mono ?_
      rintro e w1 ⟨rfl, h1, hw1⟩
      have d1 := h1.c1
      have H1 := Lib.hid (And.intro h1 hw1)
      clear h1 hw1
      go_wp2_with fail
      go_ret
      exact ⟨rfl, H1.out⟩
  · have t1 : (ce == 0) = false := by simpa using h0
    have t2 : (ce != 0) = true := by simpa using h0
    have H := Lib.hid h
    rw [raw_err l ce n h0]
    clear h
    go_enter Try.func62, Try.ntmps62
    go_wp2_with fail
    go_ret
    exact ⟨rfl, H.out, But.refl _ _⟩
set_option maxHeartbeats 2000000 in
theorem read_calls (s : ByteArray) (w : World) : Calls Try.prog 19 #[.string s] w fun r w' => r = .returned (.pointer (some ⟨w.heap.size, 0, none⟩)) ∧ CU w.heap.size ⟨bs s, 0⟩ w' ∧ Below w.heap.size w w' := by
  go_enter Try.func19, Try.ntmps19
  go_wp2_with fail
  go_ret
  exact ⟨rfl, heap_new _ _, (Below.refl _ _).alloc (Nat.le_refl _) _⟩
set_option maxHeartbeats 1000000 in
theorem err_calls (b : Nat) (c : C) (w : World) (h : CU b c w) : Calls Try.prog 22 #[.pointer (some ⟨b, 0, none⟩)] w fun r w' => r = .returned (.int .i64 c.e) ∧ w' = w := by
  have c1 := h.c1
  clear h
  go_enter Try.func22, Try.ntmps22
  go_wp2_with fail
  go_ret
  exact ⟨rfl, rfl⟩
set_option maxHeartbeats 1000000 in
theorem left_calls (b : Nat) (c : C) (w : World) (h : CU b c w) : Calls Try.prog 21 #[.pointer (some ⟨b, 0, none⟩)] w fun r w' => r = .returned (.int .i64 c.b.length) ∧ w' = w := by
  have c0 := h.c0
  have hs : (ba c.b).size = c.b.length := rfl
  clear h
  rw [← hs]
  generalize ba c.b = s at *
  clear hs
  go_enter Try.func21, Try.ntmps21
  go_wp2_with fail
  go_ret
  exact ⟨rfl, rfl⟩
set_option maxHeartbeats 1000000 in
theorem fail_calls (b : Nat) (c : C) (e : Int) (w : World) (h : CU b c w) :
    Calls Try.prog 28 #[.pointer (some ⟨b, 0, none⟩), .int .i64 e] w fun r w' => r = .returned (.tuple #[]) ∧ CU b (failC c e) w' ∧ CW b w w' := by
  have HF := Lib.hid (sfail_calls b c e w h)
  clear h
  go_enter Try.func28, Try.ntmps28
  go_wp2_with fail
  refine HF.out.mono ?_
  rintro r w1 ⟨rfl, h1⟩
  have H1 := Lib.hid h1
  clear h1
  go_wp2_with fail
  go_end0
  exact ⟨rfl, H1.out⟩
set_option maxHeartbeats 1000000 in
theorem raw_calls (b : Nat) (c : C) (n : Int) (w : World) (h : CU b c w) (hl : c.b.length ≤ 9223372036854775807) (hn : n ≤ 9223372036854775807) :
    Calls Try.prog 24 #[.pointer (some ⟨b, 0, none⟩), .int .i64 n] w fun r w' => r = .returned (.string (ba (rawC c n).1)) ∧ CU b (rawC c n).2 w' ∧ CW b w w' := by
  by_cases h0 : n < 0
  · have HF := Lib.hid (fail_calls b c 3 w h)
    rw [raw_neg c n h0]
    clear h
    go_enter Try.func24, Try.ntmps24
    go_wp2_with fail
    refine HF.out.mono ?_
    rintro r w1 ⟨rfl, h1⟩
    have H1 := Lib.hid h1
    clear h1
    go_wp2_with fail
    go_ret
    exact ⟨rfl, H1.out⟩
  · obtain ⟨m, rfl⟩ := Int.eq_ofNat_of_zero_le (Int.not_lt.1 h0)
    have HF := Lib.hid (cut_calls b c m w h hl (by omega))
    clear h h0
    generalize rawC c m = x at *
    go_enter Try.func24, Try.ntmps24
    go_wp2_with fail
    refine HF.out.mono ?_
    rintro r w1 ⟨rfl, h1⟩
    have H1 := Lib.hid h1
    clear h1
    go_wp2_with fail
    go_ret
    exact ⟨rfl, H1.out⟩
set_option maxHeartbeats 1000000 in
theorem done_calls (b : Nat) (c : C) (w : World) (h : CU b c w) (hl : c.b.length ≤ 9223372036854775807) : Calls Try.prog 26 #[.pointer (some ⟨b, 0, none⟩)] w fun r w' => r = .returned (.int .i64 (doneC c)) ∧ w' = w := by
  have HE := Lib.hid (err_calls b c w h)
  have HL := Lib.hid (left_calls b c w h)
  clear h
  by_cases h0 : c.e = 0
  · rw [h0] at HE
    by_cases h1 : 0 < c.b.length
    · have hd : doneC c = 2 := by
        unfold doneC
        rw [if_pos ⟨h0, fun e => by rw [e] at h1; simp at h1⟩]
      rw [hd]
      clear hd h0
      go_enter Try.func26, Try.ntmps26
      go_wp2_with fail
      refine HE.out.mono ?_
      rintro r w1 ⟨rfl, rfl⟩
      go_wp2_with fail
      refine HL.out.mono ?_
      rintro r w1 ⟨rfl, rfl⟩
      go_wp2_with fail
      go_ret
      exact ⟨rfl, rfl⟩
    · have hd : doneC c = 0 := by
        unfold doneC
        rw [if_neg (fun e => e.2 (List.eq_nil_of_length_eq_zero (by omega))), h0]
      rw [hd]
      clear hd h0
      go_enter Try.func26, Try.ntmps26
      go_wp2_with fail
      refine HE.out.mono ?_
      rintro r w1 ⟨rfl, rfl⟩
      go_wp2_with fail
      refine HL.out.mono ?_
      rintro r w1 ⟨rfl, rfl⟩
      go_wp2_with fail
      refine HE.out.mono ?_
      rintro r w1 ⟨rfl, rfl⟩
      go_wp2_with fail
      go_ret
      exact ⟨rfl, rfl⟩
  · have hd : doneC c = c.e := by unfold doneC; rw [if_neg (fun e => h0 e.1)]
    rw [hd]
    have t1 : (c.e == 0) = false := by simpa using h0
    clear hd h0
    generalize c.e = ce at *
    go_enter Try.func26, Try.ntmps26
    go_wp2_with fail
    refine HE.out.mono ?_
    rintro r w1 ⟨rfl, rfl⟩
    go_wp2_with fail
    refine HE.out.mono ?_
    rintro r w1 ⟨rfl, rfl⟩
    go_wp2_with fail
    go_ret
    exact ⟨rfl, rfl⟩
end Go.Proofs.Ytgdlhcopgfgmaaa.Cur
