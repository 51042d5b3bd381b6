/- The walks of a stream's own functions: fail, count, take. -/
import Derived.Defers
import Derived.Test.YtcaocnlchfbeaaaBd
import Derived.Test.YtcaocnlchfbeaaaBa
namespace Go.Proofs.Ytcaocnlchfbeaaa.Stm
open Go.RowKit Go.Proofs.Ytcaocnlchfbeaaa.Mk Go.Proofs.Ytcaocnlchfbeaaa.Cur
/-- a stream -/
structure St where
  m : Int
  r : List UInt8
  g : Bool
  n : Int
  l : Value
  e : Int
def sC (s : St) : Array Value := #[.int .i64 s.m, .string (ba s.r), .bool s.g, .int .i64 s.n, s.l, .int .i64 s.e]
/-- block k holds a stream -/
def SM (k : Nat) (s : St) (w : World) : Prop := w.heap[k]? = some (.cells (sC s) 85 (0, 0))
section
variable {k : Nat} {s : St} {w : World}
theorem SM.lt (h : SM k s w) : k < w.heap.size := (Array.getElem?_eq_some_iff.1 h).1
theorem SM.c0 (h : SM k s w) : w.cell? ⟨k, 0, none⟩ = some (.int .i64 s.m) := by rw [cell_of_row w k 0 _ _ _ h]; rfl
theorem SM.c1 (h : SM k s w) : w.cell? ⟨k, 1, none⟩ = some (.string (ba s.r)) := by rw [cell_of_row w k 1 _ _ _ h]; rfl
theorem SM.c2 (h : SM k s w) : w.cell? ⟨k, 2, none⟩ = some (.bool s.g) := by rw [cell_of_row w k 2 _ _ _ h]; rfl
theorem SM.c3 (h : SM k s w) : w.cell? ⟨k, 3, none⟩ = some (.int .i64 s.n) := by rw [cell_of_row w k 3 _ _ _ h]; rfl
theorem SM.c4 (h : SM k s w) : w.cell? ⟨k, 4, none⟩ = some s.l := by rw [cell_of_row w k 4 _ _ _ h]; rfl
theorem SM.c5 (h : SM k s w) : w.cell? ⟨k, 5, none⟩ = some (.int .i64 s.e) := by rw [cell_of_row w k 5 _ _ _ h]; rfl
theorem SM.fz (h : SM k s w) (o : Nat) : w.frozen? ⟨k, o, none⟩ = false := by simp [World.frozen?, show w.heap[k]? = _ from h]
theorem SM.set1 (h : SM k s w) (x : List UInt8) : SM k { s with r := x } (w.setCell ⟨k, 1, none⟩ (.string (ba x))) := by
  have hb : w.heap[k]? = _ := h
  unfold SM
  simp [World.setCell, Array.getElem?_modify, hb, sC]
theorem SM.set2 (h : SM k s w) (x : Bool) : SM k { s with g := x } (w.setCell ⟨k, 2, none⟩ (.bool x)) := by
  have hb : w.heap[k]? = _ := h
  unfold SM
  simp [World.setCell, Array.getElem?_modify, hb, sC]
theorem SM.set3 (h : SM k s w) (x : Int) : SM k { s with n := x } (w.setCell ⟨k, 3, none⟩ (.int .i64 x)) := by
  have hb : w.heap[k]? = _ := h
  unfold SM
  simp [World.setCell, Array.getElem?_modify, hb, sC]
theorem SM.set4 (h : SM k s w) (x : Value) : SM k { s with l := x } (w.setCell ⟨k, 4, none⟩ x) := by
  have hb : w.heap[k]? = _ := h
  unfold SM
  simp [World.setCell, Array.getElem?_modify, hb, sC]
theorem SM.set5 (h : SM k s w) (x : Int) : SM k { s with e := x } (w.setCell ⟨k, 5, none⟩ (.int .i64 x)) := by
  have hb : w.heap[k]? = _ := h
  unfold SM
  simp [World.setCell, Array.getElem?_modify, hb, sC]
theorem SM.but {S : Nat → Prop} {w' : World} (h : SM k s w) (hb : But S w w') (hk : ¬ S k) : SM k s w' := (hb.block k h.lt hk).trans h
theorem SM.keep {w' : World} (h : SM k s w) (hb : Below w.heap.size w w') : SM k s w' := (hb.block k h.lt).trans h
end
def failS (s : St) (e : Int) : St := if s.e = 0 then { s with e := e } else s
set_option maxHeartbeats 2000000 in
theorem stfail_calls (k : Nat) (s : St) (e : Int) (w : World) (h : SM k s w) :
    Calls Try.prog 59 #[.pointer (some ⟨k, 0, none⟩), .int .i64 e] w fun r w' => r = .returned (.tuple #[]) ∧ SM k (failS s e) w' ∧ But (fun i => i = k) w w' := by
  obtain ⟨m, r, g, n, l, ce⟩ := s
  have c5 := h.c5
  have f5 := h.fz 5
  have H := Lib.hid h
  clear h
  by_cases h0 : ce = 0
  · subst h0
    have hs := Lib.hid (H.out.set5 e)
    go_enter Try.func59, Try.ntmps59
    go_wp2_with fail
    go_end0
    exact ⟨rfl, by simpa [failS] using hs.out, (But.refl (fun i => i = k) w).setCell (p := ⟨k, 5, none⟩) rfl _⟩
  · have t1 : (ce == 0) = false := by simpa using h0
    have hf : failS ⟨m, r, g, n, l, ce⟩ e = ⟨m, r, g, n, l, ce⟩ := by unfold failS; rw [if_neg h0]
    have HF := Lib.hid hf
    clear hf h0
    go_enter Try.func59, Try.ntmps59
    go_wp2_with fail
    go_end0
    exact ⟨rfl, by rw [HF.out]; exact H.out, But.refl _ _⟩
/-- the greatest number of 64 bits -/
def top64 : Nat := 18446744073709551615
/-- how many come: what the stream holds then, and the cursor -/
def countS (s : St) (c : C) : St × C :=
  if (numC c top64).2.e ≠ 0 then (s, (numC c top64).2) else
  if s.m < ((numC c top64).1 : Int) then (s, failC (numC c top64).2 4) else ({ s with g := true, n := ((numC c top64).1 : Int) }, (numC c top64).2)
set_option maxHeartbeats 4000000 in
set_option maxRecDepth 100000 in
theorem count_calls (k b : Nat) (s : St) (c : C) (w : World) (h : SM k s w) (hc : CU b c w) (hne : k ≠ b) (hm0 : 0 ≤ s.m) (hm1 : s.m ≤ 1024) (hl : c.b.length ≤ 9223372036854775807) :
    Calls Try.prog 57 #[.pointer (some ⟨k, 0, none⟩), .pointer (some ⟨b, 0, none⟩)] w fun r w' => r = .returned (.tuple #[]) ∧ CU b (countS s c).2 w' ∧ SM k (countS s c).1 w' ∧ But (fun i => i = b ∨ i = k) w w' := by
  have HN := Lib.hid (num_calls b c top64 w hc hl)
  obtain ⟨m, r, g, n, l, ce⟩ := s
  simp only at hm0 hm1
  obtain ⟨M, rfl⟩ := Int.eq_ofNat_of_zero_le hm0
  obtain ⟨z, hq⟩ : ∃ z, z = countS ⟨(M : Int), r, g, n, l, ce⟩ c := ⟨_, rfl⟩
  rw [← hq]
  unfold countS at hq
  generalize numC c top64 = x at *
  obtain ⟨y, d⟩ := x
  simp only at hq HN
  have H := Lib.hid h
  clear h hc
  have w1 : IntKind.u64.wrap (M : Int) = (M : Int) := by rw [IntKind.wrap_u64]; omega
  have HT : Hid (((top64 : Nat) : Int) = 18446744073709551615) := Lib.hid rfl
  rw [HT.out] at HN
  by_cases he : d.e = 0
  · rw [if_neg (by simpa using he)] at hq
    by_cases hy : (M : Int) < (y : Int)
    · rw [if_pos hy] at hq
      subst hq
      have t1 : decide ((M : Int) < (y : Int)) = true := decide_eq_true hy
      have t2 : decide (M < y) = true := decide_eq_true (by omega)
      go_enter Try.func57, Try.ntmps57
      go_wp2_with fail
      refine HN.out.mono ?_
      rintro e w2 ⟨rfl, hu2, hw2⟩
      have H2 := H.out.but hw2 hne
      have U2 := Lib.hid hu2
      have W2 := Lib.hid hw2
      have c0 := H2.c0
      have H2 := Lib.hid H2
      clear hu2 hw2
      go_wp2_with fail
      refine (err_calls b d _ U2.out).mono ?_
      rintro e w3 ⟨rfl, rfl⟩
      rw [he]
      go_wp2_with fail
      refine (fail_calls b d 4 _ U2.out).mono ?_
      rintro e w4 ⟨rfl, hu4, hw4⟩
      have H4 := Lib.hid (H2.out.but hw4 hne)
      have U4 := Lib.hid hu4
      have W4 := Lib.hid (W2.out.trans hw4 (fun _ _ e => e))
      clear hu4 hw4 c0 he hy
      go_wp2_with fail
      refine bodyPost_ret (results_none rfl _ _ _) rfl ?_
      exact ⟨rfl, U4.out, H4.out, W4.out.mono (fun _ _ e => .inl e)⟩
    · rw [if_neg hy] at hq
      subst hq
      have t1 : decide ((M : Int) < (y : Int)) = false := decide_eq_false hy
      have t2 : decide (M < y) = false := decide_eq_false (by omega)
      have w2 : IntKind.i64.wrap (y : Int) = (y : Int) := IntWalk.i64_in _ (by omega)
      go_enter Try.func57, Try.ntmps57
      go_wp2_with fail
      refine HN.out.mono ?_
      rintro e w2 ⟨rfl, hu2, hw2⟩
      have H2 := H.out.but hw2 hne
      have U2 := Lib.hid hu2
      have W2 := Lib.hid hw2
      have c0 := H2.c0
      have c2 := H2.c2
      have c3 := H2.c3
      have f2 := H2.fz 2
      have f3 := H2.fz 3
      have HS := Lib.hid ((H2.set2 true).set3 (y : Int))
      clear hu2 hw2 H2
      go_wp2_with fail
      refine (err_calls b d _ U2.out).mono ?_
      rintro e w3 ⟨rfl, rfl⟩
      rw [he]
      go_wp2_with fail
      go_end0
      refine ⟨rfl, ?_, HS.out, ?_⟩
      · have hb : w3.heap[b]? = _ := U2.out
        exact ((Below.heap_setCell _ _ _ _ (fun e => hne e.symm)).trans (Below.heap_setCell _ _ _ _ (fun e => hne e.symm))).trans hb
      · exact ((W2.out.mono (fun _ _ e => .inl e)).setCell (p := ⟨k, 2, none⟩) (.inr rfl) _).setCell (p := ⟨k, 3, none⟩) (.inr rfl) _
  · rw [if_pos (by simpa using he)] at hq
    subst hq
    have t1 : (d.e != 0) = true := by simpa using he
    have t2 : (d.e == 0) = false := by simpa using he
    clear he
    go_enter Try.func57, Try.ntmps57
    go_wp2_with fail
    refine HN.out.mono ?_
    rintro e w2 ⟨rfl, hu2, hw2⟩
    have H2 := Lib.hid (H.out.but hw2 hne)
    have U2 := Lib.hid hu2
    have W2 := Lib.hid hw2
    clear hu2 hw2
    go_wp2_with fail
    refine (err_calls b d _ U2.out).mono ?_
    rintro e w3 ⟨rfl, rfl⟩
    go_wp2_with fail
    refine bodyPost_ret (results_none rfl _ _ _) rfl ?_
    exact ⟨rfl, U2.out, H2.out, W2.out.mono (fun _ _ e => .inl e)⟩
end Go.Proofs.Ytcaocnlchfbeaaa.Stm
