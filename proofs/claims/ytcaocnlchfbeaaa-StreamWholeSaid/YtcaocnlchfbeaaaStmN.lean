/- The walks of a stream that is not there, and of chapter 32's example; the law StreamNone. -/
import Derived.Shelf.Abstract
import Derived.Test.YtcaocnlchfbeaaaStmT
namespace Go.Proofs.Ytcaocnlchfbeaaa.Stm
open Go.RowKit Go.Proofs.Ytcaocnlchfbeaaa.Mk Go.Proofs.Ytcaocnlchfbeaaa.Cur
abbrev nS : Value := .slice none 0 0
set_option maxHeartbeats 1000000 in
theorem new1_calls (w : World) : Calls Try.prog 31 #[.int .i64 1] w fun r w' => r = .returned (.pointer (some ⟨w.heap.size, 0, none⟩)) ∧ SM w.heap.size ⟨1, [], false, 0, nS, 0⟩ w' ∧ Below w.heap.size w w' := by
  have hb : ∀ wx, (Instr.build 85 #[(0, .int .i64 1)]).run Try.prog wx = .ok (.agg (sC ⟨1, [], false, 0, nS, 0⟩)) wx := fun wx => by kernel_rfl
  unfold sC at hb
  go_enter Try.func31, Try.ntmps31
  go_wp2_with fail
  go_ret
  exact ⟨rfl, heap_new _ _, (Below.refl _ _).alloc (Nat.le_refl _) _⟩
set_option maxHeartbeats 1000000 in
theorem new1024_calls (w : World) : Calls Try.prog 31 #[.int .i64 1024] w fun r w' => r = .returned (.pointer (some ⟨w.heap.size, 0, none⟩)) ∧ SM w.heap.size ⟨1024, [], false, 0, nS, 0⟩ w' ∧ Below w.heap.size w w' := by
  have hb : ∀ wx, (Instr.build 85 #[(0, .int .i64 1024)]).run Try.prog wx = .ok (.agg (sC ⟨1024, [], false, 0, nS, 0⟩)) wx := fun wx => by kernel_rfl
  unfold sC at hb
  go_enter Try.func31, Try.ntmps31
  go_wp2_with fail
  go_ret
  exact ⟨rfl, heap_new _ _, (Below.refl _ _).alloc (Nat.le_refl _) _⟩
set_option maxHeartbeats 1000000 in
theorem whole_nil (w : World) : Calls Try.prog 16 #[.pointer none] w fun r w' => r = .returned (.bool false) ∧ w' = w := by
  go_enter Try.func16, Try.ntmps16
  go_wp2_with fail
  go_ret
  exact ⟨rfl, rfl⟩
set_option maxHeartbeats 1000000 in
theorem steps_nil (w : World) : Calls Try.prog 15 #[.pointer none] w fun r w' => r = .returned (.int .i64 0) ∧ w' = w := by
  go_enter Try.func15, Try.ntmps15
  go_wp2_with fail
  go_ret
  exact ⟨rfl, rfl⟩
set_option maxHeartbeats 1000000 in
theorem write_nil (b : ByteArray) (w : World) : Calls Try.prog 14 #[.pointer none, .string b] w fun r w' => r = .returned (.int .i64 6) ∧ w' = w := by
  go_enter Try.func14, Try.ntmps14
  go_wp2_with fail
  go_ret
  exact ⟨rfl, rfl⟩
set_option maxHeartbeats 1000000 in
theorem done_nil (w : World) : Calls Try.prog 13 #[.pointer none] w fun r w' => r = .returned (.tuple #[nS, .int .i64 6]) ∧ w' = w := by
  go_enter Try.func13, Try.ntmps13
  go_wp2_with fail
  go_ret2
  exact ⟨rfl, rfl⟩
/-- is a stream whole? -/
def wholeS (s : St) : Bool := (s.e == 0) && (s.g && (s.n == 0))
set_option maxHeartbeats 4000000 in
theorem whole_calls (k : Nat) (s : St) (w : World) (h : SM k s w) : Calls Try.prog 16 #[.pointer (some ⟨k, 0, none⟩)] w fun r w' => r = .returned (.bool (wholeS s)) ∧ w' = w := by
  obtain ⟨m, r, g, n, l, e⟩ := s
  have c2 := h.c2
  have c3 := h.c3
  have c5 := h.c5
  clear h
  have hw : wholeS ⟨m, r, g, n, l, e⟩ = ((e == 0) && (g && (n == 0))) := rfl
  rw [hw]
  clear hw
  simp only at c2 c3 c5
  cases he : (e == 0) <;> cases g <;> cases hn : (n == 0)
  all_goals
    go_enter Try.func16, Try.ntmps16
    go_wp2_with fail
    go_ret
    exact ⟨rfl, rfl⟩
theorem count0 : countS ⟨1, [0], false, 0, nS, 0⟩ ⟨[0], 0⟩ = (⟨1, [0], true, 0, nS, 0⟩, ⟨[], 0⟩) := by
  have h : numC ⟨[0], 0⟩ top64 = (0, ⟨[], 0⟩) := by kernel_rfl
  unfold countS
  rw [h]
  rfl
theorem ba0 : ba [0] = ⟨#[0]⟩ := rfl
set_option maxHeartbeats 4000000 in
set_option maxRecDepth 100000 in
theorem write0_calls (k : Nat) (w : World) (h : SM k ⟨1, [], false, 0, nS, 0⟩ w) :
    Calls Try.prog 14 #[.pointer (some ⟨k, 0, none⟩), .string ⟨#[0]⟩] w fun r w' => r = .returned (.int .i64 0) ∧ SM k ⟨1, [], true, 0, nS, 0⟩ w' ∧ But (fun i => i = k) w w' := by
  have hmf : ∀ (fn : Fn) (first cap : Array Value) (w : World), (Instr.makeFunc fn first cap).run Try.prog w = .ok (.func fn first cap) w := fun _ _ _ _ => rfl
  have c1 := h.c1
  have c2 := h.c2
  have c5 := h.c5
  have f1 := h.fz 1
  have H1 := Lib.hid (h.set1 [0])
  have hct := count0
  have HT := Lib.hid (fun W (hW : SM k ⟨1, [0], false, 0, nS, 0⟩ W) => take_calls 57 k ⟨1, [0], false, 0, nS, 0⟩ ⟨1, [0], true, 0, nS, 0⟩ ⟨[], 0⟩ (fun _ => False) W hW rfl (fun _ => ⟨[0], rfl⟩) (by decide) (enters_of Try.func57 (by kernel_rfl) rfl)
    (fun b W2 hs hu hb hbe => (count_calls k b _ _ W2 hs hu (by have := hW.lt; omega) (by decide) (by decide) (by decide)).mono (by
      rw [hct]
      rintro r W' ⟨rfl, h1, h2, h3⟩
      exact ⟨rfl, h1, h2, h3.mono (fun i _ e => by rcases e with e | e; exact .inl e; exact .inr (.inl e))⟩)))
  have hts : takeS ⟨1, [0], true, 0, nS, 0⟩ ⟨[], 0⟩ = ⟨1, [], true, 0, nS, 0⟩ := rfl
  rw [hts] at HT
  have HT := Lib.hid (fun W hW => (HT.out W hW).mono (show ∀ r W', _ → r = .returned (.bool true) ∧ SM k ⟨1, [], true, 0, nS, 0⟩ W' ∧ But (fun i => i = k) W W' from fun r W' h => ⟨h.1, h.2.1, h.2.2.mono (fun i _ e => e.elim id False.elim)⟩))
  have hB : But (fun i => i = k) w (w.setCell ⟨k, 1, none⟩ (.string (ba [0]))) := (But.refl (fun i => i = k) w).setCell (p := ⟨k, 1, none⟩) rfl _
  have HB := Lib.hid hB
  clear hct hts h hB
  simp only at c1 c2 c5
  rw [show ba ([] : List UInt8) = ⟨#[]⟩ from rfl] at c1
  have hap : (⟨#[]⟩ : ByteArray) ++ ⟨#[0]⟩ = ba [0] := by decide +kernel
  go_enter Try.func14, Try.ntmps14
  go_wp2_with fail
  refine (HT.out _ H1.out).mono ?_
  rintro e w3 ⟨rfl, hs3, hb3⟩
  have H3 := Lib.hid hs3
  have W3 := Lib.hid (HB.out.trans hb3 (fun i _ e => e))
  clear hs3 hb3 HT H1 HB c1 c2 c5 f1 hap
  go_wp2_with fail
  go_loopw [5] (fun s5 wr => s5 = .bool true ∧ wr = w3) (fun _ _ => 0)
  case atStart => exact ⟨rfl, rfl⟩
  case round =>
    obtain ⟨rfl, rfl⟩ := hrel
    have c1 := H3.out.c1
    have c2 := H3.out.c2
    have c3 := H3.out.c3
    have c5 := H3.out.c5
    simp only at c1 c2 c3 c5
    rw [show ba ([] : List UInt8) = ⟨#[]⟩ from rfl] at c1
    go_wp2_with fail
    go_ret
    exact ⟨rfl, H3.out, W3.out⟩
/-- what Done hands back of a stream that is whole and has nothing -/
theorem mk0 (wx : World) : (Instr.makeSlice 23 (.int .i64 0) (.int .i64 0)).run Try.prog wx = .ok (.slice (some ⟨wx.heap.size, 0, none⟩) 0 0) (wx.alloc (.cells #[] 43)) := by kernel_rfl
set_option maxHeartbeats 4000000 in
set_option maxRecDepth 100000 in
theorem done0_calls (k : Nat) (w : World) (h : SM k ⟨1, [], true, 0, nS, 0⟩ w) :
    Calls Try.prog 13 #[.pointer (some ⟨k, 0, none⟩)] w fun r w' => r = .returned (.tuple #[.slice (some ⟨w.heap.size, 0, none⟩) 0 0, .int .i64 0]) ∧ Below w.heap.size w w' := by
  have hmk := mk0
  have c5 := h.c5
  have c4 := h.c4
  have hkl := h.lt
  have HW := Lib.hid (whole_calls k _ w h)
  have hw : wholeS ⟨1, [], true, 0, nS, 0⟩ = true := rfl
  rw [hw] at HW
  clear hw h
  simp only at c4 c5
  go_enter Try.func13, Try.ntmps13
  go_wp2_with fail
  refine HW.out.mono ?_
  rintro e w3 ⟨rfl, rfl⟩
  go_wp2_with fail
  go_loopw [4, 35] (fun s4 s35 wr => s4 = .slice (some ⟨w3.heap.size, 0, none⟩) 0 0 ∧ s35 = .int .i64 0 ∧ wr = w3.alloc (.cells #[] 43)) (fun _ _ _ => 0)
  case atStart => exact ⟨rfl, rfl, rfl⟩
  case round =>
    obtain ⟨rfl, rfl, rfl⟩ := hrel
    go_wp2_with fail
    go_ret2
    exact ⟨rfl, (Below.refl _ _).alloc (Nat.le_refl _) _⟩
set_option maxHeartbeats 4000000 in
set_option maxRecDepth 100000 in
theorem awake32_calls (w : World) : Calls Try.prog 17 #[] w fun r w' => r = .returned (.bool true) ∧ Below w.heap.size w w' := by
  go_enter Try.func17, Try.ntmps17
  go_wp2_with fail
  refine (new1_calls _).mono ?_
  rintro e w1 ⟨rfl, hs1, hb1⟩
  have H1 := Lib.hid hs1
  have B1 := Lib.hid hb1
  clear hs1 hb1
  go_wp2_with fail
  refine (write0_calls _ _ H1.out).mono ?_
  rintro e w2 ⟨rfl, hs2, hb2⟩
  have H2 := Lib.hid hs2
  have B2 := Lib.hid (B1.out.trans (hb2.below B1.out.size (fun i e => by omega)))
  clear hs2 hb2 H1 B1
  go_wp2_with fail
  refine (done0_calls _ _ H2.out).mono ?_
  rintro e w3 ⟨rfl, hb3⟩
  have H3 := Lib.hid (H2.out.keep hb3)
  have B3 := Lib.hid (below_up B2.out hb3)
  clear hb3 H2 B2
  have hw : wholeS ⟨1, [], true, 0, nS, 0⟩ = true := rfl
  have HW := whole_calls w.heap.size _ w3 H3.out
  rw [hw] at HW
  have HW := Lib.hid HW
  clear hw
  go_wp2_with fail
  refine HW.out.mono ?_
  rintro e w4 ⟨rfl, rfl⟩
  go_wp2_with fail
  go_ret
  exact ⟨rfl, B3.out⟩
set_option maxHeartbeats 4000000 in
set_option maxRecDepth 100000 in
theorem streamNone_calls (b : ByteArray) (w : World) : Calls Try.prog 3 #[.string b] w fun r w' => r = .returned (.bool true) ∧ Below w.heap.size w w' := by
  go_enter Try.func3, Try.ntmps3
  go_wp2_with fail
  refine (done_nil _).mono ?_
  rintro e w1 ⟨rfl, rfl⟩
  go_wp2_with fail
  refine (write_nil _ _).mono ?_
  rintro e w2 ⟨rfl, rfl⟩
  go_wp2_with fail
  refine (steps_nil _).mono ?_
  rintro e w3 ⟨rfl, rfl⟩
  go_wp2_with fail
  refine (whole_nil _).mono ?_
  rintro e w4 ⟨rfl, rfl⟩
  go_wp2_with fail
  refine (awake32_calls _).mono ?_
  rintro e w5 ⟨rfl, hb5⟩
  have B5 := Lib.hid hb5
  clear hb5
  go_wp2_with fail
  go_ret
  exact ⟨rfl, B5.out⟩
end Go.Proofs.Ytcaocnlchfbeaaa.Stm
