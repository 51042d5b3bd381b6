/- The walks of what proof.Put defers, and of must. -/
import Derived.Defers
import Derived.Recover
import Derived.Laws.Pointers
import Derived.Test.YtcaocnlchfbeaaaPs
namespace Go.Proofs.Ytcaocnlchfbeaaa.Pf
open Go.RowKit Go.Proofs.Ytcaocnlchfbeaaa.Mk Go.Proofs.Ytcaocnlchfbeaaa.Op Go.Proofs.Ytcaocnlchfbeaaa.Hd Go.Proofs.Ytcaocnlchfbeaaa.St Go.Proofs.Ytcaocnlchfbeaaa.Cur Go.Proofs.Ytcaocnlchfbeaaa.Stp Go.Proofs.Ytcaocnlchfbeaaa.Tk
/-- what must throws -/
def wr (e : Int) : Value := .iface 138 (.agg #[.int .i64 e])
set_option maxHeartbeats 2000000 in
theorem must_ok (w : World) : Calls Try.prog 81 #[.int .i64 0] w fun r w' => r = .returned (.tuple #[]) ∧ w' = w := by
  go_enter Try.func81, Try.ntmps81
  go_wp2_with fail
  go_end0
  exact ⟨rfl, rfl⟩
set_option maxHeartbeats 2000000 in
theorem must_bad (e : Int) (he : e ≠ 0) (w : World) : Calls Try.prog 81 #[.int .i64 e] w fun r w' => r = .panicked [{ v := wr e, recovered := false }] ∧ w' = w := by
  have t1 : (e != 0) = true := by simpa using he
  have t2 : (e == 0) = false := by simpa using he
  clear he
  go_enter Try.func81, Try.ntmps81
  go_wp2_with fail
  exact ⟨rfl, rfl, rfl⟩
theorem ta_nil (wx : World) : (Instr.typeAssert .nilIface 20 138 true).run Try.prog wx = .ok (.tuple #[.agg #[.int .i64 0], .bool false]) wx := by kernel_rfl
theorem ta_wrong (e : Int) (wx : World) : (Instr.typeAssert (wr e) 20 138 true).run Try.prog wx = .ok (.tuple #[.agg #[.int .i64 e], .bool true]) wx := by kernel_rfl
set_option maxRecDepth 100000 in
set_option maxHeartbeats 2000000 in
theorem caught_nil (p : Addr) (w : World) : Calls Try.prog 80 #[.nilIface, .pointer (some p)] w fun r w' => r = .returned (.tuple #[]) ∧ Below w.heap.size w w' := by
  have hta := ta_nil
  go_enter Try.func80, Try.ntmps80
  go_wp2_with fail
  go_end0
  exact ⟨rfl, (Below.refl _ _).alloc (Nat.le_refl _) _⟩
theorem deferred_idle (p : Addr) (w : World) : CallsD Try.prog 79 #[.pointer (some p)] .returning w fun r u' w' => r = .returned (.tuple #[]) ∧ u' = .returning ∧ Below w.heap.size w w' := by
  refine callsD_of_wpS Try.func79 rfl fun c₀ cs hu => ?_
  apply wpS_region
  simp [wpOpsS, go_sem, recoverD, hu, Try.ntmps79]
  refine (caught_nil p w).mono ?_
  rintro e w1 ⟨rfl, hb1⟩
  cases c₀
  simp_all [bodyPostS, results, Try.results79]
set_option maxRecDepth 100000 in
set_option maxHeartbeats 2000000 in
/-- behind a panic that must threw: the error is laid, and the panic is caught -/
theorem caught_wrong (p : Addr) (e x : Int) (w : World) (hc : w.cell? p = some (.int .i64 x)) (hz : w.frozen? p = false) :
    Calls Try.prog 80 #[wr e, .pointer (some p)] w fun r w' => r = .returned (.tuple #[]) ∧ w' = (w.alloc (.cells #[.int .i64 e] 138)).setCell p (.int .i64 e) := by
  have hta := ta_wrong e
  unfold wr at *
  have c2 : ∀ o, (w.alloc o).cell? p = some (.int .i64 x) := fun o => cell_laid hc o
  have z2 : ∀ o, (w.alloc o).frozen? p = false := fun o => by
    have h1 := block_lt_of_cell hc
    obtain ⟨b, f, s⟩ := p
    have h2 : (w.alloc o).heap[b]? = w.heap[b]? := Below.heap_alloc _ _ _ h1
    exact (World.frozen?_of_block h2).trans hz
  have c3 := c2 (.cells #[.int .i64 e] 138)
  have z3 := z2 (.cells #[.int .i64 e] 138)
  clear c2 z2
  go_enter Try.func80, Try.ntmps80
  go_wp2_with fail
  go_end0
  exact ⟨rfl, rfl⟩
theorem deferred_caught (p : Addr) (e x : Int) (older : List PanicEntry) (w : World) (hc : w.cell? p = some (.int .i64 x)) (hz : w.frozen? p = false) :
    CallsD Try.prog 79 #[.pointer (some p)] (.panicking ({ v := wr e, recovered := false } :: older)) w fun r u' w' => r = .returned (.tuple #[]) ∧ u' = .panicking ({ v := wr e, recovered := true } :: older) ∧ w' = (w.alloc (.cells #[.int .i64 e] 138)).setCell p (.int .i64 e) := by
  refine callsD_of_wpS Try.func79 rfl fun c₀ cs hu => ?_
  apply wpS_region
  simp [wpOpsS, go_sem, recoverD, hu, Try.ntmps79]
  refine (caught_wrong p e x w hc hz).mono ?_
  rintro r w1 ⟨rfl, rfl⟩
  cases c₀
  simp_all [bodyPostS, results, Try.results79]
end Go.Proofs.Ytcaocnlchfbeaaa.Pf
