/- The walks of the document's cursor (a value). -/
import Derived.Deep.AppendLies
import Derived.Deep.RegionLaw
import Derived.Test.YtgdlhcopgfgmaaaCurT
namespace Go.Proofs.Ytgdlhcopgfgmaaa.Cur
open Go.RowKit Go.Proofs.Ytgdlhcopgfgmaaa.Mk
def cC (c : C) : Array Value := #[.string (ba c.b), .int .i64 c.e]
def cV (c : C) : Value := .agg (cC c)
theorem UC : (Try.prog.underlying 35).map (fun d => match d with | .struct _ | .array _ _ => true | _ => false) = some true := by kernel_rfl
theorem IC : (Try.prog.info? 35).map (·.size) = some 2 := by kernel_rfl
theorem load_C {w : World} {g : Nat} {a b : Value} {fr : Nat × Nat} {t : TypeId} (h : w.heap[g]? = some (.cells #[a, b] t fr)) : (loadVar 35 ⟨g, 0, none⟩).run Try.prog w = .ok (.agg #[a, b]) w := by
  obtain ⟨d, hd, hr⟩ := Option.map_eq_some_iff.1 UC
  exact run_loadVar_row (P := Try.prog) w g t _ _ _ d h hd (by cases d <;> simp_all) (by rw [IC]; rfl)
theorem heap_new2 (w : World) (o1 o2 : Obj) : ((w.alloc o1).alloc o2).heap[w.heap.size + 1]? = some o2 := by
  have := heap_new (w.alloc o1) o2
  rwa [World.size_alloc] at this
theorem heap_new1 (w : World) (o1 o2 : Obj) : ((w.alloc o1).alloc o2).heap[w.heap.size]? = some o1 := (Below.heap_alloc _ _ _ (by simp)).trans (heap_new w o1)
theorem below2 (w : World) (o1 o2 : Obj) : Below w.heap.size w ((w.alloc o1).alloc o2) := ((Below.refl _ _).alloc (Nat.le_refl _) _).alloc (by simp) _
set_option maxHeartbeats 2000000 in
theorem rfail_calls (c : C) (e : Int) (w : World) :
    Calls Try.prog 61 #[cV c, .int .i64 e] w fun r w' => r = .returned (cV (failC c e)) ∧ Below w.heap.size w w' := by
  obtain ⟨l, ce⟩ := c
  by_cases h0 : ce = 0
  · by_cases he : e = 0
    · subst h0 he
      rw [show failC ⟨l, 0⟩ 0 = ⟨l, 0⟩ from by simp [failC]]
      unfold cV cC
      go_enter Try.func61, Try.ntmps61
      go_wp2_with fail
      exact bodyPost_ret (results_cell 4 35 ⟨w.heap.size + 1, 0, none⟩ _ rfl rfl (load_C (heap_new2 _ _ _))) rfl ⟨rfl, below2 _ _ _⟩
    · subst h0
      rw [fail_some l e he]
      have t1 : (e != 0) = true := by simpa using he
      unfold cV cC
      rw [ba_nil]
      go_enter Try.func61, Try.ntmps61
      go_wp2_with fail
      exact bodyPost_ret (results_cell 4 35 ⟨w.heap.size + 1, 0, none⟩ _ rfl rfl (load_C (heap_new2 _ _ _))) rfl ⟨rfl, below2 _ _ _⟩
  · rw [fail_kept ⟨l, ce⟩ e h0]
    have t1 : (ce == 0) = false := by simpa using h0
    unfold cV cC
    go_enter Try.func61, Try.ntmps61
    go_wp2_with fail
    exact bodyPost_ret (results_cell 4 35 ⟨w.heap.size + 1, 0, none⟩ _ rfl rfl (load_C (heap_new2 _ _ _))) rfl ⟨rfl, below2 _ _ _⟩
set_option maxHeartbeats 2000000 in
theorem rdone_calls (c : C) (w : World) :
    Calls Try.prog 18 #[cV c] w fun r w' => r = .returned (.int .i64 (doneC c)) ∧ Below w.heap.size w w' := by
  obtain ⟨l, ce⟩ := c
  by_cases h0 : ce = 0
  · subst h0
    by_cases h1 : l = []
    · subst h1
      rw [show doneC ⟨[], 0⟩ = 0 from by simp [doneC]]
      unfold cV cC
      rw [ba_nil]
      go_enter Try.func18, Try.ntmps18
      go_wp2_with fail
      go_ret
      exact ⟨rfl, (Below.refl _ _).alloc (Nat.le_refl _) _⟩
    · rw [show doneC ⟨l, 0⟩ = 2 from by simp [doneC, h1]]
      have ht : (ba l).toList.isEmpty = false := by rw [bs_toList, bs_ba]; simpa using h1
      unfold cV cC
      generalize ba l = s at *
      go_enter Try.func18, Try.ntmps18
      go_wp2_with fail
      go_ret
      exact ⟨rfl, (Below.refl _ _).alloc (Nat.le_refl _) _⟩
  · rw [show doneC ⟨l, ce⟩ = ce from by simp [doneC, h0]]
    have t1 : (ce == 0) = false := by simpa using h0
    unfold cV cC
    go_enter Try.func18, Try.ntmps18
    go_wp2_with fail
    go_ret
    exact ⟨rfl, (Below.refl _ _).alloc (Nat.le_refl _) _⟩
def zC : Array Value := #[.string ⟨#[]⟩, .int .i64 0]
theorem IC' (a b : Value) : (Try.prog.info? 35).map (·.size) = some (#[a, b] : Array Value).size := by rw [IC]; rfl
theorem oneC (s : ByteArray) (e : Int) : (#[.string s, .int .i64 e] : Array Value).all (·.oneCell') = true := by simp [Value.oneCell']
/-- a store of a whole C into a block that was laid ahead -/
theorem setRow_below {w w' : World} {g : Nat} {cs : Array Value} (h : Below w.heap.size w w') (hg : w.heap.size ≤ g) : Below w.heap.size w (w'.setRow g cs) :=
  ⟨h.os, h.tape, h.output, by simpa [World.setRow] using h.size, fun k hk => (setRow_other _ _ _ _ (by omega)).trans (h.block k hk)⟩
set_option maxHeartbeats 4000000 in
theorem rraw_calls (c : C) (n : Int) (w : World) (hl : c.b.length ≤ 9223372036854775807) (hn : n ≤ 9223372036854775807) :
    Calls Try.prog 54 #[cV c, .int .i64 n] w fun r w' => r = .returned (.tuple #[.string (ba (rawC c n).1), cV (rawC c n).2]) ∧ Below w.heap.size w w' := by
  by_cases hneg : n < 0
  · rw [raw_neg c n hneg, ba_nil]
    have HF := Lib.hid (fun w => rfail_calls c 3 w)
    generalize failC c 3 = d at *
    unfold cV cC at *
    go_enter Try.func54, Try.ntmps54
    go_wp2_with fail
    refine (HF.out _).mono ?_
    rintro r w1 ⟨rfl, hb1⟩
    have y1 : w1.heap[w.heap.size + 1]? = some (.cells zC 35 (0, 0)) := (hb1.block _ (by simp)).trans (heap_new2 _ _ _)
    have HB := Lib.hid (below_up (below2 _ _ _) hb1)
    clear hb1
    have Y1 := Lib.hid y1
    clear y1
    go_wp2_with (first | (refine wpList_store_row rfl 35 _ _ rfl (w.heap.size + 1) #[.string (ba d.b), .int .i64 d.e] rfl rfl _ _ Y1.out (IC' _ _) rfl (oneC _ _) ?_))
    exact bodyPost_ret (results_tmp_cell 4 5 35 ⟨w.heap.size + 1, 0, none⟩ _ rfl rfl (load_C (setRow_heap _ _ _ _ _ _ Y1.out))) rfl ⟨rfl, setRow_below HB.out (by omega)⟩
  · obtain ⟨m, rfl⟩ := Int.eq_ofNat_of_zero_le (Int.not_lt.1 hneg)
    obtain ⟨l, ce⟩ := c
    by_cases h0 : ce = 0
    · subst h0
      simp only at hl
      have hsz : (ba l).size = l.length := rfl
      by_cases hlen : m ≤ l.length
      · rw [raw_ok l m hlen]
        unfold cV cC
        rw [← take_extract, ← drop_extract l m (ba l).size rfl]
        have t1 : decide (((ba l).size : Int) < (m : Int)) = false := by rw [hsz]; simp; omega
        have t2 : decide ((ba l).size < m) = false := by rw [hsz]; simp; omega
        have t3 : m ≤ (ba l).size := by rw [hsz]; exact hlen
        clear hsz hlen
        generalize ba l = s at *
        go_enter Try.func54, Try.ntmps54
        go_wp2_with fail
        go_region
        all_goals go_wp2_with fail
        exact bodyPost_ret (results_tmp_cell 4 5 35 ⟨w.heap.size + 1, 0, none⟩ _ rfl rfl (load_C (heap_new2 _ _ _))) rfl ⟨rfl, (below2 _ _ _).drew⟩
      · rw [raw_short l m (by omega), ba_nil]
        have HF := Lib.hid (fun w => rfail_calls ⟨l, 0⟩ 1 w)
        rw [fail_some l 1 (by decide)] at HF
        unfold cV cC at HF
        simp only [ba_nil] at HF
        have t1 : decide (((ba l).size : Int) < (m : Int)) = true := by rw [hsz]; simp; omega
        have t2 : decide ((ba l).size < m) = true := by rw [hsz]; simp; omega
        clear hsz hlen
        unfold cV cC
        simp only [ba_nil]
        generalize ba l = s at *
        go_enter Try.func54, Try.ntmps54
        go_wp2_with fail
        refine (HF.out _).mono ?_
        rintro r w1 ⟨rfl, hb1⟩
        have y1 : w1.heap[w.heap.size + 1]? = some (.cells zC 35 (0, 0)) := (hb1.block _ (by simp)).trans (heap_new2 _ _ _)
        have HB := Lib.hid (below_up (below2 _ _ _) hb1)
        clear hb1
        have Y1 := Lib.hid y1
        clear y1
        go_wp2_with (first | (refine wpList_store_row rfl 35 _ _ rfl (w.heap.size + 1) #[.string ⟨#[]⟩, .int .i64 1] rfl rfl _ _ Y1.out (IC' _ _) rfl (oneC _ _) ?_))
        exact bodyPost_ret (results_tmp_cell 4 5 35 ⟨w.heap.size + 1, 0, none⟩ _ rfl rfl (load_C (setRow_heap _ _ _ _ _ _ Y1.out))) rfl ⟨rfl, setRow_below HB.out (by omega)⟩
    · have t1 : (ce != 0) = true := by simpa using h0
      rw [raw_err l ce m h0, ba_nil]
      unfold cV cC
      go_enter Try.func54, Try.ntmps54
      go_wp2_with fail
      go_region
      all_goals go_wp2_with fail
      exact bodyPost_ret (results_tmp_cell 4 5 35 ⟨w.heap.size + 1, 0, none⟩ _ rfl rfl (load_C (heap_new2 _ _ _))) rfl ⟨rfl, (below2 _ _ _).drew⟩
end Go.Proofs.Ytgdlhcopgfgmaaa.Cur
