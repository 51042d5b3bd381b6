/- The walk of chapter 8's law: a step, at a cursor and at the document's. -/
import Derived.Test.YtgdlhcopgfgmaaaCurH
namespace Go.Proofs.Ytgdlhcopgfgmaaa.Cur
open Go.RowKit Go.Proofs.Ytgdlhcopgfgmaaa.Mk
/-- a step -/
structure St where
  k : Int
  n : Int
  m : Nat
  e : Int
instance : Inhabited St := ⟨⟨0, 0, 0, 0⟩⟩
def St.c (x : St) : List Value := [.int .i64 x.k, .int .i64 x.n, .int .u64 x.m, .int .i64 x.e]
def St.v (x : St) : Value := .agg x.c.toArray
/-- what a step makes of a cursor -/
def St.go (x : St) (c : C) : C :=
  if x.k = 1 then (rawC c 1).2 else if x.k = 2 then (numC c x.m).2 else if x.k = 3 then (rawC c x.n).2 else if x.k = 4 then (hashC c).2 else if x.k = 5 then (textC c x.n).2 else failC c x.e
def DoPost (b : Nat) (x : St) (c r : C) (w : World) (e : Ending) (w' : World) : Prop :=
  (∃ q, e = .returned (.tuple #[cV (x.go r), .bool q]) ∧ (c = r → q = true)) ∧ CU b (x.go c) w' ∧ CW b w w'
/-- a block of two cells as a walk reads and writes it -/
structure Two (w : World) (g : Nat) (x y : Value) : Prop where
  c0 : w.cell? ⟨g, 0, none⟩ = some x
  c1 : w.cell? ⟨g, 1, none⟩ = some y
  f0 : w.frozen? ⟨g, 0, none⟩ = false
  f1 : w.frozen? ⟨g, 1, none⟩ = false
theorem two_of {w : World} {g : Nat} {x y : Value} {t : TypeId} (h : w.heap[g]? = some (.cells #[x, y] t (0, 0))) : Two w g x y :=
  ⟨by rw [cell_of_row _ _ _ _ _ _ h]; rfl, by rw [cell_of_row _ _ _ _ _ _ h]; rfl, by simp [World.frozen?, h], by simp [World.frozen?, h]⟩
/-- what stands at a call that takes from the cursor: blocks p and t keep -/
theorem at_call {P : Program} {f : FuncId} {args : Array Value} {W : World} {b p t : Nat} {v x y u z : Value} {tp tt : TypeId} {c' : C}
    (h : Calls P f args W fun r w' => r = .returned v ∧ CU b c' w' ∧ CW b W w')
    (hp : W.heap[p]? = some (.cells #[x, y] tp (0, 0))) (ht : W.heap[t]? = some (.cells #[u, z] tt (0, 0))) (hpb : p ≠ b) (htb : t ≠ b) :
    Calls P f args W fun r w' => r = .returned v ∧ Hid (CU b c' w' ∧ CW b W w' ∧ w'.heap[t]? = some (.cells #[u, z] tt (0, 0))) ∧ (w'.cell? ⟨p, 0, none⟩ = some x ∧ w'.cell? ⟨p, 1, none⟩ = some y) ∧
      w'.cell? ⟨t, 0, none⟩ = some u ∧ w'.cell? ⟨t, 1, none⟩ = some z ∧ w'.frozen? ⟨t, 0, none⟩ = false ∧ w'.frozen? ⟨t, 1, none⟩ = false := by
  refine h.mono ?_
  rintro r w' ⟨hr, hu, hw⟩
  have hp' := (hw.block p (Array.getElem?_eq_some_iff.1 hp).1 hpb).trans hp
  have ht' := (hw.block t (Array.getElem?_eq_some_iff.1 ht).1 htb).trans ht
  have a := two_of hp'
  have c := two_of ht'
  exact ⟨hr, Lib.hid ⟨hu, hw, ht'⟩, ⟨a.c0, a.c1⟩, c.c0, c.c1, c.f0, c.f1⟩
theorem do_end {b : Nat} {x : St} {c r : C} {w W w3 : World} {q : Bool} {u v : Value} {g : Nat} (hB : Below w.heap.size w W) (hu : CU b (x.go c) w3) (hw : CW b W.drew w3) (hg : w.heap.size ≤ g ∧ g ≠ b) {d : C} (hd : x.go r = d) (hq : c = r → q = true) :
    DoPost b x c r w (.returned (.tuple #[cV d, .bool q])) ((w3.setCell ⟨g, 0, none⟩ u).setCell ⟨g, 1, none⟩ v) := by
  have k : ∀ k, k ≠ g → ((w3.setCell ⟨g, 0, none⟩ u).setCell ⟨g, 1, none⟩ v).heap[k]? = w3.heap[k]? := fun k hk => (Below.heap_setCell _ _ _ _ hk).trans (Below.heap_setCell _ _ _ _ hk)
  have hs : ((w3.setCell ⟨g, 0, none⟩ u).setCell ⟨g, 1, none⟩ v).heap.size = w3.heap.size := by simp [World.setCell]
  refine ⟨⟨q, by rw [hd], hq⟩, (k b (fun e => hg.2 e.symm)).trans hu, hw.os.trans hB.os, hw.tape.trans hB.tape, hw.output.trans hB.output, ?_, fun i hi hib => ?_⟩
  · rw [hs]; exact Nat.le_trans hB.size hw.size
  · exact (k i (by omega)).trans ((hw.block i (Nat.lt_of_lt_of_le hi hB.size) hib).trans (hB.block i hi))


set_option maxHeartbeats 4000000 in
set_option maxRecDepth 100000 in
theorem do1 (b : Nat) (n : Int) (m : Nat) (e : Int) (c r : C) (w : World) (h : CU b c w) (hl : c.b.length ≤ 9223372036854775807) (hr : r.b.length ≤ 9223372036854775807) :
    Calls Try.prog 23 #[.pointer (some ⟨b, 0, none⟩), cV r, St.v ⟨1, n, m, e⟩] w (DoPost b ⟨1, n, m, e⟩ c r w) := by
  have HR := Lib.hid (fun w => rraw_calls r 1 w hr (by omega))
  have HB := Lib.hid (fun W (hW : CU b c W) => byte_calls b c W hW hl)
  have hlen := raw1_len r
  unfold cV cC at HR
  unfold cV cC St.v St.c
  go_enter Try.func23, Try.ntmps23
  go_wp2_with fail
  refine (HR.out _).mono ?_
  rintro q w1 ⟨rfl, hb1⟩
  have HB1 := Lib.hid hb1
  clear hb1
  have hbr : byteC r = ((((rawC r 1).1.head?).map (·.toNat)).getD 0, (rawC r 1).2) := rfl
  have Hbr := Lib.hid hbr
  have Hgo := Lib.hid (show St.go ⟨1, n, m, e⟩ r = (rawC r 1).2 from rfl)
  clear hbr
  generalize rawC r 1 = x at *
  obtain ⟨s, d⟩ := x
  simp only at hlen
  match s, hlen with
  | [], _ =>
    rw [ba_nil]
    go_wp2_with fail
    have hb1 := HB1.out
    have hs1 : w.heap.size + 3 ≤ w1.heap.size := by have := hb1.size; simp at this; omega
    have hbl := h.lt
    have hg2 : w.heap.size ≤ w.heap.size + 1 + 1 ∧ w.heap.size + 1 + 1 ≠ b := by omega
    have Z9 := heap_new w1 (.cells #[.string (ba d.b), .int .i64 d.e] 35)
    have Z6 : (w1.alloc (.cells #[.string (ba d.b), .int .i64 d.e] 35)).heap[w.heap.size + 2]? = some (.cells zC 35 (0, 0)) := by
      refine (Below.heap_alloc _ _ _ (by omega)).trans ((hb1.block _ (by simp)).trans ?_)
      have h3 := heap_new ((w.alloc (.cells #[.string (ba r.b), .int .i64 r.e] 35)).alloc (.cells #[.int .i64 1, .int .i64 n, .int .u64 m, .int .i64 e] 50)) (.cells zC 35)
      rw [World.size_alloc, World.size_alloc] at h3
      exact h3
    have ZS : (w1.alloc (.cells #[.string (ba d.b), .int .i64 d.e] 35)).heap[w.heap.size + 1]? = some (.cells #[.int .i64 1, .int .i64 n, .int .u64 m, .int .i64 e] 50 (0, 0)) :=
      (Below.heap_alloc _ _ _ (by omega)).trans ((hb1.block _ (by simp <;> omega)).trans ((Below.heap_alloc _ _ _ (by simp)).trans (heap_new2 _ _ _)))
    have hB2 : Below w.heap.size w (w1.alloc (.cells #[.string (ba d.b), .int .i64 d.e] 35)) := (below_up ((below2 _ _ _).alloc (by simp <;> omega) _) hb1).alloc (by omega) _
    generalize hW2 : w1.alloc (.cells #[.string (ba d.b), .int .i64 d.e] 35) = W2 at *
    clear hW2
    have HC := Lib.hid (at_call (HB.out W2.drew (h.keep hB2.drew)) Z9 Z6 (by omega) (by omega))
    have e9 := two_of Z9
    have a0 := e9.c0
    have a1 := e9.c1
    have Hs1 := Lib.hid hs1
    have HB2 := Lib.hid hB2
    have s1 : W2.cell? ⟨w.heap.size + 1, 1, none⟩ = some (.int .i64 n) := by rw [cell_of_row _ _ _ _ _ _ ZS]; rfl
    have s2 : W2.cell? ⟨w.heap.size + 1, 2, none⟩ = some (.int .u64 m) := by rw [cell_of_row _ _ _ _ _ _ ZS]; rfl
    clear hb1 Z9 Z6 hB2 e9 hs1 ZS
    go_region_law (go_simp; go_at_call 29; refine HC.out.mono ?_; rintro q2 w3 ⟨rfl, hyy, ⟨b0, b1⟩, k0, k1, g0, g1⟩)
    all_goals go_wp2_with fail
    all_goals refine bodyPost_ret (res_cell_tmp 6 7 35 ⟨w.heap.size + 1 + 1, 0, none⟩ _ rfl rfl (load_C (set_two hyy.out.2.2 _ _))) rfl ?_
    all_goals refine do_end (x := ⟨1, n, m, e⟩) (c := c) (r := r) (g := w.heap.size + 1 + 1) HB2.out hyy.out.1 hyy.out.2.1 hg2 Hgo.out ?_
    all_goals intro he
    all_goals subst he
    all_goals rw [Hbr.out]
    all_goals rfl
  | [y], _ =>
    have hs : ((ba [y]).size : Int) = 1 := rfl
    have hy : (ba [y])[0]? = some y := rfl
    have ht : (ba [y]).toList.isEmpty = false := by rw [bs_toList]; rfl
    go_wp2_with fail
    have hb1 := HB1.out
    have hs1 : w.heap.size + 3 ≤ w1.heap.size := by have := hb1.size; simp at this; omega
    have hbl := h.lt
    have hg2 : w.heap.size ≤ w.heap.size + 1 + 1 ∧ w.heap.size + 1 + 1 ≠ b := by omega
    have Z9 := heap_new w1 (.cells #[.string (ba d.b), .int .i64 d.e] 35)
    have Z6 : (w1.alloc (.cells #[.string (ba d.b), .int .i64 d.e] 35)).heap[w.heap.size + 2]? = some (.cells zC 35 (0, 0)) := by
      refine (Below.heap_alloc _ _ _ (by omega)).trans ((hb1.block _ (by simp)).trans ?_)
      have h3 := heap_new ((w.alloc (.cells #[.string (ba r.b), .int .i64 r.e] 35)).alloc (.cells #[.int .i64 1, .int .i64 n, .int .u64 m, .int .i64 e] 50)) (.cells zC 35)
      rw [World.size_alloc, World.size_alloc] at h3
      exact h3
    have ZS : (w1.alloc (.cells #[.string (ba d.b), .int .i64 d.e] 35)).heap[w.heap.size + 1]? = some (.cells #[.int .i64 1, .int .i64 n, .int .u64 m, .int .i64 e] 50 (0, 0)) :=
      (Below.heap_alloc _ _ _ (by omega)).trans ((hb1.block _ (by simp <;> omega)).trans ((Below.heap_alloc _ _ _ (by simp)).trans (heap_new2 _ _ _)))
    have hB2 : Below w.heap.size w (w1.alloc (.cells #[.string (ba d.b), .int .i64 d.e] 35)) := (below_up ((below2 _ _ _).alloc (by simp <;> omega) _) hb1).alloc (by omega) _
    generalize hW2 : w1.alloc (.cells #[.string (ba d.b), .int .i64 d.e] 35) = W2 at *
    clear hW2
    have HC := Lib.hid (at_call (HB.out W2.drew (h.keep hB2.drew)) Z9 Z6 (by omega) (by omega))
    have e9 := two_of Z9
    have a0 := e9.c0
    have a1 := e9.c1
    have Hs1 := Lib.hid hs1
    have HB2 := Lib.hid hB2
    have s1 : W2.cell? ⟨w.heap.size + 1, 1, none⟩ = some (.int .i64 n) := by rw [cell_of_row _ _ _ _ _ _ ZS]; rfl
    have s2 : W2.cell? ⟨w.heap.size + 1, 2, none⟩ = some (.int .u64 m) := by rw [cell_of_row _ _ _ _ _ _ ZS]; rfl
    clear hb1 Z9 Z6 hB2 e9 hs1 ZS
    go_region_law (go_simp; go_at_call 29; refine HC.out.mono ?_; rintro q2 w3 ⟨rfl, hyy, ⟨b0, b1⟩, k0, k1, g0, g1⟩)
    all_goals go_wp2_with fail
    all_goals refine bodyPost_ret (res_cell_tmp 6 7 35 ⟨w.heap.size + 1 + 1, 0, none⟩ _ rfl rfl (load_C (set_two hyy.out.2.2 _ _))) rfl ?_
    all_goals refine do_end (x := ⟨1, n, m, e⟩) (c := c) (r := r) (g := w.heap.size + 1 + 1) HB2.out hyy.out.1 hyy.out.2.1 hg2 Hgo.out ?_
    all_goals intro he
    all_goals subst he
    all_goals rw [Hbr.out]
    all_goals first | rfl | (simp; rfl)

set_option maxHeartbeats 4000000 in
set_option maxRecDepth 100000 in
theorem do2 (b : Nat) (n : Int) (m : Nat) (e : Int) (c r : C) (w : World) (h : CU b c w) (hl : c.b.length ≤ 9223372036854775807) (hr : r.b.length ≤ 9223372036854775807) (hn : n ≤ 9223372036854775807) (hn0 : -9223372036854775808 ≤ n) :
    Calls Try.prog 23 #[.pointer (some ⟨b, 0, none⟩), cV r, St.v ⟨2, n, m, e⟩] w (DoPost b ⟨2, n, m, e⟩ c r w) := by
  have HR := Lib.hid (fun w => rnum_calls r m w hr)
  have HB := Lib.hid (fun W (hW : CU b c W) => num_calls b c m W hW hl)
  have Hgo := Lib.hid (show St.go ⟨2, n, m, e⟩ r = (numC r m).2 from rfl)
  have Hgc := Lib.hid (show (numC c m).2 = St.go ⟨2, n, m, e⟩ c from rfl)
  have Hq := Lib.hid (show c = r → (numC c m).1 = (numC r m).1 from fun he => by rw [he])
  generalize numC r m = x at *
  generalize numC c m = y at *
  obtain ⟨s, d⟩ := x
  obtain ⟨sc, dc⟩ := y
  simp only at Hgo Hgc Hq
  unfold cV cC at HR
  unfold cV cC St.v St.c
  go_enter Try.func23, Try.ntmps23
  go_wp2_with fail
  refine (HR.out _).mono ?_
  rintro q w1 ⟨rfl, hb1⟩
  have HB1 := Lib.hid hb1
  clear hb1
  go_wp2_with fail
  have hb1 := HB1.out
  have hs1 : w.heap.size + 3 ≤ w1.heap.size := by have := hb1.size; simp at this; omega
  have hbl := h.lt
  have hg2 : w.heap.size ≤ w.heap.size + 1 + 1 ∧ w.heap.size + 1 + 1 ≠ b := by omega
  have Z9 := heap_new w1 (.cells #[.string (ba d.b), .int .i64 d.e] 35)
  have Z6 : (w1.alloc (.cells #[.string (ba d.b), .int .i64 d.e] 35)).heap[w.heap.size + 2]? = some (.cells zC 35 (0, 0)) := by
    refine (Below.heap_alloc _ _ _ (by omega)).trans ((hb1.block _ (by simp)).trans ?_)
    have h3 := heap_new ((w.alloc (.cells #[.string (ba r.b), .int .i64 r.e] 35)).alloc (.cells #[.int .i64 2, .int .i64 n, .int .u64 m, .int .i64 e] 50)) (.cells zC 35)
    rw [World.size_alloc, World.size_alloc] at h3
    exact h3
  have ZS : (w1.alloc (.cells #[.string (ba d.b), .int .i64 d.e] 35)).heap[w.heap.size + 1]? = some (.cells #[.int .i64 2, .int .i64 n, .int .u64 m, .int .i64 e] 50 (0, 0)) :=
    (Below.heap_alloc _ _ _ (by omega)).trans ((hb1.block _ (by simp <;> omega)).trans ((Below.heap_alloc _ _ _ (by simp)).trans (heap_new2 _ _ _)))
  have hB2 : Below w.heap.size w (w1.alloc (.cells #[.string (ba d.b), .int .i64 d.e] 35)) := (below_up ((below2 _ _ _).alloc (by simp <;> omega) _) hb1).alloc (by omega) _
  generalize hW2 : w1.alloc (.cells #[.string (ba d.b), .int .i64 d.e] 35) = W2 at *
  clear hW2
  have HC := Lib.hid (at_call (HB.out W2.drew (h.keep hB2.drew)) Z9 Z6 (by omega) (by omega))
  have e9 := two_of Z9
  have a0 := e9.c0
  have a1 := e9.c1
  have Hs1 := Lib.hid hs1
  have HB2 := Lib.hid hB2
  have s1 : W2.cell? ⟨w.heap.size + 1, 1, none⟩ = some (.int .i64 n) := by rw [cell_of_row _ _ _ _ _ _ ZS]; rfl
  have s2 : W2.cell? ⟨w.heap.size + 1, 2, none⟩ = some (.int .u64 m) := by rw [cell_of_row _ _ _ _ _ _ ZS]; rfl
  clear hb1 Z9 Z6 hB2 e9 hs1 ZS
  go_region_law (go_simp; go_at_call 30; refine HC.out.mono ?_; rintro q2 w3 ⟨rfl, hyy, ⟨b0, b1⟩, k0, k1, g0, g1⟩)
  all_goals go_wp2_with fail
  all_goals refine bodyPost_ret (res_cell_tmp 6 7 35 ⟨w.heap.size + 1 + 1, 0, none⟩ _ rfl rfl (load_C (set_two hyy.out.2.2 _ _))) rfl ?_
  all_goals refine do_end (x := ⟨2, n, m, e⟩) (c := c) (r := r) (g := w.heap.size + 1 + 1) HB2.out (by rw [← Hgc.out]; exact hyy.out.1) hyy.out.2.1 hg2 Hgo.out ?_
  all_goals intro he
  all_goals rw [Hq.out he]
  all_goals simp
set_option maxHeartbeats 4000000 in
set_option maxRecDepth 100000 in
theorem do3 (b : Nat) (n : Int) (m : Nat) (e : Int) (c r : C) (w : World) (h : CU b c w) (hl : c.b.length ≤ 9223372036854775807) (hr : r.b.length ≤ 9223372036854775807) (hn : n ≤ 9223372036854775807) (hn0 : -9223372036854775808 ≤ n) :
    Calls Try.prog 23 #[.pointer (some ⟨b, 0, none⟩), cV r, St.v ⟨3, n, m, e⟩] w (DoPost b ⟨3, n, m, e⟩ c r w) := by
  have HR := Lib.hid (fun w => rraw_calls r n w hr hn)
  have HB := Lib.hid (fun W (hW : CU b c W) => raw_calls b c n W hW hl hn)
  have Hgo := Lib.hid (show St.go ⟨3, n, m, e⟩ r = (rawC r n).2 from rfl)
  have Hgc := Lib.hid (show (rawC c n).2 = St.go ⟨3, n, m, e⟩ c from rfl)
  have Hq := Lib.hid (show c = r → (rawC c n).1 = (rawC r n).1 from fun he => by rw [he])
  generalize rawC r n = x at *
  generalize rawC c n = y at *
  obtain ⟨s, d⟩ := x
  obtain ⟨sc, dc⟩ := y
  simp only at Hgo Hgc Hq
  unfold cV cC at HR
  unfold cV cC St.v St.c
  go_enter Try.func23, Try.ntmps23
  go_wp2_with fail
  refine (HR.out _).mono ?_
  rintro q w1 ⟨rfl, hb1⟩
  have HB1 := Lib.hid hb1
  clear hb1
  go_wp2_with fail
  have hb1 := HB1.out
  have hs1 : w.heap.size + 3 ≤ w1.heap.size := by have := hb1.size; simp at this; omega
  have hbl := h.lt
  have hg2 : w.heap.size ≤ w.heap.size + 1 + 1 ∧ w.heap.size + 1 + 1 ≠ b := by omega
  have Z9 := heap_new w1 (.cells #[.string (ba d.b), .int .i64 d.e] 35)
  have Z6 : (w1.alloc (.cells #[.string (ba d.b), .int .i64 d.e] 35)).heap[w.heap.size + 2]? = some (.cells zC 35 (0, 0)) := by
    refine (Below.heap_alloc _ _ _ (by omega)).trans ((hb1.block _ (by simp)).trans ?_)
    have h3 := heap_new ((w.alloc (.cells #[.string (ba r.b), .int .i64 r.e] 35)).alloc (.cells #[.int .i64 3, .int .i64 n, .int .u64 m, .int .i64 e] 50)) (.cells zC 35)
    rw [World.size_alloc, World.size_alloc] at h3
    exact h3
  have ZS : (w1.alloc (.cells #[.string (ba d.b), .int .i64 d.e] 35)).heap[w.heap.size + 1]? = some (.cells #[.int .i64 3, .int .i64 n, .int .u64 m, .int .i64 e] 50 (0, 0)) :=
    (Below.heap_alloc _ _ _ (by omega)).trans ((hb1.block _ (by simp <;> omega)).trans ((Below.heap_alloc _ _ _ (by simp)).trans (heap_new2 _ _ _)))
  have hB2 : Below w.heap.size w (w1.alloc (.cells #[.string (ba d.b), .int .i64 d.e] 35)) := (below_up ((below2 _ _ _).alloc (by simp <;> omega) _) hb1).alloc (by omega) _
  generalize hW2 : w1.alloc (.cells #[.string (ba d.b), .int .i64 d.e] 35) = W2 at *
  clear hW2
  have HC := Lib.hid (at_call (HB.out W2.drew (h.keep hB2.drew)) Z9 Z6 (by omega) (by omega))
  have e9 := two_of Z9
  have a0 := e9.c0
  have a1 := e9.c1
  have Hs1 := Lib.hid hs1
  have HB2 := Lib.hid hB2
  have s1 : W2.cell? ⟨w.heap.size + 1, 1, none⟩ = some (.int .i64 n) := by rw [cell_of_row _ _ _ _ _ _ ZS]; rfl
  have s2 : W2.cell? ⟨w.heap.size + 1, 2, none⟩ = some (.int .u64 m) := by rw [cell_of_row _ _ _ _ _ _ ZS]; rfl
  clear hb1 Z9 Z6 hB2 e9 hs1 ZS
  go_region_law (go_simp; go_at_call 24; refine HC.out.mono ?_; rintro q2 w3 ⟨rfl, hyy, ⟨b0, b1⟩, k0, k1, g0, g1⟩)
  all_goals go_wp2_with fail
  all_goals refine bodyPost_ret (res_cell_tmp 6 7 35 ⟨w.heap.size + 1 + 1, 0, none⟩ _ rfl rfl (load_C (set_two hyy.out.2.2 _ _))) rfl ?_
  all_goals refine do_end (x := ⟨3, n, m, e⟩) (c := c) (r := r) (g := w.heap.size + 1 + 1) HB2.out (by rw [← Hgc.out]; exact hyy.out.1) hyy.out.2.1 hg2 Hgo.out ?_
  all_goals intro he
  all_goals rw [Hq.out he]
  all_goals simp
set_option maxHeartbeats 4000000 in
set_option maxRecDepth 100000 in
theorem do5 (b : Nat) (n : Int) (m : Nat) (e : Int) (c r : C) (w : World) (h : CU b c w) (hl : c.b.length ≤ 9223372036854775807) (hr : r.b.length ≤ 9223372036854775807) (hn : n ≤ 9223372036854775807) (hn0 : -9223372036854775808 ≤ n) :
    Calls Try.prog 23 #[.pointer (some ⟨b, 0, none⟩), cV r, St.v ⟨5, n, m, e⟩] w (DoPost b ⟨5, n, m, e⟩ c r w) := by
  have HR := Lib.hid (fun w => rtext_calls r n w hr hn hn0)
  have HB := Lib.hid (fun W (hW : CU b c W) => text_calls b c n W hW hl hn hn0)
  have Hgo := Lib.hid (show St.go ⟨5, n, m, e⟩ r = (textC r n).2 from rfl)
  have Hgc := Lib.hid (show (textC c n).2 = St.go ⟨5, n, m, e⟩ c from rfl)
  have Hq := Lib.hid (show c = r → (textC c n).1 = (textC r n).1 from fun he => by rw [he])
  generalize textC r n = x at *
  generalize textC c n = y at *
  obtain ⟨s, d⟩ := x
  obtain ⟨sc, dc⟩ := y
  simp only at Hgo Hgc Hq
  unfold cV cC at HR
  unfold cV cC St.v St.c
  go_enter Try.func23, Try.ntmps23
  go_wp2_with fail
  refine (HR.out _).mono ?_
  rintro q w1 ⟨rfl, hb1⟩
  have HB1 := Lib.hid hb1
  clear hb1
  go_wp2_with fail
  have hb1 := HB1.out
  have hs1 : w.heap.size + 3 ≤ w1.heap.size := by have := hb1.size; simp at this; omega
  have hbl := h.lt
  have hg2 : w.heap.size ≤ w.heap.size + 1 + 1 ∧ w.heap.size + 1 + 1 ≠ b := by omega
  have Z9 := heap_new w1 (.cells #[.string (ba d.b), .int .i64 d.e] 35)
  have Z6 : (w1.alloc (.cells #[.string (ba d.b), .int .i64 d.e] 35)).heap[w.heap.size + 2]? = some (.cells zC 35 (0, 0)) := by
    refine (Below.heap_alloc _ _ _ (by omega)).trans ((hb1.block _ (by simp)).trans ?_)
    have h3 := heap_new ((w.alloc (.cells #[.string (ba r.b), .int .i64 r.e] 35)).alloc (.cells #[.int .i64 5, .int .i64 n, .int .u64 m, .int .i64 e] 50)) (.cells zC 35)
    rw [World.size_alloc, World.size_alloc] at h3
    exact h3
  have ZS : (w1.alloc (.cells #[.string (ba d.b), .int .i64 d.e] 35)).heap[w.heap.size + 1]? = some (.cells #[.int .i64 5, .int .i64 n, .int .u64 m, .int .i64 e] 50 (0, 0)) :=
    (Below.heap_alloc _ _ _ (by omega)).trans ((hb1.block _ (by simp <;> omega)).trans ((Below.heap_alloc _ _ _ (by simp)).trans (heap_new2 _ _ _)))
  have hB2 : Below w.heap.size w (w1.alloc (.cells #[.string (ba d.b), .int .i64 d.e] 35)) := (below_up ((below2 _ _ _).alloc (by simp <;> omega) _) hb1).alloc (by omega) _
  generalize hW2 : w1.alloc (.cells #[.string (ba d.b), .int .i64 d.e] 35) = W2 at *
  clear hW2
  have HC := Lib.hid (at_call (HB.out W2.drew (h.keep hB2.drew)) Z9 Z6 (by omega) (by omega))
  have e9 := two_of Z9
  have a0 := e9.c0
  have a1 := e9.c1
  have Hs1 := Lib.hid hs1
  have HB2 := Lib.hid hB2
  have s1 : W2.cell? ⟨w.heap.size + 1, 1, none⟩ = some (.int .i64 n) := by rw [cell_of_row _ _ _ _ _ _ ZS]; rfl
  have s2 : W2.cell? ⟨w.heap.size + 1, 2, none⟩ = some (.int .u64 m) := by rw [cell_of_row _ _ _ _ _ _ ZS]; rfl
  clear hb1 Z9 Z6 hB2 e9 hs1 ZS
  go_region_law (go_simp; go_at_call 31; refine HC.out.mono ?_; rintro q2 w3 ⟨rfl, hyy, ⟨b0, b1⟩, k0, k1, g0, g1⟩)
  all_goals go_wp2_with fail
  all_goals refine bodyPost_ret (res_cell_tmp 6 7 35 ⟨w.heap.size + 1 + 1, 0, none⟩ _ rfl rfl (load_C (set_two hyy.out.2.2 _ _))) rfl ?_
  all_goals refine do_end (x := ⟨5, n, m, e⟩) (c := c) (r := r) (g := w.heap.size + 1 + 1) HB2.out (by rw [← Hgc.out]; exact hyy.out.1) hyy.out.2.1 hg2 Hgo.out ?_
  all_goals intro he
  all_goals rw [Hq.out he]
  all_goals simp
end Go.Proofs.Ytgdlhcopgfgmaaa.Cur
