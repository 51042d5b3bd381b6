/- The walk of chapter 8's law: a step that takes a sum, and one that fails. -/
import Derived.Deep.RegionHeld3
import Derived.Deep.DrawnRows
import Derived.Test.YtgdlhcopgfgmaaaCurD
namespace Go.Proofs.Ytgdlhcopgfgmaaa.Cur
open Go.RowKit Go.Proofs.Ytgdlhcopgfgmaaa.Mk
theorem range_other {w : World} {b o : Nat} {cs : List Value} {p : Addr} {u : Value} (h : w.rangeAt b o cs) (hne : b ≠ p.block) : (w.setCell p u).rangeAt b o cs := fun j v hv => by
  have h1 := h j v hv
  have h2 : (w.setCell p u).heap[b]? = w.heap[b]? := Below.heap_setCell _ _ _ _ hne
  simpa [World.cell?, h2] using h1
theorem cell_other {w : World} {b o : Nat} {p : Addr} {u : Value} (hne : b ≠ p.block) : (w.setCell p u).cell? ⟨b, o, none⟩ = w.cell? ⟨b, o, none⟩ := by
  have h2 : (w.setCell p u).heap[b]? = w.heap[b]? := Below.heap_setCell _ _ _ _ hne
  simp [World.cell?, h2]
theorem keep_two {w : World} {g p q : Nat} {x y : Option Value} {u v : Value} {cs : List Value} (hp : p ≠ g) (hq : q ≠ g) (h : (w.cell? ⟨p, 0, none⟩ = x ∧ w.cell? ⟨p, 1, none⟩ = y) ∧ w.rangeAt q 0 cs) :
    (((w.setCell ⟨g, 0, none⟩ u).setCell ⟨g, 1, none⟩ v).cell? ⟨p, 0, none⟩ = x ∧ ((w.setCell ⟨g, 0, none⟩ u).setCell ⟨g, 1, none⟩ v).cell? ⟨p, 1, none⟩ = y) ∧ ((w.setCell ⟨g, 0, none⟩ u).setCell ⟨g, 1, none⟩ v).rangeAt q 0 cs := by
  refine ⟨⟨?_, ?_⟩, range_other (range_other h.2 hq) hq⟩
  · rw [cell_other hp, cell_other hp]; exact h.1.1
  · rw [cell_other hp, cell_other hp]; exact h.1.2
set_option maxHeartbeats 4000000 in
set_option maxRecDepth 100000 in
theorem do4 (b : Nat) (n : Int) (m : Nat) (e : Int) (c r : C) (w : World) (h : CU b c w) (hl : c.b.length ≤ 9223372036854775807) (hr : r.b.length ≤ 9223372036854775807) :
    Calls Try.prog 23 #[.pointer (some ⟨b, 0, none⟩), cV r, St.v ⟨4, n, m, e⟩] w (DoPost b ⟨4, n, m, e⟩ c r w) := by
  have HR := Lib.hid (fun w => rhash_calls r w hr)
  have HB := Lib.hid (fun W (hW : CU b c W) => hash_calls b c W hW hl)
  have Hgo := Lib.hid (show St.go ⟨4, n, m, e⟩ r = (hashC r).2 from rfl)
  have Hgc := Lib.hid (show (hashC c).2 = St.go ⟨4, n, m, e⟩ c from rfl)
  have Hq := Lib.hid (show c = r → (hashC c).1 = (hashC r).1 from fun he => by rw [he])
  have hs1 := hash_len r
  have hs2 := hash_len c
  generalize hashC r = x at *
  generalize hashC c = y at *
  obtain ⟨s, d⟩ := x
  obtain ⟨sc, dc⟩ := y
  simp only at Hgo Hgc Hq hs1 hs2
  have i3 := IHa hs1
  unfold cV cC at HR
  unfold cV cC St.v St.c
  go_enter Try.func23, Try.ntmps23
  go_wp2_with fail
  refine (HR.out _).mono ?_
  rintro q w1 ⟨rfl, hb1⟩
  have HB1 := Lib.hid hb1
  clear hb1
  have Hs1 := Lib.hid hs1
  have Hs2 := Lib.hid hs2
  clear hs1 hs2
  go_wp2_with (first | (refine wpList_store_row rfl 24 _ _ rfl w1.heap.size (hc s).toArray rfl rfl _ _ (heap_new1 _ _ _) i3 (by simp [hc_len, Hs1.out]) (hc_one _) ?_) | (refine wpList_store_row rfl 35 _ _ rfl (w1.heap.size + 1) #[.string (ba d.b), .int .i64 d.e] rfl rfl _ _ ((setRow_other _ _ _ _ (by omega)).trans (heap_new2 _ _ _)) (IC' _ _) rfl (oneC _ _) ?_))
  have hb1 := HB1.out
  have hs1 : w.heap.size + 3 ≤ w1.heap.size := by have := hb1.size; simp at this; omega
  have hbl := h.lt
  have hg2 : w.heap.size ≤ w.heap.size + 1 + 1 ∧ w.heap.size + 1 + 1 ≠ b := by omega
  generalize hW2 : World.setRow (World.setRow (World.alloc (World.alloc w1 _) _) _ _) _ _ = W2
  have Z9 : W2.heap[w1.heap.size + 1]? = some (.cells #[.string (ba d.b), .int .i64 d.e] 35 (0, 0)) := by
    rw [← hW2]
    exact setRow_heap _ _ _ _ _ _ ((setRow_other _ _ _ _ (by omega)).trans (heap_new2 _ _ _))
  have ZH : W2.heap[w1.heap.size]? = some (.cells (hc s).toArray 24 (0, 0)) := by
    rw [← hW2]
    exact (setRow_other _ _ _ _ (by omega)).trans (setRow_heap _ _ _ _ _ _ (heap_new1 _ _ _))
  have Z6 : W2.heap[w.heap.size + 2]? = some (.cells zC 35 (0, 0)) := by
    rw [← hW2]
    refine (setRow_other _ _ _ _ (by omega)).trans ((setRow_other _ _ _ _ (by omega)).trans ((Below.heap_alloc _ _ _ (by simp <;> omega)).trans ((Below.heap_alloc _ _ _ (by omega)).trans ((hb1.block _ (by simp)).trans ?_))))
    have h3 := heap_new ((w.alloc (.cells #[.string (ba r.b), .int .i64 r.e] 35)).alloc (.cells #[.int .i64 4, .int .i64 n, .int .u64 m, .int .i64 e] 50)) (.cells zC 35)
    rw [World.size_alloc, World.size_alloc] at h3
    exact h3
  have hB2 : Below w.heap.size w W2 := by
    rw [← hW2]
    exact setRow_below (setRow_below (((below_up ((below2 _ _ _).alloc (by simp <;> omega) _) hb1).alloc (by omega) _).alloc (by simp <;> omega) _) (by omega)) (by omega)
  clear hW2
  have HC := Lib.hid (at_call (HB.out W2.drew (h.keep hB2.drew)) Z9 Z6 (by omega) (by omega))
  have e9 := two_of Z9
  have a0 := e9.c0
  have a1 := e9.c1
  have aH : W2.drew.rangeAt w1.heap.size 0 (hc s) := range_row ZH
  have HK := Lib.hid (show ∀ w3, CW b W2.drew w3 → w3.rangeAt w1.heap.size 0 (hc s) from fun w3 hw => range_row ((hw.block _ (Array.getElem?_eq_some_iff.1 ZH).1 (by omega)).trans ZH))
  have HB2 := Lib.hid hB2
  have hu := UH
  have hi := IHl Hs1.out
  have hle := (hc_len s).trans Hs1.out
  have ho := hc_one' s
  have hEq : ∀ wx, (binOp .eql 24 (hv sc) (.agg (hc s).toArray)).run Try.prog wx = .ok (.bool (sc == s)) wx := eqH Hs2.out Hs1.out
  have hEg : ∀ wx x y, (eqGuard .eql 24 x y (hv sc) (.agg (hc s).toArray)).run Try.prog wx = .ok () wx := fun wx x y => run_eqGuard_agg _ _ _ _ _ _ _ (by kernel_rfl)
  have n1 : ¬ w.heap.size + 1 + 1 = w1.heap.size + 1 := by omega
  have n2 : ¬ w1.heap.size + 1 = w.heap.size + 1 + 1 := by omega
  have n3 : ¬ w1.heap.size = w.heap.size + 1 + 1 := by omega
  clear hb1 Z9 Z6 ZH hB2 e9 hs1
  go_region_held3 (fun w' => (w'.cell? ⟨w1.heap.size + 1, 0, none⟩ = some (.string (ba d.b)) ∧ w'.cell? ⟨w1.heap.size + 1, 1, none⟩ = some (.int .i64 d.e)) ∧ w'.rangeAt w1.heap.size 0 (hc s))
    (first | exact ⟨⟨by assumption, by assumption⟩, by assumption⟩ | exact keep_two (by omega) (by omega) ⟨⟨by assumption, by assumption⟩, by assumption⟩ | go_keep)
    ((go_at_call 27; refine HC.out.mono ?_; rintro q2 w3 ⟨rfl, hyy, ⟨b0, b1⟩, k0, k1, g0, g1⟩; have aH3 := HK.out _ hyy.out.2.1))
  all_goals go_wp2_with fail
  all_goals refine bodyPost_ret (res_cell_tmp 6 7 35 ⟨w.heap.size + 1 + 1, 0, none⟩ _ rfl rfl (load_C (set_two hyy.out.2.2 _ _))) rfl ?_
  all_goals refine do_end (x := ⟨4, n, m, e⟩) (c := c) (r := r) (g := w.heap.size + 1 + 1) HB2.out (by rw [← Hgc.out]; exact hyy.out.1) hyy.out.2.1 hg2 Hgo.out ?_
  all_goals intro he
  all_goals simp [Hq.out he]
theorem go6 {k : Int} (n : Int) (m : Nat) (e : Int) (c : C) (h1 : k ≠ 1) (h2 : k ≠ 2) (h3 : k ≠ 3) (h4 : k ≠ 4) (h5 : k ≠ 5) : St.go ⟨k, n, m, e⟩ c = failC c e := by
  unfold St.go
  rw [if_neg h1, if_neg h2, if_neg h3, if_neg h4, if_neg h5]
set_option maxHeartbeats 4000000 in
set_option maxRecDepth 100000 in
theorem do6 (b : Nat) (k : Int) (n : Int) (m : Nat) (e : Int) (c r : C) (w : World) (h : CU b c w) (h1 : k ≠ 1) (h2 : k ≠ 2) (h3 : k ≠ 3) (h4 : k ≠ 4) (h5 : k ≠ 5) :
    Calls Try.prog 23 #[.pointer (some ⟨b, 0, none⟩), cV r, St.v ⟨k, n, m, e⟩] w (DoPost b ⟨k, n, m, e⟩ c r w) := by
  have HR := Lib.hid (fun w => rfail_calls r e w)
  have HB := Lib.hid (fun W (hW : CU b c W) => fail_calls b c e W hW)
  have Hgo := Lib.hid (go6 n m e r h1 h2 h3 h4 h5)
  have Hgc := Lib.hid (go6 n m e c h1 h2 h3 h4 h5)
  have t1 : (k == 1) = false := by simpa using h1
  have t2 : (k == 2) = false := by simpa using h2
  have t3 : (k == 3) = false := by simpa using h3
  have t4 : (k == 4) = false := by simpa using h4
  have t5 : (k == 5) = false := by simpa using h5
  clear h1 h2 h3 h4 h5
  generalize failC r e = d at *
  generalize failC c e = dc at *
  have hbl := h.lt
  unfold cV cC at HR
  unfold cV cC St.v St.c
  go_enter Try.func23, Try.ntmps23
  go_wp2_with fail
  generalize hW0 : World.alloc (World.alloc (World.alloc w _) _) _ = W0
  have hB0 : Below w.heap.size w W0 := by rw [← hW0]; exact (below2 _ _ _).alloc (by simp <;> omega) _
  have hz0 : W0.heap.size = w.heap.size + 3 := by rw [← hW0]; simp
  have Z4 : W0.heap[w.heap.size]? = some (.cells #[.string (ba r.b), .int .i64 r.e] 35 (0, 0)) := by
    rw [← hW0]
    exact (Below.heap_alloc _ _ _ (by simp <;> omega)).trans (heap_new1 _ _ _)
  have Z5 : W0.heap[w.heap.size + 1]? = some (.cells #[.int .i64 k, .int .i64 n, .int .u64 m, .int .i64 e] 50 (0, 0)) := by
    rw [← hW0]
    exact (Below.heap_alloc _ _ _ (by simp)).trans (heap_new2 _ _ _)
  have Z6 : W0.heap[w.heap.size + 2]? = some (.cells zC 35 (0, 0)) := by
    rw [← hW0]
    have h3 := heap_new ((w.alloc (.cells #[.string (ba r.b), .int .i64 r.e] 35)).alloc (.cells #[.int .i64 k, .int .i64 n, .int .u64 m, .int .i64 e] 50)) (.cells zC 35)
    rw [World.size_alloc, World.size_alloc] at h3
    exact h3
  clear hW0
  refine (HB.out _ (h.keep hB0)).mono ?_
  rintro q w1 ⟨rfl, hu1, hw1⟩
  have Y4 := (hw1.block _ (by omega) (by omega)).trans Z4
  have Y5 := (hw1.block _ (by omega) (by omega)).trans Z5
  have Y6 := (hw1.block _ (by omega) (by omega)).trans Z6
  have a0 : w1.cell? ⟨w.heap.size, 0, none⟩ = some (.string (ba r.b)) := by rw [cell_of_row _ _ _ _ _ _ Y4]; rfl
  have a1 : w1.cell? ⟨w.heap.size, 1, none⟩ = some (.int .i64 r.e) := by rw [cell_of_row _ _ _ _ _ _ Y4]; rfl
  have a3 : w1.cell? ⟨w.heap.size + 1, 3, none⟩ = some (.int .i64 e) := by rw [cell_of_row _ _ _ _ _ _ Y5]; rfl
  have hz1 := hw1.size
  have HA := Lib.hid (And.intro hu1 (And.intro hw1 (And.intro hB0 (And.intro Y6 (And.intro hz0 hz1)))))
  clear hu1 hw1 hB0 Z4 Z5 Z6 Y4 Y5 Y6 hz0 hz1
  go_wp2_with fail
  refine (HR.out _).mono ?_
  rintro q w2 ⟨rfl, hb2⟩
  obtain ⟨hu1, hw1, hB0, Y6, hz0, hz1⟩ := HA.out
  have Y62 := Lib.hid ((hb2.block _ (by omega)).trans Y6)
  have hu2 := Lib.hid (hu1.keep hb2)
  have HW := Lib.hid (hw1.trans (But.of_below (S := fun _ => False) hb2) (fun _ _ f => f.elim))
  have HB0 := Lib.hid hB0
  clear HA hu1 hw1 hB0 Y6 hz0 hz1 hb2 a0 a1 a3
  go_wp2_with (first | (refine wpList_store_row rfl 35 _ _ rfl (w.heap.size + 2) #[.string (ba d.b), .int .i64 d.e] rfl rfl _ _ Y62.out (IC' _ _) rfl (oneC _ _) ?_))
  refine bodyPost_ret (res_cell_tmp 6 7 35 ⟨w.heap.size + 1 + 1, 0, none⟩ _ rfl rfl (load_C (setRow_heap _ _ _ _ _ _ Y62.out))) rfl ?_
  have hk : ∀ k, k ≠ w.heap.size + 2 → (w2.setRow (w.heap.size + 2) #[.string (ba d.b), .int .i64 d.e]).heap[k]? = w2.heap[k]? := fun k hk => setRow_other _ _ _ _ hk
  have hB := HB0.out
  have hW := HW.out
  refine ⟨⟨true, by rw [Hgo.out]; rfl, fun _ => rfl⟩, by rw [Hgc.out]; exact (hk b (by omega)).trans hu2.out, hW.os.trans hB.os, hW.tape.trans hB.tape, hW.output.trans hB.output, ?_, fun i hi hib => ?_⟩
  · have := hW.size
    have := hB.size
    simp [World.setRow]
    omega
  · exact (hk i (by omega)).trans ((hW.block i (Nat.lt_of_lt_of_le hi hB.size) hib).trans (hB.block i hi))
theorem do_calls (b : Nat) (x : St) (c r : C) (w : World) (h : CU b c w) (hl : c.b.length ≤ 9223372036854775807) (hr : r.b.length ≤ 9223372036854775807) (hn : x.n ≤ 9223372036854775807) (hn0 : -9223372036854775808 ≤ x.n) :
    Calls Try.prog 23 #[.pointer (some ⟨b, 0, none⟩), cV r, x.v] w (DoPost b x c r w) := by
  obtain ⟨k, n, m, e⟩ := x
  by_cases h1 : k = 1
  · subst h1; exact do1 b n m e c r w h hl hr
  by_cases h2 : k = 2
  · subst h2; exact do2 b n m e c r w h hl hr hn hn0
  by_cases h3 : k = 3
  · subst h3; exact do3 b n m e c r w h hl hr hn hn0
  by_cases h4 : k = 4
  · subst h4; exact do4 b n m e c r w h hl hr
  by_cases h5 : k = 5
  · subst h5; exact do5 b n m e c r w h hl hr hn hn0
  exact do6 b k n m e c r w h h1 h2 h3 h4 h5
end Go.Proofs.Ytgdlhcopgfgmaaa.Cur
