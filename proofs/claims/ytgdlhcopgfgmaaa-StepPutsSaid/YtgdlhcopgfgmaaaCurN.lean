/- The walks of the document's cursor (a value): Num and Text. -/
import Derived.Test.YtgdlhcopgfgmaaaCurR
import Derived.Test.YtgdlhcopgfgmaaaNumR
namespace Go.Proofs.Ytgdlhcopgfgmaaa.Cur
open Go.RowKit Go.Proofs.Ytgdlhcopgfgmaaa.Mk
theorem set_two {w1 : World} {g : Nat} {t : TypeId} {x y : Value} (h : w1.heap[g]? = some (.cells #[x, y] t (0, 0))) (a b : Value) :
    ((w1.setCell ⟨g, 0, none⟩ a).setCell ⟨g, 1, none⟩ b).heap[g]? = some (.cells #[a, b] t (0, 0)) := by
  simp [World.setCell, Array.getElem?_modify, h]
set_option maxHeartbeats 4000000 in
theorem rnum_calls (c : C) (m : Nat) (w : World) (hl : c.b.length ≤ 9223372036854775807) :
    Calls Try.prog 58 #[cV c, .int .u64 m] w fun r w' => r = .returned (.tuple #[.int .u64 (numC c m).1, cV (numC c m).2]) ∧ Below w.heap.size w w' := by
  obtain ⟨l, ce⟩ := c
  simp only at hl
  by_cases h0 : ce = 0
  · subst h0
    have HT := Lib.hid (fun w => Num.rtake_calls (ba l) w hl)
    rw [bs_ba] at HT
    have hlt := Num.takeR_lt l
    have hbad := num_bad l m
    have hbig := num_big l m
    have hok := num_ok l m
    generalize Num.takeR l = x at *
    obtain ⟨x, n, e⟩ := x
    simp only at hlt hbad hbig hok
    unfold Num.takeV at HT
    simp only at HT
    by_cases he : e = 0
    · subst he
      by_cases hm : m < x
      · rw [hbig rfl hm]
        have t1 : decide ((m : Int) < (x : Int)) = true := by simpa using hm
        have t2 : decide (m < x) = true := by simpa using hm
        have HF := Lib.hid (fun w => rfail_calls ⟨l, 0⟩ 3 w)
        rw [fail_some l 3 (by decide)] at HF
        unfold cV cC at HF ⊢
        simp only [ba_nil] at HF ⊢
        clear hbad hbig hok hlt hm
        go_enter Try.func58, Try.ntmps58
        go_wp2_with fail
        refine (HT.out _).mono ?_
        rintro r w1 ⟨rfl, hb1⟩
        have hb1' := below_up (below2 _ _ _) hb1
        have y0 : w1.heap[w.heap.size]? = _ := (hb1.block _ (by simp; omega)).trans (heap_new1 _ _ _)
        have c0 : w1.cell? ⟨w.heap.size, 0, none⟩ = some (.string (ba l)) := by rw [cell_of_row _ _ _ _ _ _ y0]; rfl
        have c1 : w1.cell? ⟨w.heap.size, 1, none⟩ = some (.int .i64 0) := by rw [cell_of_row _ _ _ _ _ _ y0]; rfl
        have Y1 := Lib.hid (show w1.heap[w.heap.size + 1]? = some (.cells zC 35 (0, 0)) from (hb1.block _ (by simp)).trans (heap_new2 _ _ _))
        have HB1 := Lib.hid hb1'
        clear hb1 hb1' y0
        go_wp2_with fail
        refine (HF.out _).mono ?_
        rintro r w2 ⟨rfl, hb2⟩
        have hlt1 : w.heap.size + 1 < w1.heap.size := (Array.getElem?_eq_some_iff.1 Y1.out).1
        have Y2 := Lib.hid ((hb2.block _ hlt1).trans Y1.out)
        have HB2 := Lib.hid (below_up HB1.out hb2)
        clear hb2 hlt1
        go_wp2_with (first | (refine wpList_store_row rfl 35 _ _ rfl (w.heap.size + 1) #[.string ⟨#[]⟩, .int .i64 3] rfl rfl _ _ Y2.out (IC' _ _) rfl (oneC _ _) ?_))
        exact bodyPost_ret (results_tmp_cell 4 5 35 ⟨w.heap.size + 1, 0, none⟩ _ rfl rfl (load_C (setRow_heap _ _ _ _ _ _ Y2.out))) rfl ⟨rfl, setRow_below HB2.out (by omega)⟩
      · rw [hok rfl hm]
        have t1 : decide ((m : Int) < (x : Int)) = false := by simpa using hm
        have t2 : decide (m < x) = false := by simpa using hm
        have hn : n ≤ l.length := hlt.2.2.1
        have t3 : n ≤ (ba l).size := hn
        unfold cV cC
        rw [← drop_extract l n (ba l).size rfl]
        clear hbad hbig hok hlt hm hn
        generalize ba l = s at *
        go_enter Try.func58, Try.ntmps58
        go_wp2_with fail
        refine (HT.out _).mono ?_
        rintro r w1 ⟨rfl, hb1⟩
        have hb1' := below_up (below2 _ _ _) hb1
        have y0 : w1.heap[w.heap.size]? = _ := (hb1.block _ (by simp; omega)).trans (heap_new1 _ _ _)
        have c0 : w1.cell? ⟨w.heap.size, 0, none⟩ = some (.string s) := by rw [cell_of_row _ _ _ _ _ _ y0]; rfl
        have c1 : w1.cell? ⟨w.heap.size, 1, none⟩ = some (.int .i64 0) := by rw [cell_of_row _ _ _ _ _ _ y0]; rfl
        have Y1 := Lib.hid (show w1.heap[w.heap.size + 1]? = some (.cells zC 35 (0, 0)) from (hb1.block _ (by simp)).trans (heap_new2 _ _ _))
        have HB1 := Lib.hid hb1'
        clear hb1 hb1' y0
        go_wp2_with fail
        have d0 : w1.cell? ⟨w.heap.size + 1, 0, none⟩ = some (.string ⟨#[]⟩) := by rw [cell_of_row _ _ _ _ _ _ Y1.out]; rfl
        have d1 : w1.cell? ⟨w.heap.size + 1, 1, none⟩ = some (.int .i64 0) := by rw [cell_of_row _ _ _ _ _ _ Y1.out]; rfl
        have f0 : w1.frozen? ⟨w.heap.size + 1, 0, none⟩ = false := by simp [World.frozen?, Y1.out]
        have f1 : w1.frozen? ⟨w.heap.size + 1, 1, none⟩ = false := by simp [World.frozen?, Y1.out]
        go_region
        all_goals go_wp2_with fail
        have g1 : ∀ a b : Value, ((w1.setCell ⟨w.heap.size + 1, 0, none⟩ a).setCell ⟨w.heap.size + 1, 1, none⟩ b).drew.heap[w.heap.size + 1]? = some (.cells #[a, b] 35 (0, 0)) := fun a b => set_two Y1.out a b
        exact bodyPost_ret (results_tmp_cell 4 5 35 ⟨w.heap.size + 1, 0, none⟩ _ rfl rfl (load_C (g1 _ _))) rfl ⟨rfl, ((HB1.out.setCell (p := ⟨w.heap.size + 1, 0, none⟩) (by simp) _).setCell (p := ⟨w.heap.size + 1, 1, none⟩) (by simp) _).drew⟩
    · rw [hbad he]
      have t1 : ((e : Int) != 0) = true := by simpa using he
      have t2 : ((e : Int) == 0) = false := by simpa using he
      have he2 : (e : Int) ≠ 0 := by omega
      have HF := Lib.hid (fun w => rfail_calls ⟨l, 0⟩ e w)
      rw [fail_some l e he2] at HF
      unfold cV cC at HF ⊢
      simp only [ba_nil] at HF ⊢
      clear hbad hbig hok he he2
      go_enter Try.func58, Try.ntmps58
      go_wp2_with fail
      refine (HT.out _).mono ?_
      rintro r w1 ⟨rfl, hb1⟩
      have hb1' := below_up (below2 _ _ _) hb1
      have y0 : w1.heap[w.heap.size]? = _ := (hb1.block _ (by simp; omega)).trans (heap_new1 _ _ _)
      have c0 : w1.cell? ⟨w.heap.size, 0, none⟩ = some (.string (ba l)) := by rw [cell_of_row _ _ _ _ _ _ y0]; rfl
      have c1 : w1.cell? ⟨w.heap.size, 1, none⟩ = some (.int .i64 0) := by rw [cell_of_row _ _ _ _ _ _ y0]; rfl
      have Y1 := Lib.hid (show w1.heap[w.heap.size + 1]? = some (.cells zC 35 (0, 0)) from (hb1.block _ (by simp)).trans (heap_new2 _ _ _))
      have HB1 := Lib.hid hb1'
      clear hb1 hb1' y0
      go_wp2_with fail
      refine (HF.out _).mono ?_
      rintro r w2 ⟨rfl, hb2⟩
      have hlt1 : w.heap.size + 1 < w1.heap.size := (Array.getElem?_eq_some_iff.1 Y1.out).1
      have Y2 := Lib.hid ((hb2.block _ hlt1).trans Y1.out)
      have HB2 := Lib.hid (below_up HB1.out hb2)
      clear hb2 hlt1
      go_wp2_with (first | (refine wpList_store_row rfl 35 _ _ rfl (w.heap.size + 1) #[.string ⟨#[]⟩, .int .i64 e] rfl rfl _ _ Y2.out (IC' _ _) rfl (oneC _ _) ?_))
      exact bodyPost_ret (results_tmp_cell 4 5 35 ⟨w.heap.size + 1, 0, none⟩ _ rfl rfl (load_C (setRow_heap _ _ _ _ _ _ Y2.out))) rfl ⟨rfl, setRow_below HB2.out (by omega)⟩
  · have t1 : (ce != 0) = true := by simpa using h0
    rw [num_err ⟨l, ce⟩ m h0]
    unfold cV cC
    go_enter Try.func58, Try.ntmps58
    go_wp2_with fail
    go_region
    all_goals go_wp2_with fail
    exact bodyPost_ret (results_tmp_cell 4 5 35 ⟨w.heap.size + 1, 0, none⟩ _ rfl rfl (load_C (heap_new2 _ _ _))) rfl ⟨rfl, (below2 _ _ _).drew⟩
set_option maxHeartbeats 4000000 in
theorem rtext_calls (c : C) (n : Int) (w : World) (hl : c.b.length ≤ 9223372036854775807) (hn : n ≤ 9223372036854775807) (hn0 : -9223372036854775808 ≤ n) :
    Calls Try.prog 60 #[cV c, .int .i64 n] w fun r w' => r = .returned (.tuple #[.string (ba (textC c n).1), cV (textC c n).2]) ∧ Below w.heap.size w w' := by
  have HN := Lib.hid (fun w => rnum_calls c (max n 0).toNat w hl)
  have hm : ((max n 0).toNat : Int) = max n 0 := Int.toNat_of_nonneg (by omega)
  rw [hm] at HN
  have hle := num_u64 c (max n 0).toNat (by omega)
  have hlen := num_len c (max n 0).toNat
  unfold textC
  clear hm
  generalize numC c (max n 0).toNat = x at *
  obtain ⟨k, d⟩ := x
  simp only at HN hle hlen ⊢
  have HR := Lib.hid (fun w => rraw_calls d k w (by omega) (by omega))
  generalize rawC d k = y at *
  unfold cV cC at *
  by_cases h0 : n < 0
  · have e : max n 0 = 0 := by omega
    rw [e] at HN
    clear e
    go_enter Try.func60, Try.ntmps60
    go_wp2_with fail
    refine (HN.out _).mono ?_
    rintro r w1 ⟨rfl, hb1⟩
    have Y1 := Lib.hid (show w1.heap[w.heap.size + 1]? = some (.cells zC 35 (0, 0)) from (hb1.block _ (by simp)).trans (heap_new2 _ _ _))
    have HB1 := Lib.hid (below_up (below2 _ _ _) hb1)
    clear hb1
    go_wp2_with fail
    refine (HR.out _).mono ?_
    rintro r w2 ⟨rfl, hb2⟩
    have hlt1 : w.heap.size + 1 < w1.heap.size := (Array.getElem?_eq_some_iff.1 Y1.out).1
    have Y2 := Lib.hid (((hb2.block _ (by simp; omega)).trans (Below.heap_alloc _ _ _ hlt1)).trans Y1.out)
    have HB2 := Lib.hid (below_up (HB1.out.alloc HB1.out.size _) hb2)
    clear hb2 hlt1
    go_wp2_with (first | (refine wpList_store_row rfl 35 _ _ rfl (w.heap.size + 1) #[.string (ba y.2.b), .int .i64 y.2.e] rfl rfl _ _ Y2.out (IC' _ _) rfl (oneC _ _) ?_))
    exact bodyPost_ret (results_tmp_cell 4 5 35 ⟨w.heap.size + 1, 0, none⟩ _ rfl rfl (load_C (setRow_heap _ _ _ _ _ _ Y2.out))) rfl ⟨rfl, setRow_below HB2.out (by omega)⟩
  · have e : max n 0 = n := by omega
    rw [e] at HN
    clear e
    go_enter Try.func60, Try.ntmps60
    go_wp2_with fail
    refine (HN.out _).mono ?_
    rintro r w1 ⟨rfl, hb1⟩
    have Y1 := Lib.hid (show w1.heap[w.heap.size + 1]? = some (.cells zC 35 (0, 0)) from (hb1.block _ (by simp)).trans (heap_new2 _ _ _))
    have HB1 := Lib.hid (below_up (below2 _ _ _) hb1)
    clear hb1
    go_wp2_with fail
    refine (HR.out _).mono ?_
    rintro r w2 ⟨rfl, hb2⟩
    have hlt1 : w.heap.size + 1 < w1.heap.size := (Array.getElem?_eq_some_iff.1 Y1.out).1
    have Y2 := Lib.hid (((hb2.block _ (by simp; omega)).trans (Below.heap_alloc _ _ _ hlt1)).trans Y1.out)
    have HB2 := Lib.hid (below_up (HB1.out.alloc HB1.out.size _) hb2)
    clear hb2 hlt1
    go_wp2_with (first | (refine wpList_store_row rfl 35 _ _ rfl (w.heap.size + 1) #[.string (ba y.2.b), .int .i64 y.2.e] rfl rfl _ _ Y2.out (IC' _ _) rfl (oneC _ _) ?_))
    exact bodyPost_ret (results_tmp_cell 4 5 35 ⟨w.heap.size + 1, 0, none⟩ _ rfl rfl (load_C (setRow_heap _ _ _ _ _ _ Y2.out))) rfl ⟨rfl, setRow_below HB2.out (by omega)⟩
end Go.Proofs.Ytgdlhcopgfgmaaa.Cur
