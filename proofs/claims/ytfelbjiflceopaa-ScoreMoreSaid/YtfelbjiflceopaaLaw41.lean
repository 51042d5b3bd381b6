/- The walks of chapter 41's laws ScoreValues and ScoreBest. -/
import Derived.Test.YtfelbjiflceopaaAw41
namespace Go.Proofs.Ytfelbjiflceopaa.Sc
open Go.RowKit Go.Proofs.Ytfelbjiflceopaa.Mk Go.Proofs.Ytfelbjiflceopaa.Ul Go.Proofs.Ytfelbjiflceopaa.Wi Go.Proofs.Ytfelbjiflceopaa.Lg Go.Proofs.Ytfelbjiflceopaa.Up Go.Proofs.Ytfelbjiflceopaa.R5
set_option maxHeartbeats 4000000 in
set_option maxRecDepth 100000 in
theorem scoreValues_calls (v : Value) (zs : List Int) (level m : Int) (w : World) (hz : ZS w v zs) :
    Calls Try.prog 3 #[v, .int .i64 level, .int .i64 m] w fun e w' => e = .returned (.bool true) ∧ Below w.heap.size w w' := by
  have hbd := hz.len1
  have A0 := Lib.hid (fun w => awake41_calls w)
  have A1 := value_calls v zs level w hz
  have A2 := Lib.hid (fun wx (hx : Below w.heap.size w wx) => may_calls v zs level m wx (hz.below hx))
  have A3 := Lib.hid (fun wx (hx : Below w.heap.size w wx) => rmay_calls v zs level m wx (hz.below hx))
  have A4 := Lib.hid (fun g wx h => limbs_calls (valS zs level) g 0 5 5 wx (valS_lt level hbd) (by decide) (by decide) h)
  have A5 := Lib.hid (fun wx (hx : Below w.heap.size w wx) => rvalue_calls v zs level wx (hz.below hx))
  have A6 := (fun v1 v2 wx h1 h2 => r5cmp_calls (valS zs level) (valS zs level) v1 v2 wx h1 h2)
  rw [cmpI_eq rfl] at A6
  unfold UV at A1
  have A1 := Lib.hid A1
  have A6 := Lib.hid A6
  obtain ⟨A, cap, rfl, _⟩ := hz.cell1
  clear hz
  generalize valS zs level = V at *
  by_cases hl : 100 < zs.length
  · have t0 : decide ((100 : Int) < (zs.length : Int)) = true := decide_eq_true (by omega)
    clear hl
    go_enter Try.func3, Try.ntmps3
    go_wp2_with fail
    refine (A0.out _).mono ?_
    rintro e w1 ⟨rfl, hb1⟩
    have S := Lib.hid hb1
    clear hb1
    go_wp2_with fail
    go_ret
    exact ⟨rfl, S.out⟩
  · have t0 : decide ((100 : Int) < (zs.length : Int)) = false := decide_eq_false (by omega)
    clear hl
    have hmm : (mayS zs level m == mayS zs level m) = true := by simp
    generalize mayS zs level m = q at *
    go_enter Try.func3, Try.ntmps3
    go_wp2_with fail
    refine A1.out.mono ?_
    rintro e w1 ⟨rfl, hb1⟩
    have S := Lib.hid (((SQ.nil w).keep hb1).alloc (oL (lb V)))
    clear hb1
    go_wp2_with (first | (refine wpList_store_last rfl 26 _ _ rfl _ (FC 5 (lb V)).toArray rfl rfl (IN5 _) (by rw [FC_size]; rfl) (FC_one _ _) ?_))
    refine (A2.out _ S.out.2).mono ?_
    rintro e w2 ⟨rfl, hb2⟩
    have S := Lib.hid (S.out.keep hb2)
    clear hb2
    go_wp2_with fail
    refine (A3.out _ S.out.2).mono ?_
    rintro e w3 ⟨rfl, hb3⟩
    have S := Lib.hid (S.out.keep hb3)
    clear hb3
    go_wp2_with fail
    refine (A4.out _ _ (LB.of _ S.out.a0)).mono ?_
    rintro e w4 ⟨v4, rfl, d4, hb4⟩
    have D4 := Lib.hid d4
    have S := Lib.hid (S.out.keep hb4)
    clear hb4 d4
    go_wp2_with fail
    refine (A5.out _ S.out.2).mono ?_
    rintro e w5 ⟨v5, rfl, d5, hb5⟩
    have D5 := Lib.hid d5
    have D4 := Lib.hid (D4.out.below hb5)
    have S := Lib.hid (S.out.keep hb5)
    clear hb5 d5
    go_wp2_with fail
    refine (A6.out _ _ _ D4.out D5.out).mono ?_
    rintro e w6 ⟨rfl, hb6⟩
    have S := Lib.hid (S.out.keep hb6)
    clear hb6
    go_wp2_with fail
    refine (A0.out _).mono ?_
    rintro e w7 ⟨rfl, hb7⟩
    have S := Lib.hid (S.out.keep hb7)
    clear hb7
    go_wp2_with fail
    go_ret
    exact ⟨rfl, S.out.2⟩
theorem LBsc {w : World} {g V L : Nat} (h : w.heap[g]? = some (oSc V L)) : LB w g 0 5 V := fun i hi => by
  have := sc_range h i (.int .u64 (lb V i : Nat)) (FC_get _ hi)
  exact this
theorem cell_l {w : World} {g V L : Nat} (h : w.heap[g]? = some (oSc V L)) : w.cell? ⟨g, 5, none⟩ = some (.int .i64 (L : Int)) := by
  rw [cell_of_row _ _ _ _ _ _ h]
  exact get_l V L
set_option maxHeartbeats 4000000 in
set_option maxRecDepth 100000 in
theorem scoreBest_calls (v : Value) (zs : List Int) (m : Int) (w : World) (hz : ZS w v zs) :
    Calls Try.prog 4 #[v, .int .i64 m] w fun e w' => e = .returned (.bool true) ∧ Below w.heap.size w w' := by
  have hbd := hz.len1
  have A0 := Lib.hid (fun w => awake41_calls w)
  have A1 := Lib.hid (best_calls v zs m w hz)
  have A2 := Lib.hid (fun wx (hx : Below w.heap.size w wx) => rbest_calls v zs m wx (hz.below hx))
  have A4 := Lib.hid (fun g wx h => limbs_calls (bst zs m 256).1 g 0 5 5 wx (bst_lt m hbd 256) (by decide) (by decide) h)
  have A6 := (fun v1 v2 wx h1 h2 => r5cmp_calls (bst zs m 256).1 (bst zs m 256).1 v1 v2 wx h1 h2)
  rw [cmpI_eq rfl] at A6
  have A6 := Lib.hid A6
  obtain ⟨A, cap, rfl, _⟩ := hz.cell1
  clear hz
  generalize bst zs m 256 = bb at *
  obtain ⟨V, L⟩ := bb
  simp only at A1 A2 A4 A6
  by_cases hl : 60 < zs.length
  · have t0 : decide ((60 : Int) < (zs.length : Int)) = true := decide_eq_true (by omega)
    clear hl
    go_enter Try.func4, Try.ntmps4
    go_wp2_with fail
    refine (A0.out _).mono ?_
    rintro e w1 ⟨rfl, hb1⟩
    have S := Lib.hid hb1
    clear hb1
    go_wp2_with fail
    go_ret
    exact ⟨rfl, S.out⟩
  · have t0 : decide ((60 : Int) < (zs.length : Int)) = false := decide_eq_false (by omega)
    clear hl
    go_enter Try.func4, Try.ntmps4
    go_wp2_with fail
    refine A1.out.mono ?_
    rintro e w1 ⟨rfl, hb1⟩
    have S := Lib.hid (((SQ.nil w).keep hb1).alloc (oSc V L))
    clear hb1
    go_wp2_with (first | (refine wpList_store_last rfl 35 _ _ rfl _ (scC V L).toArray rfl rfl (ISc _ _) (scsz _ _).symm (one_sc _ _) ?_))
    refine (A2.out _ S.out.2).mono ?_
    rintro e w2 ⟨v2, rfl, d2, hb2⟩
    have D2 := Lib.hid d2
    have S := Lib.hid (S.out.keep hb2)
    clear hb2 d2
    go_wp2_with fail
    refine (A4.out _ _ (LBsc S.out.a0)).mono ?_
    rintro e w4 ⟨v4, rfl, d4, hb4⟩
    have D4 := Lib.hid d4
    have D2 := Lib.hid (D2.out.below hb4)
    have S := Lib.hid (S.out.keep hb4)
    clear hb4 d4
    go_wp2_with fail
    refine (A6.out _ _ _ D4.out D2.out).mono ?_
    rintro e w6 ⟨rfl, hb6⟩
    have S := Lib.hid (S.out.keep hb6)
    have c5 := cell_l S.out.a0
    clear hb6
    go_wp2_with fail
    refine (A0.out _).mono ?_
    rintro e w7 ⟨rfl, hb7⟩
    have S := Lib.hid (S.out.keep hb7)
    clear hb7
    go_wp2_with fail
    go_ret
    exact ⟨rfl, S.out.2⟩
end Go.Proofs.Ytfelbjiflceopaa.Sc
