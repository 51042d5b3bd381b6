/- The walks of chapter 8's law CurStays, its example, and what a step keeps. -/
import Derived.Test.YtgdlhcopgfgmaaaCurE
namespace Go.Proofs.Ytgdlhcopgfgmaaa.Cur
open Go.RowKit Go.Proofs.Ytgdlhcopgfgmaaa.Mk
/-- what any taking does -/
def Good (c d : C) : Prop := (c.e ≠ 0 → d = c) ∧ (c.e = 0 → (∃ j, d.b = c.b.drop j) ∧ (d.e ≠ 0 → d.b = []))
theorem Good.trans {c d f : C} (h : Good c d) (k : Good d f) : Good c f := by
  refine ⟨fun hc => ?_, fun hc => ?_⟩
  · have e := h.1 hc
    rw [← e]
    exact k.1 (by rw [e]; exact hc)
  · obtain ⟨⟨j, hj⟩, he⟩ := h.2 hc
    by_cases hd : d.e = 0
    · obtain ⟨⟨i, hi⟩, hf⟩ := k.2 hd
      exact ⟨⟨j + i, by rw [hi, hj, List.drop_drop]⟩, hf⟩
    · rw [k.1 hd]
      exact ⟨⟨j, hj⟩, he⟩
theorem good_fail (c : C) (e : Int) : Good c (failC c e) := by
  refine ⟨fun h => fail_kept c e h, fun h => ?_⟩
  unfold failC
  split
  · exact ⟨⟨c.b.length, by simp⟩, fun _ => rfl⟩
  · exact ⟨⟨0, by simp⟩, fun h2 => absurd h h2⟩
theorem good_raw (c : C) (n : Int) : Good c (rawC c n).2 := by
  by_cases hn : n < 0
  · rw [raw_neg c n hn]; exact good_fail c 3
  · obtain ⟨m, rfl⟩ := Int.eq_ofNat_of_zero_le (Int.not_lt.1 hn)
    obtain ⟨l, e⟩ := c
    refine ⟨fun h => ?_, fun h => ?_⟩
    · show (rawC ⟨l, e⟩ m).2 = _
      rw [raw_err l e m h]
    · obtain rfl : e = 0 := h
      by_cases hl : m ≤ l.length
      · show (∃ j, (rawC ⟨l, 0⟩ m).2.b = _) ∧ ((rawC ⟨l, 0⟩ m).2.e ≠ 0 → _)
        rw [raw_ok l m hl]
        exact ⟨⟨m, rfl⟩, fun h2 => absurd rfl h2⟩
      · show (∃ j, (rawC ⟨l, 0⟩ m).2.b = _) ∧ ((rawC ⟨l, 0⟩ m).2.e ≠ 0 → _)
        rw [raw_short l m (by omega)]
        exact ⟨⟨l.length, by simp⟩, fun _ => rfl⟩
theorem good_num (c : C) (m : Nat) : Good c (numC c m).2 := by
  obtain ⟨l, e⟩ := c
  refine ⟨fun h => by rw [num_err ⟨l, e⟩ m h], fun h => ?_⟩
  obtain rfl : e = 0 := h
  by_cases h1 : (Num.takeR l).2.2 = 0
  · by_cases h2 : m < (Num.takeR l).1
    · rw [num_big l m h1 h2]
      exact ⟨⟨l.length, by simp⟩, fun _ => rfl⟩
    · rw [num_ok l m h1 h2]
      exact ⟨⟨_, rfl⟩, fun h3 => absurd rfl h3⟩
  · rw [num_bad l m h1]
    exact ⟨⟨l.length, by simp⟩, fun _ => rfl⟩
theorem good_text (c : C) (m : Int) : Good c (textC c m).2 := (good_num c _).trans (good_raw _ _)
theorem good_go (x : St) (c : C) : Good c (x.go c) := by
  unfold St.go
  split
  · exact good_raw c 1
  split
  · exact good_num c _
  split
  · exact good_raw c _
  split
  · exact good_raw c 32
  split
  · exact good_text c _
  · exact good_fail c _
/-- what is left is the end of what was read; nothing behind an error -/
def Inv (l : List UInt8) (c : C) : Prop := (∃ j, c.b = l.drop j) ∧ (c.e ≠ 0 → c.b = [])
theorem Inv.step {l : List UInt8} {c d : C} (h : Inv l c) (g : Good c d) : Inv l d := by
  obtain ⟨⟨j, hj⟩, he⟩ := h
  by_cases hc : c.e = 0
  · obtain ⟨⟨i, hi⟩, hf⟩ := g.2 hc
    exact ⟨⟨j + i, by rw [hi, hj, List.drop_drop]⟩, hf⟩
  · rw [g.1 hc]
    exact ⟨⟨j, hj⟩, he⟩
theorem Good.len {c d : C} (g : Good c d) : d.b.length ≤ c.b.length := by
  by_cases hc : c.e = 0
  · obtain ⟨⟨i, hi⟩, _⟩ := g.2 hc
    rw [hi]
    simp
  · rw [g.1 hc]
    exact Nat.le_refl _
theorem Inv.len {l : List UInt8} {c : C} (h : Inv l c) : c.b.length ≤ l.length := by
  obtain ⟨⟨j, hj⟩, _⟩ := h
  rw [hj]
  simp
theorem Inv.tail {l : List UInt8} {c : C} (h : Inv l c) : l.drop (l.length - c.b.length) = c.b := by
  obtain ⟨⟨j, hj⟩, _⟩ := h
  rw [hj]
  by_cases hjl : j ≤ l.length
  · rw [List.length_drop, show l.length - (l.length - j) = j by omega]
  · rw [List.drop_of_length_le (by omega : l.length ≤ j)]
    simp
theorem byteA : byteC ⟨[1, 2], 0⟩ = (1, ⟨[2], 0⟩) := rfl
theorem numA : numC ⟨[2], 0⟩ 1 = (0, ⟨[], 3⟩) := num_big [2] 1 (by decide) (by decide)
set_option maxHeartbeats 2000000 in
theorem awake_calls (w : World) : Calls Try.prog 25 #[] w fun e w' => e = .returned (.bool true) ∧ Below w.heap.size w w' := by
  go_enter Try.func25, Try.ntmps25
  go_wp2_with fail
  refine (read_calls _ _).mono ?_
  rintro r w1 ⟨rfl, hu1, hb1⟩
  have HB := Lib.hid (byte_calls w.heap.size ⟨[1, 2], 0⟩ w1 hu1 (by decide))
  rw [byteA] at HB
  have HB1 := Lib.hid hb1
  clear hu1 hb1
  go_wp2_with fail
  refine HB.out.mono ?_
  rintro r w2 ⟨rfl, hu2, hw2⟩
  have HN := Lib.hid (num_calls w.heap.size ⟨[2], 0⟩ 1 w2 hu2 (by decide))
  rw [numA] at HN
  have HB2 := Lib.hid (HB1.out.trans (hw2.below HB1.out.size (Nat.le_refl _)))
  clear hu2 hw2 HB
  go_wp2_with fail
  refine HN.out.mono ?_
  rintro r w3 ⟨rfl, hu3, hw3⟩
  have HE := Lib.hid (err_calls w.heap.size ⟨[], 3⟩ w3 hu3)
  have HL := Lib.hid (left_calls w.heap.size ⟨[], 3⟩ w3 hu3)
  have HB3 := Lib.hid (HB2.out.trans (hw3.below HB2.out.size (Nat.le_refl _)))
  clear hu3 hw3 HN
  go_wp2_with fail
  refine HE.out.mono ?_
  rintro r w4 ⟨rfl, rfl⟩
  go_wp2_with fail
  refine HL.out.mono ?_
  rintro r w5 ⟨rfl, rfl⟩
  go_wp2_with fail
  go_ret
  exact ⟨rfl, HB3.out⟩
theorem rowSt : (Try.prog.underlying 50).map (·.isRow) = some true := by kernel_rfl
theorem sizeSt : (Try.prog.info? 50).map (·.size) = some 4 := by kernel_rfl
/-- a step that can be -/
def St.Ok (x : St) : Prop := x.n ≤ 9223372036854775807 ∧ -9223372036854775808 ≤ x.n
theorem ret_true {b : Bool} (h : b = true) : Ending.returned (.bool b) = .returned (.bool true) := by rw [h]
end Go.Proofs.Ytgdlhcopgfgmaaa.Cur
