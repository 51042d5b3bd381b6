/- Plain laws: what is taken of what was put, and back. No condition. -/
import Derived.Test.YtcaocnlchfbeaaaBh
import Derived.Test.YtcaocnlchfbeaaaBi
import Derived.Test.YtcaocnlchfbeaaaBg
namespace Go.Proofs.Ytcaocnlchfbeaaa.Tk
open Go.RowKit Go.Proofs.Ytcaocnlchfbeaaa.Op Go.Proofs.Ytcaocnlchfbeaaa.Hd Go.Proofs.Ytcaocnlchfbeaaa.St Go.Proofs.Ytcaocnlchfbeaaa.Cur Go.Proofs.Ytcaocnlchfbeaaa.Stp
open Go.Proofs.Ytcaocnlchfbeaaa.Shape (depthI)
theorem num_put (x m : Nat) (t : List UInt8) (hx : x ≤ m) (hm : m < 18446744073709551616) : numC ⟨Num.putL x ++ t, 0⟩ m = (x, ⟨t, 0⟩) := by
  have h := Num.takeR_put x (by omega) t
  rw [num_ok _ _ (by rw [h]) (by rw [h]; simpa using hx), h]
  simp only [List.drop_left]
theorem num_back {l : List UInt8} {m n : Nat} {c : C} (h : numC ⟨l, 0⟩ m = (n, c)) (hc : c.e = 0) : n ≤ m ∧ l = Num.putL n ++ c.b := by
  by_cases h1 : (Num.takeR l).2.2 = 0
  · by_cases h2 : m < (Num.takeR l).1
    · rw [num_big l m h1 h2] at h
      simp only [Prod.mk.injEq] at h
      rw [← h.2] at hc
      simp at hc
    · rw [num_ok l m h1 h2] at h
      simp only [Prod.mk.injEq] at h
      have hp := Num.putR_take l (Num.takeR l).1 (Num.takeR l).2.1 (by rw [← h1])
      refine ⟨by omega, ?_⟩
      rw [← h.1, ← h.2, hp.2, List.take_append_drop]
  · rw [num_bad l m h1] at h
    simp only [Prod.mk.injEq] at h
    rw [← h.2] at hc
    simp at hc
    omega
theorem hash_put (x t : List UInt8) (hx : x.length = 32) : hashC ⟨x ++ t, 0⟩ = (x, ⟨t, 0⟩) := by
  have h := raw_ok (x ++ t) 32 (by rw [List.length_append]; omega)
  rw [List.take_left' hx, List.drop_left' hx] at h
  unfold hashC
  rw [show ((32 : Nat) : Int) = 32 from rfl] at h
  rw [h]
  simp [hx]
theorem hash_back {l : List UInt8} (h : (hashC ⟨l, 0⟩).2.e = 0) : l = (hashC ⟨l, 0⟩).1 ++ (hashC ⟨l, 0⟩).2.b := by
  by_cases h1 : 32 ≤ l.length
  · have hp := hash_put (l.take 32) (l.drop 32) (by simp; omega)
    rw [List.take_append_drop] at hp
    rw [hp, List.take_append_drop]
  · have hs := raw_short l 32 (by omega)
    rw [show ((32 : Nat) : Int) = 32 from rfl] at hs
    unfold hashC at h
    rw [hs] at h
    simp at h
theorem loop_put : ∀ (p : HL) (t : List UInt8) (pre : HL), (∀ x ∈ p, x.length = 32) → loopC p.length ⟨p.flatten ++ t, 0⟩ pre = (pre ++ p, ⟨t, 0⟩)
  | [], t, pre, _ => by simp [loopC]
  | x :: p, t, pre, h => by
    rw [List.length_cons, loop_go rfl, List.flatten_cons, List.append_assoc, hash_put x _ (h x (by simp)), loop_put p t (pre ++ [x]) (fun y hy => h y (by simp [hy])), List.append_assoc]
    rfl
theorem loop_back : ∀ (k : Nat) (l : List UInt8) (pre q : HL) (c : C), loopC k ⟨l, 0⟩ pre = (q, c) → c.e = 0 → ∃ r : HL, q = pre ++ r ∧ r.length = k ∧ (∀ x ∈ r, x.length = 32) ∧ l = r.flatten ++ c.b
  | 0, l, pre, q, c, h, hc => by
    rw [loop_stop (.inl rfl)] at h
    simp only [Prod.mk.injEq] at h
    exact ⟨[], by simp [h.1], rfl, by simp, by simp [← h.2]⟩
  | k + 1, l, pre, q, c, h, hc => by
    rw [loop_go rfl] at h
    have h32 := hash_32 ⟨l, 0⟩
    have hb := @hash_back l
    generalize hashC ⟨l, 0⟩ = x at *
    obtain ⟨y, d⟩ := x
    simp only at h h32 hb
    by_cases hd : d.e = 0
    · have hl := hb hd
      obtain ⟨db, de⟩ := d
      simp only at hd hl
      subst hd
      obtain ⟨r, h1, h2, h3, h4⟩ := loop_back k db (pre ++ [y]) q c h hc
      refine ⟨y :: r, by rw [h1, List.append_assoc]; rfl, by simp [h2], ?_, ?_⟩
      · intro z hz
        rcases List.mem_cons.1 hz with rfl | hz
        · exact h32
        · exact h3 z hz
      · rw [hl, h4, List.flatten_cons, List.append_assoc]
    · rw [loop_stop (.inr hd)] at h
      simp only [Prod.mk.injEq] at h
      rw [← h.2] at hc
      exact absurd hc hd
theorem loop_err {k : Nat} {c : C} {p : HL} (h : c.e ≠ 0) : (loopC k c p).2.e ≠ 0 := by rw [loop_stop (.inr h)]; exact h
theorem open_put {o : Opn} {l : List UInt8} (t : List UInt8) (h : openB o = (l, 0)) (ok : OOk o) : openC ⟨l ++ t, 0⟩ = (o, ⟨t, 0⟩) := by
  unfold openB at h
  by_cases hn : noneO o = true
  · rw [if_pos hn] at h
    simp only [Prod.mk.injEq, and_true] at h
    obtain ⟨h1, h2, h3⟩ := (noneO_iff o).1 hn
    rw [openC_eq, ← h, num_put 0 1048576 t (by decide) (by decide), if_pos rfl]
    obtain ⟨i, c, p⟩ := o
    simp only at h1 h2 h3
    subst h1 h2 h3
    rfl
  · rw [if_neg hn] at h
    by_cases hm : mayI o = 0
    · rw [if_neg (by simpa using hm)] at h
      simp only [Prod.mk.injEq, and_true] at h
      obtain ⟨m1, m2, m3, m4, m5⟩ := may0 hm
      obtain ⟨i, c, p⟩ := o
      simp only at m1 m2 m3 m4 m5 h
      obtain ⟨I, rfl⟩ := Int.eq_ofNat_of_zero_le m3
      obtain ⟨N, rfl⟩ := Int.eq_ofNat_of_zero_le (show 0 ≤ c by omega)
      rw [Int.toNat_natCast, Int.toNat_natCast] at h
      have e1 : numC ⟨l ++ t, 0⟩ 1048576 = (N, ⟨Num.putL I ++ (p.flatten ++ t), 0⟩) := by
        rw [← h, List.append_assoc, List.append_assoc]
        exact num_put N 1048576 _ (by omega) (by decide)
      have e2 : numC ⟨Num.putL I ++ (p.flatten ++ t), 0⟩ (N - 1) = (I, ⟨p.flatten ++ t, 0⟩) := num_put I (N - 1) _ (by omega) (by omega)
      have e3 : loopC (depthI N I).toNat ⟨p.flatten ++ t, 0⟩ [] = (p, ⟨t, 0⟩) := by
        rw [← m5, Int.toNat_natCast, loop_put p t [] ok.2.2, List.nil_append]
      rw [openC_eq, e1]
      simp only
      rw [if_neg (by omega), e2]
      simp only
      rw [e3]
      simp
    · rw [if_pos (by simpa using hm)] at h
      simp only [Prod.mk.injEq] at h
      exact absurd h.2 hm
theorem open_back {l : List UInt8} {o : Opn} {c : C} (h : openC ⟨l, 0⟩ = (o, c)) (hc : c.e = 0) : OOk o ∧ ∃ l', openB o = (l', 0) ∧ l = l' ++ c.b := by
  rw [openC_eq] at h
  have b1 := @num_back l 1048576
  generalize numC ⟨l, 0⟩ 1048576 = x at *
  obtain ⟨N, d⟩ := x
  simp only at h
  have b1 := b1 rfl
  by_cases hN : N = 0
  · rw [if_pos hN] at h
    simp only [Prod.mk.injEq] at h
    obtain ⟨rfl, rfl⟩ := h
    subst hN
    refine ⟨⟨by decide, by decide, by simp [op0]⟩, Num.putL 0, ?_, (b1 hc).2⟩
    unfold openB
    rw [if_pos ((noneO_iff op0).2 ⟨rfl, rfl, rfl⟩)]
  · rw [if_neg hN] at h
    by_cases hd : d.e = 0
    · obtain ⟨db, de⟩ := d
      simp only at hd
      subst hd
      obtain ⟨hN2, hl⟩ := b1 rfl
      simp only at hl
      have b2 := @num_back db (N - 1)
      generalize numC ⟨db, 0⟩ (N - 1) = y at *
      obtain ⟨I, d2⟩ := y
      simp only at h
      have b2 := b2 rfl
      by_cases hd2 : d2.e = 0
      · obtain ⟨db2, de2⟩ := d2
        simp only at hd2
        subst hd2
        obtain ⟨hI, hl2⟩ := b2 rfl
        simp only at hl2
        have hIN : I < N := by omega
        have hIB : (I : Int) ≤ 9223372036854775807 := by omega
        have hbad : ¬ ((N : Int) < 1 ∨ 1048576 < (N : Int) ∨ (I : Int) < 0 ∨ (N : Int) ≤ I) := by omega
        clear b1 b2
        have b3 := @loop_back (depthI N I).toNat db2 []
        generalize loopC (depthI N I).toNat ⟨db2, 0⟩ [] = z at *
        obtain ⟨q, d3⟩ := z
        simp only at h
        have b3 := fun he => b3 q d3 rfl he
        by_cases hd3 : d3.e = 0
        · rw [if_neg (by simpa using hd3)] at h
          simp only [Prod.mk.injEq] at h
          obtain ⟨rfl, rfl⟩ := h
          obtain ⟨r, h1, h2, h3, h4⟩ := b3 hd3
          clear b3
          rw [List.nil_append] at h1
          subst h1
          have hdn := depth_nn (n := N) (i := I) hIN
          have hq : (q.length : Int) = depthI N I := by omega
          refine ⟨⟨hIB, by show _ ≤ (I : Int); omega, h3⟩, Num.putL N ++ Num.putL I ++ q.flatten, ?_, ?_⟩
          · have hm : mayI ⟨I, N, q⟩ = 0 := by
              unfold mayI
              rw [if_neg hbad, if_neg (by simpa using hq)]
            have hn : ¬ noneO ⟨I, N, q⟩ = true := by
              rw [noneO_iff]
              simp only
              omega
            unfold openB
            rw [if_neg hn, if_neg (by simpa using hm)]
            simp
          · rw [hl, hl2, h4]
            simp
        · rw [if_pos (by simpa using hd3)] at h
          simp only [Prod.mk.injEq] at h
          rw [← h.2] at hc
          exact absurd hc hd3
      · have := loop_err (k := (depthI N I).toNat) (p := []) hd2
        rw [if_pos this] at h
        simp only [Prod.mk.injEq] at h
        rw [← h.2] at hc
        exact absurd hc this
    · rw [num_err _ _ hd] at h
      simp only at h
      have := loop_err (k := (depthI N (0 : Nat)).toNat) (p := []) hd
      rw [if_pos this] at h
      simp only [Prod.mk.injEq] at h
      rw [← h.2] at hc
      exact absurd hc this
theorem get_put (h : Hd) (k : h.Ok) (t : List UInt8) : getC ⟨h.b ++ t, 0⟩ = (h, ⟨t, 0⟩) := by
  have e := raw_ok (h.b ++ t) 76 (by rw [List.length_append, h.b_len k]; omega)
  rw [List.take_left' (h.b_len k), List.drop_left' (h.b_len k), show ((76 : Nat) : Int) = 76 from rfl] at e
  unfold getC
  rw [e]
  simp only
  rw [if_neg (by intro e2; have := h.b_len k; rw [e2] at this; simp at this), h.of_b k]
theorem get_back {l : List UInt8} (h : (getC ⟨l, 0⟩).2.e = 0) : l = (getC ⟨l, 0⟩).1.b ++ (getC ⟨l, 0⟩).2.b := by
  by_cases h1 : 76 ≤ l.length
  · have e := raw_ok l 76 h1
    rw [show ((76 : Nat) : Int) = 76 from rfl] at e
    have hl : (l.take 76).length = 76 := by simp; omega
    unfold getC
    rw [e]
    simp only
    rw [if_neg (by intro e2; rw [e2] at hl; simp at hl), Hd.b_of _ hl, List.take_append_drop]
  · have e := raw_short l 76 (by omega)
    rw [show ((76 : Nat) : Int) = 76 from rfl] at e
    unfold getC at h
    rw [e] at h
    simp at h
theorem step_put {h : Hd} {o : Opn} {l : List UInt8} (t : List UInt8) (hs : stepB h o = (l, 0)) (k : h.Ok) (ok : OOk o) : stepC ⟨l ++ t, 0⟩ = ((h, o), ⟨t, 0⟩) := by
  unfold stepB at hs
  by_cases he : (openB o).2 = 0
  · rw [if_neg (by simpa using he)] at hs
    simp only [Prod.mk.injEq, and_true] at hs
    have e1 := open_put t (show openB o = ((openB o).1, 0) by rw [← he]) ok
    unfold stepC
    rw [← hs, List.append_assoc, get_put h k]
    simp only
    rw [e1]
    simp
  · rw [if_pos (by simpa using he)] at hs
    simp only [Prod.mk.injEq] at hs
    exact absurd hs.2 he
theorem open_e {c : C} (h : c.e ≠ 0) : (openC c).2.e ≠ 0 := by
  rw [openC_eq, num_err c _ h]
  simpa using h
theorem step_back {l : List UInt8} {h : Hd} {o : Opn} {c : C} (hs : stepC ⟨l, 0⟩ = ((h, o), c)) (hc : c.e = 0) : OOk o ∧ ∃ l', stepB h o = (l', 0) ∧ l = l' ++ c.b := by
  unfold stepC at hs
  have g := @get_back l
  generalize getC ⟨l, 0⟩ = x at *
  obtain ⟨y, d⟩ := x
  simp only at hs g
  by_cases hd : d.e = 0
  · have hl := g hd
    obtain ⟨db, de⟩ := d
    simp only at hd hl
    subst hd
    have ob := @open_back db
    generalize openC ⟨db, 0⟩ = z at *
    obtain ⟨o2, d2⟩ := z
    simp only at hs
    have ob := fun he => ob (o := o2) (c := d2) rfl he
    by_cases he : d2.e = 0
    · rw [if_neg (by simpa using he)] at hs
      simp only [Prod.mk.injEq] at hs
      obtain ⟨⟨rfl, rfl⟩, rfl⟩ := hs
      obtain ⟨k, l', h1, h2⟩ := ob he
      refine ⟨k, y.b ++ l', ?_, by rw [hl, h2, List.append_assoc]⟩
      unfold stepB
      rw [h1]
      simp
    · rw [if_pos (by simpa using he)] at hs
      simp only [Prod.mk.injEq] at hs
      rw [← hs.2] at hc
      exact absurd hc he
  · have := open_e hd
    rw [if_pos this] at hs
    simp only [Prod.mk.injEq] at hs
    rw [← hs.2] at hc
    exact absurd hc this
theorem step_bad {c d : C} {h : Hd} {o : Opn} (hs : stepC c = ((h, o), d)) (hd : d.e ≠ 0) : h = hd0 ∧ o = op0 := by
  unfold stepC at hs
  simp only at hs
  split at hs
  · simp only [Prod.mk.injEq] at hs
    exact ⟨hs.1.1.symm, hs.1.2.symm⟩
  · rename_i hh
    simp only [Prod.mk.injEq] at hs
    rw [hs.2] at hh
    exact absurd hd hh
end Go.Proofs.Ytcaocnlchfbeaaa.Tk
