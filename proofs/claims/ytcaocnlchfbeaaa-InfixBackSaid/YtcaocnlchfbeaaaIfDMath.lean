/- Plain laws: what is decoded as an infix, and that it goes to and fro. No condition. -/
import Derived.Test.YtcaocnlchfbeaaaIfMath
namespace Go.Proofs.Ytcaocnlchfbeaaa.If
open Go.RowKit Go.Proofs.Ytcaocnlchfbeaaa.Mk Go.Proofs.Ytcaocnlchfbeaaa.Op Go.Proofs.Ytcaocnlchfbeaaa.Hd Go.Proofs.Ytcaocnlchfbeaaa.St Go.Proofs.Ytcaocnlchfbeaaa.Cur Go.Proofs.Ytcaocnlchfbeaaa.Stp Go.Proofs.Ytcaocnlchfbeaaa.Tk Go.Proofs.Ytcaocnlchfbeaaa.Pf
def inf0 : Inf := ⟨0, [], op0, 0, .empty, op0⟩
/-- the six takings -/
def d1 (b : List UInt8) : Nat × C := numC ⟨b, 0⟩ 1024
def d2 (b : List UInt8) : List HO × C := getP (d1 b).2
def d3 (b : List UInt8) : Opn × C := openC (d2 b).2
def d4 (b : List UInt8) : Nat × C := numC (d3 b).2 1024
def d5 (b : List UInt8) : List UInt8 × C := textC (d4 b).2 4096
def d6 (b : List UInt8) : Opn × C := openC (d5 b).2
/-- what is taken, whatever the end -/
def infD (b : List UInt8) : Inf := ⟨(d1 b).1, (d2 b).1, (d3 b).1, (d4 b).1, ba (d5 b).1, (d6 b).1⟩
/-- what is decoded as an infix -/
def decF (b : List UInt8) : Inf × Int := if doneC (d6 b).2 ≠ 0 then (inf0, doneC (d6 b).2) else (infD b, 0)
theorem steps_len2 : ∀ (k : Nat) (c : C) (p : List HO), (stepsC k c p).2.b.length ≤ c.b.length
  | 0, _, _ => Nat.le_refl _
  | k + 1, c, p => by
    by_cases h : c.e = 0
    · rw [steps_go h]
      exact Nat.le_trans (steps_len2 k _ _) (stepC_len c)
    · rw [steps_stop (.inr h)]
      exact Nat.le_refl _
theorem getP_len (c : C) : (getP c).2.b.length ≤ c.b.length := by
  have h1 := steps_len2 (headC c).1 (headC c).2 []
  have h2 := head_len c
  unfold getP
  split <;> exact Nat.le_trans h1 h2
theorem d1_len (b : List UInt8) : (d1 b).2.b.length ≤ b.length := num_len ⟨b, 0⟩ 1024
theorem d2_len (b : List UInt8) : (d2 b).2.b.length ≤ b.length := Nat.le_trans (getP_len _) (d1_len b)
theorem d3_len (b : List UInt8) : (d3 b).2.b.length ≤ b.length := Nat.le_trans (open_len _) (d2_len b)
theorem d4_len (b : List UInt8) : (d4 b).2.b.length ≤ b.length := Nat.le_trans (num_len _ _) (d3_len b)
theorem text_put (s t : List UInt8) (h : s.length ≤ 4096) : textC ⟨(Num.putL s.length ++ s) ++ t, 0⟩ 4096 = (s, ⟨t, 0⟩) := by
  unfold textC
  rw [List.append_assoc, show (max (4096 : Int) 0).toNat = 4096 from rfl, num_put s.length 4096 (s ++ t) h (by decide)]
  unfold rawC
  simp
  rw [if_neg (by omega), if_neg (by omega)]
theorem get_put {l : List HO} {b : List UInt8} (t : List UInt8) (h : encP l = (b, 0)) (ok : ∀ a ∈ l, a.1.Ok ∧ OOk a.2) : getP ⟨b ++ t, 0⟩ = (l, ⟨t, 0⟩) := by
  obtain ⟨hl, p, hp, rfl⟩ := encP_ok h
  have h1 : headC ⟨(Num.putL l.length ++ p) ++ t, 0⟩ = (l.length, ⟨p ++ t, 0⟩) := by
    unfold headC
    rw [List.append_assoc, num_put l.length top (p ++ t) (by rw [top_eq]; omega) (by rw [top_eq]; omega)]
    rw [if_neg (by simp; omega)]
  have h2 := steps_put l p t [] hp ok
  rw [List.nil_append] at h2
  unfold getP
  rw [h1]
  dsimp only
  rw [h2]
  rw [if_neg (by simp)]
theorem enc_ok {x : Inf} {b : List UInt8} (h : encF x = (b, 0)) : mayF x = 0 ∧ (encP x.l).2 = 0 ∧ (openB x.o).2 = 0 ∧ (openB x.u).2 = 0 ∧ b = Num.putL x.a.toNat ++ (encP x.l).1 ++ (openB x.o).1 ++ Num.putL x.b.toNat ++ (Num.putL x.s.size ++ bs x.s) ++ (openB x.u).1 := by
  unfold encF at h
  split at h
  · rename_i h1; exact absurd (congrArg Prod.snd h) h1
  rename_i h1
  split at h
  · rename_i h2; exact absurd (congrArg Prod.snd h) h2
  rename_i h2
  split at h
  · rename_i h3; exact absurd (congrArg Prod.snd h) h3
  rename_i h3
  split at h
  · rename_i h4; exact absurd (congrArg Prod.snd h) h4
  rename_i h4
  exact ⟨Decidable.byContradiction h1, Decidable.byContradiction h2, Decidable.byContradiction h3, Decidable.byContradiction h4, (congrArg Prod.fst h).symm⟩
theorem dec_enc {x : Inf} {b : List UInt8} (h : encF x = (b, 0)) (ok : IOk x) : decF b = (x, 0) := by
  obtain ⟨h0, h1, h2, h3, rfl⟩ := enc_ok h
  have hm := may_ok h0
  obtain ⟨a, l, o, c, s, u⟩ := x
  dsimp only at *
  obtain ⟨na, rfl⟩ := Int.eq_ofNat_of_zero_le hm.1
  obtain ⟨nc, rfl⟩ := Int.eq_ofNat_of_zero_le hm.2.2.1
  simp only [Int.toNat_natCast, List.append_assoc]
  have e1 : d1 (Num.putL na ++ ((encP l).1 ++ ((openB o).1 ++ (Num.putL nc ++ (Num.putL s.size ++ (bs s ++ (openB u).1)))))) = (na, ⟨(encP l).1 ++ ((openB o).1 ++ (Num.putL nc ++ (Num.putL s.size ++ (bs s ++ (openB u).1)))), 0⟩) := num_put na 1024 _ (by omega) (by decide)
  generalize hB : Num.putL na ++ ((encP l).1 ++ ((openB o).1 ++ (Num.putL nc ++ (Num.putL s.size ++ (bs s ++ (openB u).1))))) = B at *
  have e2 : d2 B = (l, ⟨(openB o).1 ++ (Num.putL nc ++ (Num.putL s.size ++ (bs s ++ (openB u).1))), 0⟩) := by
    unfold d2
    rw [e1]
    exact get_put _ (Prod.ext rfl h1) ok.l
  have e3 : d3 B = (o, ⟨Num.putL nc ++ (Num.putL s.size ++ (bs s ++ (openB u).1)), 0⟩) := by
    unfold d3
    rw [e2]
    exact open_put _ (Prod.ext rfl h2) ok.o
  have e4 : d4 B = (nc, ⟨Num.putL s.size ++ (bs s ++ (openB u).1), 0⟩) := by
    unfold d4
    rw [e3]
    exact num_put nc 1024 _ (by omega) (by decide)
  have e5 : d5 B = (bs s, ⟨(openB u).1, 0⟩) := by
    have := text_put (bs s) (openB u).1 (by rw [bs_len]; omega)
    rw [bs_len, List.append_assoc] at this
    unfold d5
    rw [e4]
    exact this
  have e6 : d6 B = (u, ⟨[], 0⟩) := by
    have := open_put (l := (openB u).1) [] (Prod.ext rfl h3) ok.u
    rw [List.append_nil] at this
    unfold d6
    rw [e5]
    exact this
  have e7 : doneC (d6 B).2 = 0 := by rw [e6]; rfl
  unfold decF
  rw [if_neg (by simpa using e7)]
  unfold infD
  rw [e1, e2, e3, e4, e5, e6, ba_bs]
theorem num_e {c : C} (h : c.e ≠ 0) (m : Nat) : numC c m = (0, c) := if_pos h
theorem text_e {c : C} (h : c.e ≠ 0) : (textC c 4096).2.e ≠ 0 := by
  unfold textC
  rw [num_e h]
  unfold rawC
  rw [if_neg (by show ¬ ((0 : Nat) : Int) < 0; decide), if_pos h]
  exact h
theorem getP_e {c : C} (h : c.e ≠ 0) : (getP c).2.e ≠ 0 := by
  have e : headC c = (0, c) := by
    unfold headC
    rw [num_e h, if_neg (by show ¬ 1024 < 0; decide)]
  unfold getP
  rw [e]
  dsimp only
  rw [steps_stop (.inl rfl), if_pos h]
  exact h
theorem text_back {l t : List UInt8} {c : C} (h : textC ⟨l, 0⟩ 4096 = (t, c)) (hc : c.e = 0) : t.length ≤ 4096 ∧ l = (Num.putL t.length ++ t) ++ c.b := by
  unfold textC at h
  rw [show (max (4096 : Int) 0).toNat = 4096 from rfl] at h
  generalize hx : numC ⟨l, 0⟩ 4096 = x at h
  obtain ⟨n, d⟩ := x
  dsimp only at h
  have hd : d.e = 0 := by
    refine Decidable.byContradiction fun e => ?_
    unfold rawC at h
    rw [if_neg (by omega), if_pos e] at h
    cases h
    exact e hc
  obtain ⟨h1, rfl⟩ := num_back hx hd
  unfold rawC at h
  rw [if_neg (by omega), if_neg (by simpa using hd)] at h
  by_cases h2 : (d.b.length : Int) < (n : Int)
  · rw [if_pos h2] at h
    cases h
    cases hc
  · rw [if_neg h2] at h
    cases h
    have hl : (d.b.take n).length = n := by rw [List.length_take]; omega
    simp only [Int.toNat_natCast] at *
    rw [hl]
    exact ⟨h1, by rw [List.append_assoc, List.take_append_drop]⟩
theorem get_back {b : List UInt8} {l : List HO} {c : C} (h : getP ⟨b, 0⟩ = (l, c)) (hc : c.e = 0) : (∀ a ∈ l, OOk a.2) ∧ ∃ p, encP l = (p, 0) ∧ b = p ++ c.b := by
  unfold getP at h
  by_cases h3 : (stepsC (headC ⟨b, 0⟩).1 (headC ⟨b, 0⟩).2 []).2.e ≠ 0
  · rw [if_pos h3] at h
    cases h
    exact absurd hc h3
  rw [if_neg h3] at h
  have hh : (headC ⟨b, 0⟩).2.e = 0 := Decidable.byContradiction fun e => h3 (steps_e _ e)
  have hm : ¬ 1024 < (headC ⟨b, 0⟩).1 := fun e => head_many e hh
  have hhd : headC ⟨b, 0⟩ = numC ⟨b, 0⟩ top := by
    have hm' : ¬ 1024 < (numC ⟨b, 0⟩ top).1 := hm
    unfold headC
    rw [if_neg hm']
  rw [hhd] at h hh hm h3
  generalize hx : numC ⟨b, 0⟩ top = x at *
  obtain ⟨n, d⟩ := x
  dsimp only at *
  obtain ⟨_, rfl⟩ := num_back hx hh
  have hd : d = ⟨d.b, 0⟩ := by cases d; cases hh; rfl
  rw [hd] at h
  obtain ⟨l', p, e1, e2, e3, e4, e5⟩ := steps_back n _ _ _ _ h hc
  rw [List.nil_append] at e1
  rw [e1]
  refine ⟨e3, Num.putL n ++ p, ?_, ?_⟩
  · unfold encP
    rw [if_neg (by omega), e4, e2]
    rfl
  · rw [List.append_assoc, ← e5]
theorem cur_eq {c : C} (h : c.e = 0) : c = ⟨c.b, 0⟩ := by cases c; cases h; rfl
theorem enc_dec {b : List UInt8} {x : Inf} (h : decF b = (x, 0)) : (∀ a ∈ x.l, OOk a.2) ∧ OOk x.o ∧ OOk x.u ∧ x.s.size ≤ 4096 ∧ 0 ≤ x.a ∧ x.a ≤ 1024 ∧ 0 ≤ x.b ∧ x.b ≤ 1024 ∧ encF x = (b, 0) := by
  unfold decF at h
  split at h
  · rename_i h1
    exact absurd (congrArg Prod.snd h) h1
  rename_i h1
  have hdn : doneC (d6 b).2 = 0 := Decidable.byContradiction h1
  have hx : infD b = x := congrArg Prod.fst h
  clear h h1
  have h6 : (d6 b).2.e = 0 ∧ (d6 b).2.b = [] := by
    unfold doneC at hdn
    split at hdn
    · cases hdn
    · rename_i h2
      exact ⟨hdn, Decidable.byContradiction fun e => h2 ⟨hdn, e⟩⟩
  have h5 : (d5 b).2.e = 0 := Decidable.byContradiction fun e => open_e e h6.1
  have h4 : (d4 b).2.e = 0 := Decidable.byContradiction fun e => text_e e h5
  have h3 : (d3 b).2.e = 0 := Decidable.byContradiction fun e => by
    have e2 : (d4 b).2 = (d3 b).2 := by unfold d4; rw [num_e e]
    rw [e2] at h4
    exact e h4
  have h2 : (d2 b).2.e = 0 := Decidable.byContradiction fun e => open_e e h3
  have h1 : (d1 b).2.e = 0 := Decidable.byContradiction fun e => getP_e e h2
  obtain ⟨a1, b1⟩ := num_back (l := b) (m := 1024) (n := (d1 b).1) (c := (d1 b).2) rfl h1
  obtain ⟨a2, p, b2, c2⟩ := get_back (b := (d1 b).2.b) (l := (d2 b).1) (c := (d2 b).2) (by rw [← cur_eq h1]; rfl) h2
  obtain ⟨a3, q, b3, c3⟩ := open_back (l := (d2 b).2.b) (o := (d3 b).1) (c := (d3 b).2) (by rw [← cur_eq h2]; rfl) h3
  obtain ⟨a4, b4⟩ := num_back (l := (d3 b).2.b) (m := 1024) (n := (d4 b).1) (c := (d4 b).2) (by rw [← cur_eq h3]; rfl) h4
  obtain ⟨a5, b5⟩ := text_back (l := (d4 b).2.b) (t := (d5 b).1) (c := (d5 b).2) (by rw [← cur_eq h4]; rfl) h5
  obtain ⟨a6, r, b6, c6⟩ := open_back (l := (d5 b).2.b) (o := (d6 b).1) (c := (d6 b).2) (by rw [← cur_eq h5]; rfl) h6.1
  rw [h6.2, List.append_nil] at c6
  have hll := (encP_ok b2).1
  rw [← hx]
  have hmay : mayF (infD b) = 0 := by
    unfold mayF infD
    dsimp only
    rw [if_neg (by omega), if_neg (by rw [ba_size]; omega)]
  refine ⟨a2, a3, a6, by show (ba (d5 b).1).size ≤ 4096; rw [ba_size]; exact a5, by show (0 : Int) ≤ ((d1 b).1 : Int); omega, by show ((d1 b).1 : Int) ≤ 1024; omega, by show (0 : Int) ≤ ((d4 b).1 : Int); omega, by show ((d4 b).1 : Int) ≤ 1024; omega, ?_⟩
  unfold encF
  rw [if_neg (by simpa using hmay)]
  unfold infD
  dsimp only
  rw [b2, b3, b6]
  simp only [Int.toNat_natCast, ne_eq, not_true_eq_false, if_false, bs_ba, ba_size]
  conv => rhs; rw [b1, c2, c3, b4, b5, c6]
  simp only [List.append_assoc]
end Go.Proofs.Ytcaocnlchfbeaaa.If
