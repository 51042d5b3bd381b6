/- Plain laws: what is decoded of what was encoded, and back. No condition. -/
import Derived.Test.YtcaocnlchfbeaaaPeMath
import Derived.Test.YtcaocnlchfbeaaaTbMath
namespace Go.Proofs.Ytcaocnlchfbeaaa.Pf
open Go.RowKit Go.Proofs.Ytcaocnlchfbeaaa.Op Go.Proofs.Ytcaocnlchfbeaaa.Hd Go.Proofs.Ytcaocnlchfbeaaa.St Go.Proofs.Ytcaocnlchfbeaaa.Cur Go.Proofs.Ytcaocnlchfbeaaa.Stp Go.Proofs.Ytcaocnlchfbeaaa.Tk
theorem cmb_ok {p q : List UInt8} {x : List UInt8 × Int} (h : cmb p x = (q, 0)) : x.2 = 0 ∧ q = p ++ x.1 := by
  unfold cmb at h
  split at h
  · rename_i h1
    exact absurd (congrArg Prod.snd h) h1
  · rename_i h1
    exact ⟨Decidable.byContradiction h1, (congrArg Prod.fst h).symm⟩
theorem bytes_cons {a : HO} {l : List HO} {p : List UInt8} (h : bytesP (a :: l) = (p, 0)) : ∃ x y, stepB a.1 a.2 = (x, 0) ∧ bytesP l = (y, 0) ∧ p = x ++ y := by
  unfold bytesP at h
  split at h
  · rename_i h1
    exact absurd (congrArg Prod.snd h) h1
  · rename_i h1
    obtain ⟨e1, e2⟩ := cmb_ok h
    exact ⟨_, _, Prod.ext rfl (Decidable.byContradiction h1), Prod.ext rfl e1, e2⟩
theorem steps_put : ∀ (l : List HO) (p t : List UInt8) (q : List HO), bytesP l = (p, 0) → (∀ a ∈ l, a.1.Ok ∧ OOk a.2) → stepsC l.length ⟨p ++ t, 0⟩ q = (q ++ l, ⟨t, 0⟩)
  | [], p, t, q, h, _ => by
    obtain rfl : [] = p := congrArg Prod.fst h
    simp [stepsC]
  | a :: l, p, t, q, h, ok => by
    obtain ⟨x, y, h1, h2, rfl⟩ := bytes_cons h
    have ha := ok a (List.mem_cons_self ..)
    rw [List.length_cons, steps_go rfl, List.append_assoc, step_put (y ++ t) h1 ha.1 ha.2]
    rw [steps_put l y t _ h2 (fun b hb => ok b (List.mem_cons_of_mem _ hb))]
    simp
theorem top_eq : top = 18446744073709551615 := rfl
theorem encP_ok {l : List HO} {b : List UInt8} (h : encP l = (b, 0)) : l.length ≤ 1024 ∧ ∃ p, bytesP l = (p, 0) ∧ b = Num.putL l.length ++ p := by
  unfold encP at h
  split at h
  · exact absurd (congrArg Prod.snd h) (by show ¬ (4 : Int) = 0; decide)
  · obtain ⟨e1, e2⟩ := cmb_ok h
    exact ⟨by omega, _, Prod.ext rfl e1, e2⟩
theorem dec_enc {l : List HO} {b : List UInt8} (h : encP l = (b, 0)) (ok : ∀ a ∈ l, a.1.Ok ∧ OOk a.2) : decP b = (l, 0) := by
  obtain ⟨hl, p, hp, rfl⟩ := encP_ok h
  have h1 : headC ⟨Num.putL l.length ++ p, 0⟩ = (l.length, ⟨p, 0⟩) := by
    unfold headC
    rw [num_put l.length top p (by rw [top_eq]; omega) (by rw [top_eq]; omega)]
    rw [if_neg (by simp; omega)]
  have h2 := steps_put l p [] [] hp ok
  rw [List.append_nil, List.nil_append] at h2
  have h3 : getP ⟨Num.putL l.length ++ p, 0⟩ = (l, ⟨[], 0⟩) := by
    unfold getP
    rw [h1]
    dsimp only
    rw [h2]
    rw [if_neg (by simp)]
  unfold decP
  rw [h3]
  rfl
theorem steps_e : ∀ (k : Nat) {c : C} {p : List HO}, c.e ≠ 0 → (stepsC k c p).2.e ≠ 0 := fun k c p h => by
  rw [steps_stop (.inr h)]
  exact h
theorem steps_back : ∀ (k : Nat) (b : List UInt8) (q r : List HO) (c : C), stepsC k ⟨b, 0⟩ q = (r, c) → c.e = 0 → ∃ l p, r = q ++ l ∧ l.length = k ∧ (∀ a ∈ l, OOk a.2) ∧ bytesP l = (p, 0) ∧ b = p ++ c.b
  | 0, b, q, r, c, h, _ => by
    rw [stepsC] at h
    cases h
    exact ⟨[], [], by simp, rfl, by simp, rfl, rfl⟩
  | k + 1, b, q, r, c, h, he => by
    rw [steps_go rfl] at h
    generalize hs : stepC ⟨b, 0⟩ = x at h
    obtain ⟨a, d⟩ := x
    by_cases hd : d.e = 0
    · obtain ⟨oka, p1, hp1, rfl⟩ := step_back (h := a.1) (o := a.2) hs hd
      have hd2 : d = ⟨d.b, 0⟩ := by cases d; cases hd; rfl
      dsimp only at h
      rw [hd2] at h
      obtain ⟨l, p, rfl, hl, hok, hb, e⟩ := steps_back k _ _ _ _ h he
      refine ⟨a :: l, p1 ++ p, by simp, by simp [hl], fun u hu => ?_, ?_, ?_⟩
      · rcases List.mem_cons.1 hu with rfl | hu
        · exact oka
        · exact hok u hu
      · unfold bytesP
        rw [hp1, hb]
        rfl
      · rw [List.append_assoc, ← e]
    · exact absurd he (by have := steps_e k (c := d) (p := q ++ [a]) hd; dsimp only at h; rw [h] at this; exact this)
theorem enc_dec {b : List UInt8} {l : List HO} (h : decP b = (l, 0)) : (∀ a ∈ l, OOk a.2) ∧ encP l = (b, 0) := by
  unfold decP at h
  split at h
  · rename_i h1
    exact absurd (congrArg Prod.snd h) h1
  rename_i h1
  have h1' : doneC (getP ⟨b, 0⟩).2 = 0 := Decidable.byContradiction h1
  have hl : (getP ⟨b, 0⟩).1 = l := congrArg Prod.fst h
  clear h h1
  have hd : (getP ⟨b, 0⟩).2.e = 0 ∧ (getP ⟨b, 0⟩).2.b = [] := by
    unfold doneC at h1'
    split at h1'
    · cases h1'
    · rename_i h2
      exact ⟨h1', Decidable.byContradiction fun e => h2 ⟨h1', e⟩⟩
  clear h1'
  unfold getP at hl hd
  by_cases h3 : (stepsC (headC ⟨b, 0⟩).1 (headC ⟨b, 0⟩).2 []).2.e ≠ 0
  · rw [if_pos h3] at hd
    exact absurd hd.1 h3
  rw [if_neg h3] at hl hd
  have hh : (headC ⟨b, 0⟩).2.e = 0 := Decidable.byContradiction fun e => h3 (steps_e _ e)
  have hm : ¬ 1024 < (headC ⟨b, 0⟩).1 := fun e => head_many e hh
  have hhd : headC ⟨b, 0⟩ = numC ⟨b, 0⟩ top := by
    have hm' : ¬ 1024 < (numC ⟨b, 0⟩ top).1 := hm
    unfold headC
    rw [if_neg hm']
  rw [hhd] at hl hd hh hm h3
  generalize hx : numC ⟨b, 0⟩ top = x at *
  obtain ⟨n, c⟩ := x
  dsimp only at *
  obtain ⟨_, rfl⟩ := num_back hx hh
  have hc : c = ⟨c.b, 0⟩ := by cases c; cases hh; rfl
  generalize hy : stepsC n c [] = y at *
  obtain ⟨r, d⟩ := y
  rw [hc] at hy
  obtain ⟨l', p, e1, e2, e3, e4, e5⟩ := steps_back n _ _ _ _ hy hd.1
  dsimp only at hl hd
  rw [List.nil_append] at e1
  rw [← hl, e1]
  refine ⟨e3, ?_⟩
  unfold encP
  rw [if_neg (by omega), e4, e2, e5, hd.2, List.append_nil]
  rfl
end Go.Proofs.Ytcaocnlchfbeaaa.Pf
