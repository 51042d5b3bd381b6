/- Plain laws: what comes piece by piece is what comes at once. No condition. -/
import Derived.Test.YtcaocnlchfbeaaaPbSize
namespace Go.Proofs.Ytcaocnlchfbeaaa.Stm
open Go.RowKit Go.Proofs.Ytcaocnlchfbeaaa.Mk Go.Proofs.Ytcaocnlchfbeaaa.Op Go.Proofs.Ytcaocnlchfbeaaa.Hd Go.Proofs.Ytcaocnlchfbeaaa.St Go.Proofs.Ytcaocnlchfbeaaa.Cur Go.Proofs.Ytcaocnlchfbeaaa.Stp Go.Proofs.Ytcaocnlchfbeaaa.Tk Go.Proofs.Ytcaocnlchfbeaaa.Pf
open Go.Proofs.Ytcaocnlchfbeaaa.Shape (depthI)
theorem takeG_ext (l t : List UInt8) : ∀ (f n : Nat), (Num.takeG l f n).2.2 ≠ 1 → Num.takeG (l ++ t) f n = Num.takeG l f n
  | 0, _, _ => rfl
  | f + 1, n, h => by
    unfold Num.takeG at h ⊢
    by_cases hn : n < l.length
    · rw [List.getElem?_append_left hn]
      rw [List.getElem?_eq_getElem hn] at h ⊢
      dsimp only at h ⊢
      by_cases hc : 128 ≤ l[n].toNat
      · simp only [if_pos hc] at h ⊢
        exact takeG_ext l t f (n + 1) h
      · simp only [if_neg hc]
        rw [List.take_append_of_le_length (by omega)]
    · rw [List.getElem?_eq_none (by omega)] at h
      exact absurd rfl h
theorem takeR_ext {l : List UInt8} (t : List UInt8) (h : (Num.takeR l).2.2 ≠ 1) : Num.takeR (l ++ t) = Num.takeR l := takeG_ext l t 10 0 h
theorem num_ext {b : List UInt8} {m n : Nat} {c : C} (hm : m < 18446744073709551616) (t : List UInt8) (h : numC ⟨b, 0⟩ m = (n, c)) (hc : c.e = 0) : numC ⟨b ++ t, 0⟩ m = (n, ⟨c.b ++ t, 0⟩) := by
  obtain ⟨h1, h2⟩ := num_back h hc
  rw [h2, List.append_assoc]
  exact num_put n m _ h1 hm
theorem num_bad' {b : List UInt8} {m : Nat} (t : List UInt8) (h0 : (numC ⟨b, 0⟩ m).2.e ≠ 0) (h1 : (numC ⟨b, 0⟩ m).2.e ≠ 1) : (numC ⟨b ++ t, 0⟩ m).2.e = (numC ⟨b, 0⟩ m).2.e := by
  by_cases h : (Num.takeR b).2.2 = 0
  · have hx := takeR_ext t (l := b) (by rw [h]; decide)
    by_cases h2 : m < (Num.takeR b).1
    · rw [num_big b m h h2, num_big (b ++ t) m (by rw [hx]; exact h) (by rw [hx]; exact h2)]
    · rw [num_ok b m h h2] at h0
      exact absurd rfl h0
  · rw [Cur.num_bad b m h] at h1
    have hx := takeR_ext t (l := b) (fun e => h1 (by simp only [e]; rfl))
    rw [Cur.num_bad b m h, Cur.num_bad (b ++ t) m (by rw [hx]; exact h), hx]
theorem raw_e (c : C) (n : Nat) (h : c.e = 0) : (rawC c n).2.e = 0 ∨ (rawC c n).2.e = 1 := by
  unfold rawC
  rw [if_neg (by omega), if_neg (by simpa using h)]
  split
  · exact .inr rfl
  · exact .inl rfl
theorem hash_e (c : C) (h : c.e = 0) : (hashC c).2.e = 0 ∨ (hashC c).2.e = 1 := raw_e c 32 h
theorem loop_e : ∀ (k : Nat) (c : C) (p : HL), (c.e = 0 ∨ c.e = 1) → (loopC k c p).2.e = 0 ∨ (loopC k c p).2.e = 1
  | 0, _, _, h => h
  | k + 1, c, p, h => by
    by_cases h0 : c.e = 0
    · rw [loop_go h0]
      exact loop_e k _ _ (hash_e c h0)
    · rw [loop_stop (.inr h0)]
      exact h
theorem get_e (c : C) (h : c.e = 0) : (getC c).2.e = 0 ∨ (getC c).2.e = 1 := raw_e c 76 h
/-- an opening on a failed cursor -/
theorem open_kept {c : C} (h : c.e ≠ 0) : openC c = (op0, c) := by
  rw [openC_eq, num_err c _ h]
  exact if_pos rfl
theorem open_ext {b : List UInt8} {o : Opn} {c : C} (t : List UInt8) (h : openC ⟨b, 0⟩ = (o, c)) (hc : c.e = 0) : openC ⟨b ++ t, 0⟩ = (o, ⟨c.b ++ t, 0⟩) := by
  obtain ⟨h1, l', h2, h3⟩ := open_back h hc
  rw [h3, List.append_assoc]
  exact open_put _ h2 h1
theorem num_nz {c : C} {m : Nat} (h : (numC c m).2.e ≠ 0) : (numC c m).1 = 0 := by
  unfold numC at h ⊢
  split
  · rfl
  split
  · rfl
  split
  · rfl
  · rename_i h1 h2 h3
    rw [if_neg h1, if_neg h2, if_neg h3] at h
    exact absurd rfl h
theorem cur0 {c : C} (h : c.e = 0) : c = ⟨c.b, 0⟩ := by cases c; cases h; rfl
theorem open_bad {b : List UInt8} (t : List UInt8) (h0 : (openC ⟨b, 0⟩).2.e ≠ 0) (h1 : (openC ⟨b, 0⟩).2.e ≠ 1) : (openC ⟨b ++ t, 0⟩).2.e = (openC ⟨b, 0⟩).2.e := by
  by_cases hn : (numC ⟨b, 0⟩ 1048576).2.e = 0
  · have hx := num_ext (b := b) (m := 1048576) (n := (numC ⟨b, 0⟩ 1048576).1) (c := (numC ⟨b, 0⟩ 1048576).2) (by decide) t rfl hn
    by_cases hz : (numC ⟨b, 0⟩ 1048576).1 = 0
    · exact absurd (by rw [openC_eq, if_pos hz]; exact hn) h0
    have hlt : (numC ⟨b, 0⟩ 1048576).1 ≤ 1048576 := num_le _ _
    by_cases hi : (numC (numC ⟨b, 0⟩ 1048576).2 ((numC ⟨b, 0⟩ 1048576).1 - 1)).2.e = 0
    · have hl := loop_e (depthI (numC ⟨b, 0⟩ 1048576).1 (numC (numC ⟨b, 0⟩ 1048576).2 ((numC ⟨b, 0⟩ 1048576).1 - 1)).1).toNat _ [] (.inl hi)
      have he : (openC ⟨b, 0⟩).2.e = 0 ∨ (openC ⟨b, 0⟩).2.e = 1 := by
        rw [openC_eq, if_neg hz]
        split <;> exact hl
      rcases he with he | he
      · exact absurd he h0
      · exact absurd he h1
    · have e1 : openC ⟨b, 0⟩ = (op0, (numC (numC ⟨b, 0⟩ 1048576).2 ((numC ⟨b, 0⟩ 1048576).1 - 1)).2) := by
        rw [openC_eq, if_neg hz, loop_stop (.inr hi)]
        dsimp only
        exact if_pos hi
      rw [e1] at h0 h1 ⊢
      dsimp only at h0 h1 ⊢
      have hb := num_bad' (b := (numC ⟨b, 0⟩ 1048576).2.b) (m := (numC ⟨b, 0⟩ 1048576).1 - 1) t (by rw [← cur0 hn]; exact h0) (by rw [← cur0 hn]; exact h1)
      rw [← cur0 hn] at hb
      have hi' : (numC (numC ⟨b ++ t, 0⟩ 1048576).2 ((numC ⟨b ++ t, 0⟩ 1048576).1 - 1)).2.e ≠ 0 := by rw [hx]; dsimp only; rw [hb]; exact hi
      have e2 : openC ⟨b ++ t, 0⟩ = (op0, (numC (numC ⟨b ++ t, 0⟩ 1048576).2 ((numC ⟨b ++ t, 0⟩ 1048576).1 - 1)).2) := by
        rw [openC_eq, if_neg (by rw [hx]; exact hz), loop_stop (.inr hi')]
        dsimp only
        exact if_pos hi'
      rw [e2, hx]
      exact hb
  · have e1 : openC ⟨b, 0⟩ = (op0, (numC ⟨b, 0⟩ 1048576).2) := by rw [openC_eq, if_pos (num_nz hn)]
    rw [e1] at h0 h1 ⊢
    have hb := num_bad' t h0 h1
    rw [openC_eq, if_pos (num_nz (by rw [hb]; exact h0))]
    exact hb
theorem step_ext {b : List UInt8} {x : HO} {c : C} (t : List UInt8) (h : stepC ⟨b, 0⟩ = (x, c)) (hc : c.e = 0) : stepC ⟨b ++ t, 0⟩ = (x, ⟨c.b ++ t, 0⟩) := by
  have hk : x.1.Ok := by
    have := stepC_ok ⟨b, 0⟩
    rw [h] at this
    exact this
  obtain ⟨h1, l', h2, h3⟩ := step_back (h := x.1) (o := x.2) h hc
  rw [h3, List.append_assoc]
  exact step_put _ h2 hk h1
theorem step_badx {b : List UInt8} (t : List UInt8) (h0 : (stepC ⟨b, 0⟩).2.e ≠ 0) (h1 : (stepC ⟨b, 0⟩).2.e ≠ 1) : (stepC ⟨b ++ t, 0⟩).2.e = (stepC ⟨b, 0⟩).2.e := by
  have e : ∀ c, (stepC c).2 = (openC (getC c).2).2 := fun c => by
    unfold stepC
    dsimp only
    split <;> rfl
  rw [e] at h0 h1 ⊢
  rw [e]
  rcases get_e ⟨b, 0⟩ rfl with hg | hg
  · have hb := get_back hg
    have hx : getC ⟨b ++ t, 0⟩ = ((getC ⟨b, 0⟩).1, ⟨(getC ⟨b, 0⟩).2.b ++ t, 0⟩) := by
      conv => lhs; rw [hb, List.append_assoc]
      exact Tk.get_put _ (getC_ok _) _
    rw [hx]
    rw [cur0 hg] at h0 h1 ⊢
    exact open_bad t h0 h1
  · rw [open_kept (by rw [hg]; decide)] at h1
    exact absurd hg h1
theorem steps_ext : ∀ (j : Nat) (b t r : List UInt8) (p q : List HO), stepsC j ⟨b, 0⟩ p = (q, ⟨r, 0⟩) → stepsC j ⟨b ++ t, 0⟩ p = (q, ⟨r ++ t, 0⟩)
  | 0, b, t, r, p, q, h => by
    rw [steps_stop (.inl rfl)] at h ⊢
    cases h
    rfl
  | j + 1, b, t, r, p, q, h => by
    rw [steps_go rfl] at h ⊢
    have hc : (stepC ⟨b, 0⟩).2.e = 0 := Decidable.byContradiction fun e => by
      rw [steps_stop (.inr e)] at h
      rw [Prod.mk.injEq] at h
      rw [h.2] at e
      exact e rfl
    rw [step_ext (x := (stepC ⟨b, 0⟩).1) (c := (stepC ⟨b, 0⟩).2) t rfl hc]
    rw [cur0 hc] at h
    exact steps_ext j _ t r _ q h
theorem steps_more : ∀ (j i : Nat) (c : C) (p : List HO), (stepsC j c p).2.e = 0 → stepsC (j + i) c p = stepsC i (stepsC j c p).2 (stepsC j c p).1
  | 0, i, c, p, h => by rw [Nat.zero_add]; rfl
  | j + 1, i, c, p, h => by
    by_cases hc : c.e = 0
    · rw [show j + 1 + i = (j + i) + 1 by omega, steps_go hc, steps_go hc]
      rw [steps_go hc] at h
      exact steps_more j i _ _ h
    · rw [steps_stop (.inr hc)] at h
      exact absurd h hc
/-- what is wrong at the end, where the number is wrong -/
theorem dec_num {A : List UInt8} (h : (numC ⟨A, 0⟩ top).2.e ≠ 0) : decP A = ([], (numC ⟨A, 0⟩ top).2.e) := by
  have hh : headC ⟨A, 0⟩ = (0, (numC ⟨A, 0⟩ top).2) := by
    unfold headC
    rw [num_nz h, if_neg (by decide)]
  have hg : getP ⟨A, 0⟩ = ([], (numC ⟨A, 0⟩ top).2) := by
    unfold getP
    rw [hh]
    dsimp only
    rw [steps_stop (.inl rfl), if_pos h]
  unfold decP
  rw [hg]
  have hd : doneC (numC ⟨A, 0⟩ top).2 = (numC ⟨A, 0⟩ top).2.e := by
    unfold doneC
    rw [if_neg (fun e => h e.1)]
  dsimp only
  rw [hd, if_pos h]
theorem dec_many {A : List UInt8} (h0 : (numC ⟨A, 0⟩ top).2.e = 0) (h : 1024 < (numC ⟨A, 0⟩ top).1) : decP A = ([], 4) := by
  have hh : headC ⟨A, 0⟩ = ((numC ⟨A, 0⟩ top).1, ⟨[], 4⟩) := by
    unfold headC
    rw [if_pos h]
    unfold failC
    rw [if_pos ⟨h0, by decide⟩]
  have hg : getP ⟨A, 0⟩ = ([], ⟨[], 4⟩) := by
    unfold getP
    rw [hh]
    dsimp only
    rw [steps_stop (.inr (by decide)), if_pos (by decide)]
  unfold decP
  rw [hg]
  rfl
/-- so many steps came, the next one fails -/
theorem dec_step {A r : List UInt8} {k j : Nat} {c1 : C} {l : List HO} (h0 : numC ⟨A, 0⟩ top = (k, c1)) (_h1 : c1.e = 0) (hk : k ≤ 1024) (hj : j < k) (hs : stepsC j c1 [] = (l, ⟨r, 0⟩)) (he : (stepC ⟨r, 0⟩).2.e ≠ 0) : decP A = ([], (stepC ⟨r, 0⟩).2.e) := by
  have hh : headC ⟨A, 0⟩ = (k, c1) := by
    unfold headC
    rw [h0]
    dsimp only
    rw [if_neg (by omega)]
  obtain ⟨i, rfl⟩ : ∃ i, k = j + (i + 1) := ⟨k - j - 1, by omega⟩
  have h2 : stepsC (j + (i + 1)) c1 [] = (l ++ [(stepC ⟨r, 0⟩).1], (stepC ⟨r, 0⟩).2) := by
    rw [steps_more j _ c1 [] (by rw [hs]), hs]
    dsimp only
    rw [steps_go rfl, steps_stop (.inr he)]
  have hg : getP ⟨A, 0⟩ = ([], (stepC ⟨r, 0⟩).2) := by
    unfold getP
    rw [hh]
    dsimp only
    rw [h2, if_pos he]
  unfold decP
  rw [hg]
  have hd : doneC (stepC ⟨r, 0⟩).2 = (stepC ⟨r, 0⟩).2.e := by
    unfold doneC
    rw [if_neg (fun e => he e.1)]
  dsimp only
  rw [hd, if_pos he]
/-- all steps came -/
theorem dec_whole {A r : List UInt8} {k : Nat} {c1 : C} {l : List HO} (h0 : numC ⟨A, 0⟩ top = (k, c1)) (hk : k ≤ 1024) (hs : stepsC k c1 [] = (l, ⟨r, 0⟩)) : decP A = if r = [] then (l, 0) else ([], 2) := by
  have hh : headC ⟨A, 0⟩ = (k, c1) := by
    unfold headC
    rw [h0]
    dsimp only
    rw [if_neg (by omega)]
  have hg : getP ⟨A, 0⟩ = (l, ⟨r, 0⟩) := by
    unfold getP
    rw [hh]
    dsimp only
    rw [hs, if_neg (by simp)]
  unfold decP
  rw [hg]
  by_cases hr : r = []
  · subst hr
    rfl
  · have hd : doneC ⟨r, 0⟩ = 2 := by
      unfold doneC
      rw [if_pos ⟨rfl, hr⟩]
    dsimp only
    rw [hd, if_pos (by decide), if_neg hr]
/-- it is wrong, whatever comes behind -/
def Bad (A : List UInt8) (e : Int) : Prop := e ≠ 0 ∧ ∀ t, decP (A ++ t) = ([], e)
theorem Bad.more {A : List UInt8} {e : Int} (h : Bad A e) (t : List UInt8) : Bad (A ++ t) e := ⟨h.1, fun u => by rw [List.append_assoc]; exact h.2 _⟩
theorem bad_num {A : List UInt8} (h0 : (numC ⟨A, 0⟩ top).2.e ≠ 0) (h1 : (numC ⟨A, 0⟩ top).2.e ≠ 1) : Bad A (numC ⟨A, 0⟩ top).2.e :=
  ⟨h0, fun t => by
    have hb := num_bad' t h0 h1
    rw [dec_num (by rw [hb]; exact h0), hb]⟩
theorem top_lt : top < 18446744073709551616 := by unfold top; decide
theorem bad_many {A : List UInt8} (h0 : (numC ⟨A, 0⟩ top).2.e = 0) (h : 1024 < (numC ⟨A, 0⟩ top).1) : Bad A 4 :=
  ⟨by decide, fun t => by
    have hx := num_ext (n := (numC ⟨A, 0⟩ top).1) (c := (numC ⟨A, 0⟩ top).2) top_lt t rfl h0
    exact dec_many (by rw [hx]) (by rw [hx]; exact h)⟩
/-- k steps are to come, l came, r is left -/
structure Part (A : List UInt8) (k : Nat) (l : List HO) (r : List UInt8) : Prop where
  le : k ≤ 1024
  lk : l.length ≤ k
  ok : ∃ c1, numC ⟨A, 0⟩ top = (k, c1) ∧ c1.e = 0 ∧ stepsC l.length c1 [] = (l, ⟨r, 0⟩)
theorem Part.more {A r : List UInt8} {k : Nat} {l : List HO} (h : Part A k l r) (t : List UInt8) : Part (A ++ t) k l (r ++ t) := by
  obtain ⟨h1, h2, c1, h3, h4, h5⟩ := h
  refine ⟨h1, h2, _, num_ext top_lt t h3 h4, rfl, ?_⟩
  rw [cur0 h4] at h5
  exact steps_ext _ _ t r _ _ h5
theorem Part.new {A : List UInt8} (h0 : (numC ⟨A, 0⟩ top).2.e = 0) (h : ¬ 1024 < (numC ⟨A, 0⟩ top).1) : Part A (numC ⟨A, 0⟩ top).1 [] (numC ⟨A, 0⟩ top).2.b :=
  ⟨by omega, Nat.zero_le _, (numC ⟨A, 0⟩ top).2, rfl, h0, by rw [List.length_nil, steps_stop (.inl rfl)]; exact Prod.ext rfl (cur0 h0)⟩
theorem Part.step {A r : List UInt8} {k : Nat} {l : List HO} (h : Part A k l r) (hl : l.length < k) (he : (stepC ⟨r, 0⟩).2.e = 0) : Part A k (l ++ [(stepC ⟨r, 0⟩).1]) (stepC ⟨r, 0⟩).2.b := by
  obtain ⟨h1, h2, c1, h3, h4, h5⟩ := h
  refine ⟨h1, by simp; omega, c1, h3, h4, ?_⟩
  rw [List.length_append, List.length_singleton, steps_more l.length 1 c1 [] (by rw [h5]), h5]
  dsimp only
  rw [steps_go rfl, steps_stop (.inl rfl)]
  exact Prod.ext rfl (cur0 he)
theorem Part.bad {A r : List UInt8} {k : Nat} {l : List HO} (h : Part A k l r) (hl : l.length < k) (h0 : (stepC ⟨r, 0⟩).2.e ≠ 0) (h1 : (stepC ⟨r, 0⟩).2.e ≠ 1) : Bad A (stepC ⟨r, 0⟩).2.e :=
  ⟨h0, fun t => by
    obtain ⟨g1, g2, c1, g3, g4, g5⟩ := h.more t
    have hb := step_badx t h0 h1
    rw [dec_step g3 g4 g1 hl g5 (by rw [hb]; exact h0), hb]⟩
theorem Part.form {A r : List UInt8} {k : Nat} {l : List HO} (h : Part A k l r) (hl : l.length = k) (hr : r ≠ []) : Bad A 2 :=
  ⟨by decide, fun t => by
    obtain ⟨g1, g2, c1, g3, g4, g5⟩ := h.more t
    rw [hl] at g5
    rw [dec_whole g3 g1 g5, if_neg (fun e => hr (List.append_eq_nil_iff.1 e).1)]⟩
theorem Part.short {A r : List UInt8} {k : Nat} {l : List HO} (h : Part A k l r) (hl : l.length < k) (h1 : (stepC ⟨r, 0⟩).2.e = 1) : decP A = ([], 1) := by
  obtain ⟨g1, g2, c1, g3, g4, g5⟩ := h
  rw [dec_step g3 g4 g1 hl g5 (by rw [h1]; decide), h1]
theorem Part.whole {A : List UInt8} {k : Nat} {l : List HO} (h : Part A k l []) (hl : l.length = k) : decP A = (l, 0) := by
  obtain ⟨g1, g2, c1, g3, g4, g5⟩ := h
  rw [hl] at g5
  rw [dec_whole g3 g1 g5, if_pos rfl]
theorem num_nil : (numC ⟨[], 0⟩ top).2.e = 1 := by
  have h : numC ⟨[], 0⟩ top = (0, ⟨[], 1⟩) := by kernel_rfl
  rw [h]
end Go.Proofs.Ytcaocnlchfbeaaa.Stm
