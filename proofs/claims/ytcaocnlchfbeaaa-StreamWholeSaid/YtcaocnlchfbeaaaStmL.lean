/- What a stream keeps: plain laws. No condition. -/
import Derived.Test.YtcaocnlchfbeaaaStmS
import Derived.Test.YtcaocnlchfbeaaaStmN
namespace Go.Proofs.Ytcaocnlchfbeaaa.Stm
open Go.RowKit Go.Proofs.Ytcaocnlchfbeaaa.Mk Go.Proofs.Ytcaocnlchfbeaaa.Op Go.Proofs.Ytcaocnlchfbeaaa.Hd Go.Proofs.Ytcaocnlchfbeaaa.St Go.Proofs.Ytcaocnlchfbeaaa.Cur Go.Proofs.Ytcaocnlchfbeaaa.Stp Go.Proofs.Ytcaocnlchfbeaaa.Tk Go.Proofs.Ytcaocnlchfbeaaa.Pf
/-- between two writes -/
def Inv (A : List UInt8) (s : Stm.St) (l : List HO) : Prop :=
  s.m = 1024 ∧ ((s.e ≠ 0 ∧ Bad A s.e) ∨ (s.e = 0 ∧ s.g = false ∧ s.r = A ∧ s.n = 0 ∧ l = [] ∧ (numC ⟨A, 0⟩ top).2.e = 1) ∨
    (s.e = 0 ∧ s.g = true ∧ ∃ K, Part A K l s.r ∧ s.n = (K : Int) - (l.length : Int) ∧ ((l.length = K ∧ s.r = []) ∨ (l.length < K ∧ (stepC ⟨s.r, 0⟩).2.e = 1))))
/-- at a round's head -/
def Lop (A : List UInt8) (s : Stm.St) (l : List HO) (more : Bool) : Prop :=
  s.m = 1024 ∧ ((s.e ≠ 0 ∧ more = false ∧ Bad A s.e ∧ (s.g = false ∨ 0 < s.n)) ∨ (s.e = 0 ∧ more = false ∧ s.g = false ∧ s.r = A ∧ s.n = 0 ∧ l = [] ∧ (numC ⟨A, 0⟩ top).2.e = 1) ∨
    (s.e = 0 ∧ s.g = true ∧ ∃ K, Part A K l s.r ∧ s.n = (K : Int) - (l.length : Int) ∧ (more = false → l.length < K ∧ (stepC ⟨s.r, 0⟩).2.e = 1)))
theorem Part.len {A r : List UInt8} {K : Nat} {l : List HO} (h : Part A K l r) : r.length ≤ A.length := by
  obtain ⟨_, _, c1, h1, h2, h3⟩ := h
  have e1 := num_len ⟨A, 0⟩ top
  rw [h1] at e1
  have e2 := steps_len l.length c1 []
  rw [h3] at e2
  exact Nat.le_trans e2 e1
theorem top_eq64 : top64 = top := rfl
/-- the number is taken -/
theorem lop_count (A : List UInt8) (v : Value) : Lop A (takeS (countS ⟨1024, A, false, 0, v, 0⟩ ⟨A, 0⟩).1 (countS ⟨1024, A, false, 0, v, 0⟩ ⟨A, 0⟩).2) [] ((countS ⟨1024, A, false, 0, v, 0⟩ ⟨A, 0⟩).2.e == 0) ∧
    (takeS (countS ⟨1024, A, false, 0, v, 0⟩ ⟨A, 0⟩).1 (countS ⟨1024, A, false, 0, v, 0⟩ ⟨A, 0⟩).2).l = v := by
  unfold countS
  rw [top_eq64]
  by_cases h0 : (numC ⟨A, 0⟩ top).2.e = 0
  · rw [if_neg (by simpa using h0)]
    by_cases h1 : 1024 < (numC ⟨A, 0⟩ top).1
    · rw [if_pos (by dsimp only; omega)]
      have hf : failC (numC ⟨A, 0⟩ top).2 4 = ⟨[], 4⟩ := by unfold failC; rw [if_pos ⟨h0, by decide⟩]
      rw [hf]
      have ht : takeS ⟨1024, A, false, 0, v, 0⟩ ⟨[], 4⟩ = ⟨1024, A, false, 0, v, 4⟩ := by
        unfold takeS
        rw [if_neg (by decide), if_neg (by decide)]
        unfold failS
        rw [if_pos rfl]
      dsimp only
      rw [ht]
      exact ⟨⟨rfl, .inl ⟨(show (4 : Int) ≠ 0 by decide), rfl, bad_many h0 h1, .inl rfl⟩⟩, rfl⟩
    · rw [if_neg (by dsimp only; omega)]
      have ht : takeS ⟨1024, A, true, ((numC ⟨A, 0⟩ top).1 : Int), v, 0⟩ (numC ⟨A, 0⟩ top).2 = ⟨1024, (numC ⟨A, 0⟩ top).2.b, true, ((numC ⟨A, 0⟩ top).1 : Int), v, 0⟩ := by
        unfold takeS
        rw [if_pos h0]
      dsimp only
      rw [ht, h0]
      exact ⟨⟨rfl, .inr (.inr ⟨rfl, rfl, _, Part.new h0 h1, by simp, fun e => by cases e⟩)⟩, rfl⟩
  · rw [if_pos (by simpa using h0)]
    have hb : ((numC ⟨A, 0⟩ top).2.e == 0) = false := by simpa using h0
    dsimp only
    rw [hb]
    by_cases h1 : (numC ⟨A, 0⟩ top).2.e = 1
    · have ht : takeS ⟨1024, A, false, 0, v, 0⟩ (numC ⟨A, 0⟩ top).2 = ⟨1024, A, false, 0, v, 0⟩ := by
        unfold takeS
        rw [if_neg h0, if_pos h1]
      rw [ht]
      exact ⟨⟨rfl, .inr (.inl ⟨rfl, rfl, rfl, rfl, rfl, rfl, h1⟩)⟩, rfl⟩
    · have ht : takeS ⟨1024, A, false, 0, v, 0⟩ (numC ⟨A, 0⟩ top).2 = ⟨1024, A, false, 0, v, (numC ⟨A, 0⟩ top).2.e⟩ := by
        unfold takeS
        rw [if_neg h0, if_neg h1]
        unfold failS
        rw [if_pos rfl]
      rw [ht]
      exact ⟨⟨rfl, .inl ⟨h0, rfl, bad_num h0 h1, .inl rfl⟩⟩, rfl⟩
/-- a step is taken -/
theorem lop_step {A r : List UInt8} {K k : Nat} {n : Int} {v : Value} {ts : List Tr} {s' : Stm.St} {W : World} (hp : Part A K (ts.map Tr.ho) r) (hn : n = (K : Int) - ((ts.map Tr.ho).length : Int)) (h0 : 0 < n)
    (hq : StepQ k ⟨1024, r, true, n, v, 0⟩ ts s' W) : ∃ ts', RW (k + 1) W (takeS s' (stepC ⟨r, 0⟩).2).l ts' ∧ Lop A (takeS s' (stepC ⟨r, 0⟩).2) (ts'.map Tr.ho) ((stepC ⟨r, 0⟩).2.e == 0) ∧
      (((stepC ⟨r, 0⟩).2.e = 0 ∧ (takeS s' (stepC ⟨r, 0⟩).2).n = n - 1) ∨ ((stepC ⟨r, 0⟩).2.e ≠ 0 ∧ (takeS s' (stepC ⟨r, 0⟩).2).n = n)) := by
  have hlt : (ts.map Tr.ho).length < K := by omega
  obtain ⟨ts', h1, h2⟩ := hq
  refine ⟨ts', ?_⟩
  rcases h2 with ⟨he, rfl, rfl⟩ | ⟨he, hs, hl⟩
  · dsimp only at he
    have hb : ((stepC ⟨r, 0⟩).2.e == 0) = false := by simpa using he
    rw [hb]
    by_cases h1' : (stepC ⟨r, 0⟩).2.e = 1
    · have ht : takeS ⟨1024, r, true, n, v, 0⟩ (stepC ⟨r, 0⟩).2 = ⟨1024, r, true, n, v, 0⟩ := by
        unfold takeS
        rw [if_neg he, if_pos h1']
      rw [ht]
      exact ⟨h1, ⟨rfl, .inr (.inr ⟨rfl, rfl, K, hp, hn, fun _ => ⟨hlt, h1'⟩⟩)⟩, .inr ⟨he, rfl⟩⟩
    · have ht : takeS ⟨1024, r, true, n, v, 0⟩ (stepC ⟨r, 0⟩).2 = ⟨1024, r, true, n, v, (stepC ⟨r, 0⟩).2.e⟩ := by
        unfold takeS
        rw [if_neg he, if_neg h1']
        unfold failS
        rw [if_pos rfl]
      rw [ht]
      exact ⟨h1, ⟨rfl, .inl ⟨he, rfl, hp.bad hlt he h1', .inr h0⟩⟩, .inr ⟨he, rfl⟩⟩
  · dsimp only at he hs
    obtain ⟨m', r', g', n', l', e'⟩ := s'
    simp only [Stm.St.mk.injEq] at hs
    obtain ⟨rfl, rfl, rfl, rfl, -, rfl⟩ := hs
    have ht : takeS ⟨1024, r', true, n - 1, l', 0⟩ (stepC ⟨r', 0⟩).2 = ⟨1024, (stepC ⟨r', 0⟩).2.b, true, n - 1, l', 0⟩ := by
      unfold takeS
      rw [if_pos he]
    rw [ht, hl]
    refine ⟨h1, ⟨rfl, .inr (.inr ⟨rfl, rfl, K, hp.step hlt he, ?_, fun e => ?_⟩)⟩, .inl ⟨he, rfl⟩⟩
    · rw [List.length_append, List.length_singleton]
      dsimp only
      omega
    · rw [he] at e
      cases e
/-- more bytes -/
theorem lop_more {A : List UInt8} {r : List UInt8} {n : Int} {v : Value} {l : List HO} (b : List UInt8) {K : Nat} (hp : Part A K l r) (hn : n = (K : Int) - (l.length : Int)) : Lop (A ++ b) ⟨1024, r ++ b, true, n, v, 0⟩ l true :=
  ⟨rfl, .inr (.inr ⟨rfl, rfl, K, hp.more b, hn, fun e => by cases e⟩)⟩
/-- what the whole comes to -/
theorem Inv.dec {A : List UInt8} {s : Stm.St} {l : List HO} (h : Inv A s l) : (s.e ≠ 0 ∧ decP A = ([], s.e) ∧ wholeS s = false) ∨ (s.e = 0 ∧ wholeS s = false ∧ decP A = ([], 1)) ∨ (s.e = 0 ∧ wholeS s = true ∧ decP A = (l, 0)) := by
  obtain ⟨hm, ⟨he, hb⟩ | ⟨he, hg, hr, hn, hl, hne⟩ | ⟨he, hg, K, hp, hn, hq⟩⟩ := h
  · refine .inl ⟨he, by have := hb.2 []; rwa [List.append_nil] at this, ?_⟩
    unfold wholeS
    rw [show (s.e == 0) = false by simpa using he, Bool.false_and]
  · refine .inr (.inl ⟨he, ?_, ?_⟩)
    · unfold wholeS
      rw [hg, Bool.false_and, Bool.and_false]
    · rw [dec_num (by rw [hne]; decide), hne]
  · rcases hq with ⟨h1, h2⟩ | ⟨h1, h2⟩
    · refine .inr (.inr ⟨he, ?_, ?_⟩)
      · unfold wholeS
        rw [he, hg, show s.n = 0 by omega]
        rfl
      · rw [h2] at hp
        exact hp.whole h1
    · refine .inr (.inl ⟨he, ?_, hp.short h1 h2⟩)
      unfold wholeS
      rw [show (s.n == 0) = false by simp; omega, Bool.and_false, Bool.and_false]
theorem inv0 (v : Value) : Inv [] ⟨1024, [], false, 0, v, 0⟩ [] := ⟨rfl, .inr (.inl ⟨rfl, rfl, rfl, rfl, rfl, num_nil⟩)⟩
end Go.Proofs.Ytcaocnlchfbeaaa.Stm
