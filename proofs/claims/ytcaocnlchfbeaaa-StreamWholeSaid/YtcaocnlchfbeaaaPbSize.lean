/- Plain laws: how long a proof's bytes are at least; what is decoded with an error is nothing. No condition. -/
import Derived.Test.YtcaocnlchfbeaaaPbMath
namespace Go.Proofs.Ytcaocnlchfbeaaa.Pf
open Go.RowKit Go.Proofs.Ytcaocnlchfbeaaa.Op Go.Proofs.Ytcaocnlchfbeaaa.Hd Go.Proofs.Ytcaocnlchfbeaaa.St Go.Proofs.Ytcaocnlchfbeaaa.Cur Go.Proofs.Ytcaocnlchfbeaaa.Stp Go.Proofs.Ytcaocnlchfbeaaa.Tk
theorem step_ge {h : Hd} {o : Opn} {x : List UInt8} (k : h.Ok) (e : stepB h o = (x, 0)) : 77 ≤ x.length := by
  unfold stepB at e
  split at e
  · rename_i h1
    exact absurd (congrArg Prod.snd e) h1
  · rename_i h1
    have e1 : h.b ++ (openB o).1 = x := congrArg Prod.fst e
    rw [← e1, List.length_append, h.b_len k]
    have : 1 ≤ (openB o).1.length := by
      unfold openB at h1 ⊢
      split
      · exact Num.putL_pos 0
      · rename_i h2
        rw [if_neg h2] at h1
        split
        · rename_i h3
          rw [if_pos h3] at h1
          exact absurd h3 h1
        · have := Num.putL_pos o.c.toNat
          simp only [List.length_append]
          omega
    omega
theorem bytes_ge : ∀ (l : List HO) {p : List UInt8}, bytesP l = (p, 0) → (∀ a ∈ l, a.1.Ok) → l.length * 77 ≤ p.length
  | [], p, h, _ => by simp
  | a :: l, p, h, ok => by
    obtain ⟨x, y, h1, h2, rfl⟩ := bytes_cons h
    have h3 := step_ge (ok a (List.mem_cons_self ..)) h1
    have h4 := bytes_ge l h2 (fun b hb => ok b (List.mem_cons_of_mem _ hb))
    rw [List.length_cons, List.length_append]
    omega
theorem enc_ge {l : List HO} {b : List UInt8} (h : encP l = (b, 0)) (ok : ∀ a ∈ l, a.1.Ok) : l.length * 77 ≤ b.length := by
  obtain ⟨_, p, h1, rfl⟩ := encP_ok h
  have := bytes_ge l h1 ok
  rw [List.length_append]
  omega
theorem dec_bad {b : List UInt8} (h : (decP b).2 ≠ 0) : (decP b).1 = [] := by
  unfold decP at *
  split
  · rfl
  · rename_i h1
    rw [if_neg h1] at h
    exact absurd rfl h
theorem dec_oks (b : List UInt8) : ∀ a ∈ (decP b).1, a.1.Ok := by
  have h0 : ∀ (k : Nat) (c : C) (p : List HO), (∀ a ∈ p, a.1.Ok) → ∀ a ∈ (stepsC k c p).1, a.1.Ok := by
    intro k
    induction k with
    | zero => intro c p h; exact h
    | succ k ih =>
      intro c p h
      by_cases hc : c.e = 0
      · rw [steps_go hc]
        refine ih _ _ (fun a ha => ?_)
        rcases List.mem_append.1 ha with ha | ha
        · exact h a ha
        · rw [List.mem_singleton.1 ha]
          exact stepC_ok c
      · rw [steps_stop (.inr hc)]
        exact h
  unfold decP
  split
  · intro a ha; cases ha
  · unfold getP
    split
    · intro a ha; cases ha
    · exact h0 _ _ [] (fun a ha => by cases ha)
end Go.Proofs.Ytcaocnlchfbeaaa.Pf
