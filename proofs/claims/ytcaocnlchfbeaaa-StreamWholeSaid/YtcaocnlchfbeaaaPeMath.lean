/- Plain laws: a proof's bytes. No condition. -/
import Derived.Test.YtcaocnlchfbeaaaPfMath
namespace Go.Proofs.Ytcaocnlchfbeaaa.Pf
open Go.RowKit Go.Proofs.Ytcaocnlchfbeaaa.Op Go.Proofs.Ytcaocnlchfbeaaa.Hd Go.Proofs.Ytcaocnlchfbeaaa.St Go.Proofs.Ytcaocnlchfbeaaa.Cur Go.Proofs.Ytcaocnlchfbeaaa.Stp Go.Proofs.Ytcaocnlchfbeaaa.Tk
def cmb (p : List UInt8) (x : List UInt8 × Int) : List UInt8 × Int := if x.2 ≠ 0 then ([], x.2) else (p ++ x.1, 0)
/-- the steps' bytes, or the first error -/
def bytesP : List HO → List UInt8 × Int
  | [] => ([], 0)
  | a :: l => if (stepB a.1 a.2).2 ≠ 0 then ([], (stepB a.1 a.2).2) else cmb (stepB a.1 a.2).1 (bytesP l)
/-- a proof's bytes, or why there are none -/
def encP (l : List HO) : List UInt8 × Int := if 1024 < l.length then ([], 4) else cmb (Num.putL l.length) (bytesP l)
theorem cmb_cmb (p q : List UInt8) (x : List UInt8 × Int) : cmb p (cmb q x) = cmb (p ++ q) x := by
  unfold cmb
  by_cases h : x.2 = 0
  · simp [h]
  · simp [h]
theorem cmb_nil (x : List UInt8 × Int) (h : x.2 ≠ 0 → x.1 = []) : cmb [] x = x := by
  unfold cmb
  by_cases h0 : x.2 = 0
  · rw [if_neg (by simpa using h0)]
    ext1 <;> simp [h0]
  · rw [if_pos h0]
    ext1 <;> simp [h h0]
theorem bytes_no : ∀ (l : List HO), (bytesP l).2 ≠ 0 → (bytesP l).1 = []
  | [], h => absurd rfl h
  | a :: l, h => by
    unfold bytesP at *
    split
    · rfl
    · rename_i h1
      rw [if_neg h1] at h
      unfold cmb at *
      split
      · rfl
      · rename_i h2
        rw [if_neg h2] at h
        exact absurd rfl h
theorem bytes_at {l : List HO} {k : Nat} (h : k < l.length) : bytesP (l.drop k) = if (stepB l[k].1 l[k].2).2 ≠ 0 then ([], (stepB l[k].1 l[k].2).2) else cmb (stepB l[k].1 l[k].2).1 (bytesP (l.drop (k + 1))) := by
  rw [List.drop_eq_getElem_cons h]
  rfl
theorem stepB_no {h : Hd} {o : Opn} (e : (stepB h o).2 ≠ 0) : (stepB h o).1 = [] := by
  unfold stepB at *
  split
  · rfl
  · rename_i h1
    rw [if_neg h1] at e
    exact absurd rfl e
theorem stepB_le (h : Hd) (o : Opn) (kh : h.Ok) (ok : OOk o) : (stepB h o).1.length ≤ 2176 := by
  have h1 := openB_len o ok
  have h2 := h.b_len kh
  unfold stepB
  split
  · simp
  · simp only [List.length_append]; omega
/-- what the rounds of Put know behind one more step -/
theorem bytes_more {l : List HO} {k : Nat} {p : List UInt8} (hk : k < l.length) (h : bytesP l = cmb p (bytesP (l.drop k))) (he : (stepB l[k].1 l[k].2).2 = 0) : bytesP l = cmb (p ++ (stepB l[k].1 l[k].2).1) (bytesP (l.drop (k + 1))) := by
  rw [h, bytes_at hk, if_neg (by simpa using he), cmb_cmb]
theorem bytes_stop {l : List HO} {k : Nat} {p : List UInt8} (hk : k < l.length) (h : bytesP l = cmb p (bytesP (l.drop k))) (he : (stepB l[k].1 l[k].2).2 ≠ 0) : bytesP l = ([], (stepB l[k].1 l[k].2).2) := by
  rw [h, bytes_at hk, if_pos he]
  exact if_pos he
theorem encP_stop {l : List HO} {e : Int} (hm : ¬ 1024 < l.length) (h : bytesP l = ([], e)) (he : e ≠ 0) : encP l = ([], e) := by
  unfold encP
  rw [if_neg hm, h]
  exact if_pos he
theorem encP_done {l : List HO} {p : List UInt8} (hm : ¬ 1024 < l.length) (h : bytesP l = cmb p (bytesP (l.drop l.length))) : encP l = (Num.putL l.length ++ p, 0) := by
  unfold encP
  rw [if_neg hm, h, cmb_cmb, List.drop_length]
  unfold cmb bytesP
  simp
end Go.Proofs.Ytcaocnlchfbeaaa.Pf
