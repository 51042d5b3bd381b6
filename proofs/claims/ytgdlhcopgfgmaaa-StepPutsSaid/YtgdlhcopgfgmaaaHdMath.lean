/- Plain laws on a header's bytes. No condition. -/
import Derived.Test.YtgdlhcopgfgmaaaWdMath
import Derived.Test.YtgdlhcopgfgmaaaCurMath
namespace Go.Proofs.Ytgdlhcopgfgmaaa.Hd
open Go.RowKit Go.Proofs.Ytgdlhcopgfgmaaa.Wd Go.Proofs.Ytgdlhcopgfgmaaa.Cur
structure Hd where
  ht : Nat
  ln : List UInt8
  tx : List UInt8
  no : Nat
/-- a header that can be -/
def Hd.Ok (h : Hd) : Prop := h.ht < 4294967296 ∧ h.ln.length = 32 ∧ h.tx.length = 32 ∧ h.no < 18446744073709551616
def Hd.b (h : Hd) : List UInt8 := beL 4 h.ht ++ (h.ln ++ (h.tx ++ beL 8 h.no))
def hd0 : Hd := ⟨0, List.replicate 32 0, List.replicate 32 0, 0⟩
theorem hd0_ok : hd0.Ok := ⟨by decide, by simp [hd0], by simp [hd0], by decide⟩
def Hd.of (l : List UInt8) : Hd := ⟨beN ((l.drop 0).take 4), (l.drop 4).take 32, (l.drop 36).take 32, beN ((l.drop 68).take 8)⟩
theorem Hd.b_len (h : Hd) (k : h.Ok) : h.b.length = 76 := by
  unfold Hd.b
  simp only [List.length_append, beL_len, k.2.1, k.2.2.1]
theorem Hd.of_ok (l : List UInt8) (h : l.length = 76) : (Hd.of l).Ok := by
  refine ⟨?_, ?_, ?_, ?_⟩
  · exact Nat.lt_of_lt_of_le (beN_lt _) (Nat.le_trans (Nat.pow_le_pow_right (by decide) (by rw [List.length_take]; exact Nat.min_le_left 4 _)) (by decide))
  · simp [Hd.of, h]
  · simp [Hd.of, h]
  · exact beN_lt64 _ (by rw [List.length_take]; exact Nat.min_le_left 8 _)
theorem Hd.of_b (h : Hd) (k : h.Ok) : Hd.of h.b = h := by
  obtain ⟨a, l, t, n⟩ := h
  obtain ⟨h1, h2, h3, h4⟩ := k
  simp only at h1 h2 h3 h4
  unfold Hd.of Hd.b
  simp only
  have e1 : (beL 4 a ++ (l ++ (t ++ beL 8 n))).take 4 = beL 4 a := by rw [List.take_left' (beL_len 4 a)]
  have e2 : (beL 4 a ++ (l ++ (t ++ beL 8 n))).drop 4 = l ++ (t ++ beL 8 n) := by rw [List.drop_left' (beL_len 4 a)]
  have e3 : (beL 4 a ++ (l ++ (t ++ beL 8 n))).drop 36 = t ++ beL 8 n := by
    rw [show 36 = 4 + 32 from rfl, ← List.drop_drop, e2, List.drop_left' h2]
  have e4 : (beL 4 a ++ (l ++ (t ++ beL 8 n))).drop 68 = beL 8 n := by
    rw [show 68 = 36 + 32 from rfl, ← List.drop_drop, e3, List.drop_left' h3]
  rw [List.drop_zero, e1, e2, e3, e4, beN_beL 4 a h1, List.take_left' h2, List.take_left' h3, List.take_of_length_le (by rw [beL_len]; exact Nat.le_refl _), beN_beL 8 n h4]
theorem Hd.b_of (l : List UInt8) (h : l.length = 76) : (Hd.of l).b = l := by
  unfold Hd.of Hd.b
  simp only
  have e1 := beL_beN ((l.drop 0).take 4)
  have e2 := beL_beN ((l.drop 68).take 8)
  rw [show ((l.drop 0).take 4).length = 4 by simp [h]] at e1
  rw [show ((l.drop 68).take 8).length = 8 by simp [h]] at e2
  rw [e1, e2, List.drop_zero]
  have a1 : (l.drop 68).take 8 = l.drop 68 := List.take_of_length_le (by simp [h])
  have a2 : (l.drop 36).take 32 ++ l.drop 68 = l.drop 36 := by
    rw [show l.drop 68 = (l.drop 36).drop 32 by rw [List.drop_drop], List.take_append_drop]
  have a3 : (l.drop 4).take 32 ++ l.drop 36 = l.drop 4 := by
    rw [show l.drop 36 = (l.drop 4).drop 32 by rw [List.drop_drop], List.take_append_drop]
  rw [a1, a2, a3, List.take_append_drop]
/-- what is taken as a header -/
def getC (c : C) : Hd × C := (if (rawC c 76).1 = [] then hd0 else Hd.of (rawC c 76).1, (rawC c 76).2)
theorem raw76 (c : C) : (rawC c 76).1 = [] ∨ (rawC c 76).1.length = 76 := by
  unfold rawC
  split
  · exact .inl rfl
  split
  · exact .inl rfl
  split
  · exact .inl rfl
  · exact .inr (by simp; omega)
theorem getC_ok (c : C) : (getC c).1.Ok := by
  unfold getC
  simp only
  split
  · exact hd0_ok
  · rename_i h
    exact Hd.of_ok _ ((raw76 c).resolve_left h)
end Go.Proofs.Ytgdlhcopgfgmaaa.Hd
