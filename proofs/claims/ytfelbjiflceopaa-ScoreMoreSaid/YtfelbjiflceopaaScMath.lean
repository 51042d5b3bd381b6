/- Plain laws of chapter 41: what is argued by a level, and the best argument. No condition. -/
import Derived.Test.YtfelbjiflceopaaLgMath
import Derived.Test.YtfelbjiflceopaaUp
namespace Go.Proofs.Ytfelbjiflceopaa.Sc
open Go.RowKit Go.Proofs.Ytfelbjiflceopaa.Mk Go.Proofs.Ytfelbjiflceopaa.Ul Go.Proofs.Ytfelbjiflceopaa.Wi Go.Proofs.Ytfelbjiflceopaa.Lg Go.Proofs.Ytfelbjiflceopaa.Up
def lvl (l : Int) : Bool := decide (0 ≤ l ∧ l ≤ 255)
theorem lvl_iff {l : Int} : lvl l = true ↔ 0 ≤ l ∧ l ≤ 255 := decide_eq_true_iff
def valS (zs : List Int) (l : Int) : Nat := if lvl l = true then cnt zs l * 2 ^ l.toNat else 0
def mayS (zs : List Int) (l m : Int) : Bool := (l == 0) || (decide (0 < l) && (decide (l ≤ 255) && decide (m ≤ (cnt zs l : Int))))
theorem val_lt {c u : Nat} (hc : c ≤ 140737488355328) (hu : u ≤ 255) : c * 2 ^ u < (2 ^ 64) ^ 5 := by
  have h2 : 2 ^ u ≤ 2 ^ 255 := Nat.pow_le_pow_right (by decide) hu
  exact Nat.lt_of_le_of_lt (Nat.mul_le_mul hc h2) (by decide)
theorem valS_lt {zs : List Int} (l : Int) (h : zs.length ≤ 140737488355328) : valS zs l < (2 ^ 64) ^ 5 := by
  unfold valS
  split
  · rename_i hl
    have := lvl_iff.1 hl
    exact val_lt (Nat.le_trans (cnt_le zs l) h) (by omega)
  · exact Nat.pow_pos (by decide)
/-- the best of the first k levels -/
def bst (zs : List Int) (m : Int) : Nat → Nat × Nat
  | 0 => (0, 0)
  | k + 1 => if mayS zs k m = true ∧ (bst zs m k).1 < valS zs k then (valS zs k, k) else bst zs m k
theorem bst_lt {zs : List Int} (m : Int) (h : zs.length ≤ 140737488355328) : ∀ k, (bst zs m k).1 < (2 ^ 64) ^ 5
  | 0 => Nat.pow_pos (by decide)
  | k + 1 => by
    unfold bst
    split
    · exact valS_lt k h
    · exact bst_lt m h k
theorem bst_lv (zs : List Int) (m : Int) : ∀ k, (bst zs m k).2 ≤ k
  | 0 => Nat.le_refl _
  | k + 1 => by
    unfold bst
    split
    · exact Nat.le_succ _
    · exact Nat.le_succ_of_le (bst_lv zs m k)
/-- no level ahead argues more -/
theorem bst_ge {zs : List Int} {m : Int} : ∀ {k l : Nat}, l < k → mayS zs l m = true → valS zs l ≤ (bst zs m k).1
  | k + 1, l, h, hm => by
    unfold bst
    by_cases e : l = k
    · subst e
      split
      · exact Nat.le_refl _
      · rename_i hn
        have : ¬ (bst zs m l).1 < valS zs l := fun x => hn ⟨hm, x⟩
        omega
    · have ih := bst_ge (k := k) (l := l) (by omega) hm
      split
      · rename_i hy
        omega
      · exact ih
/-- the best is nothing, or what some level argues -/
theorem bst_is (zs : List Int) (m : Int) : ∀ k, (bst zs m k).1 = 0 ∨ ∃ l, l < k ∧ mayS zs l m = true ∧ (bst zs m k).1 = valS zs l
  | 0 => .inl rfl
  | k + 1 => by
    unfold bst
    split
    · rename_i hy
      exact .inr ⟨k, by omega, hy.1, rfl⟩
    · rcases bst_is zs m k with h | ⟨l, h1, h2, h3⟩
      · exact .inl h
      · exact .inr ⟨l, by omega, h2, h3⟩
theorem plc_append (xs ys : List Int) (l : Int) : cnt xs l ≤ cnt (xs ++ ys) l := by
  unfold cnt
  have e : plc xs l xs.length = plc (xs ++ ys) l xs.length := by
    unfold plc
    apply List.filter_congr
    intro i hi
    rw [List.getElem?_append_left (List.mem_range.1 hi)]
  rw [e]
  exact (plc_pre _ _ (by simp)).length_le
theorem mayS_append {xs ys : List Int} {l m : Int} (h : mayS xs l m = true) : mayS (xs ++ ys) l m = true := by
  have := plc_append xs ys l
  unfold mayS at *
  simp only [Bool.or_eq_true, Bool.and_eq_true, decide_eq_true_eq, beq_iff_eq] at *
  rcases h with h | h
  · exact .inl h
  · exact .inr ⟨h.1, h.2.1, by omega⟩
theorem mayS_anti {xs : List Int} {l m m' : Int} (hm : m ≤ m') (h : mayS xs l m' = true) : mayS xs l m = true := by
  unfold mayS at *
  simp only [Bool.or_eq_true, Bool.and_eq_true, decide_eq_true_eq, beq_iff_eq] at *
  rcases h with h | h
  · exact .inl h
  · exact .inr ⟨h.1, h.2.1, by omega⟩
theorem valS_append (xs ys : List Int) (l : Int) : valS xs l ≤ valS (xs ++ ys) l := by
  unfold valS
  split
  · exact Nat.mul_le_mul_right _ (plc_append xs ys l)
  · exact Nat.le_refl _
theorem best_append (xs ys : List Int) (m : Int) (k : Nat) : (bst xs m k).1 ≤ (bst (xs ++ ys) m k).1 := by
  rcases bst_is xs m k with h | ⟨l, h1, h2, h3⟩
  · omega
  · rw [h3]
    exact Nat.le_trans (valS_append xs ys l) (bst_ge h1 (mayS_append h2))
theorem best_anti {xs : List Int} {m m' : Int} (hm : m ≤ m') (k : Nat) : (bst xs m' k).1 ≤ (bst xs m k).1 := by
  rcases bst_is xs m' k with h | ⟨l, h1, h2, h3⟩
  · omega
  · rw [h3]
    exact bst_ge h1 (mayS_anti hm h2)
theorem may_lvl {zs : List Int} {l m : Int} (h : mayS zs l m = true) : 0 ≤ l ∧ l ≤ 255 := by
  unfold mayS at h
  simp only [Bool.or_eq_true, Bool.and_eq_true, decide_eq_true_eq, beq_iff_eq] at h
  rcases h with h | h
  · omega
  · omega
theorem best_may {zs : List Int} {l m : Int} (h : mayS zs l m = true) : valS zs l ≤ (bst zs m 256).1 := by
  have := may_lvl h
  obtain ⟨k, rfl⟩ := Int.eq_ofNat_of_zero_le this.1
  exact bst_ge (by omega) h
end Go.Proofs.Ytfelbjiflceopaa.Sc
