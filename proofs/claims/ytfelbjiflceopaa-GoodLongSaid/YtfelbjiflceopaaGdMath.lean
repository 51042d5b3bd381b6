/- Plain laws of chapter 39: local, super and multilevel quality. No condition. -/
import Derived.Test.YtfelbjiflceopaaRtMath
import Derived.Test.YtfelbjiflceopaaUp
namespace Go.Proofs.Ytfelbjiflceopaa.Gd
open Go.RowKit Go.Proofs.Ytfelbjiflceopaa.Mk Go.Proofs.Ytfelbjiflceopaa.Ul Go.Proofs.Ytfelbjiflceopaa.Lg Go.Proofs.Ytfelbjiflceopaa.Up Go.Proofs.Ytfelbjiflceopaa.Rt
/-- are so many of a level enough? -/
def locS (n d level a b : Int) : Bool := decide (0 ≤ n) && (decide (0 ≤ d) && (decide (n ≤ 1024) && (decide (d ≤ 1024) && aboveR n.toNat d.toNat level a b)))
/-- how many of a level stand ahead of a place -/
def ahd (zs : List Int) (level : Int) (k : Nat) : Nat := (plc zs level k).length
theorem ahd_yes {zs : List Int} {level : Int} {k : Nat} (h : level ≤ zs[k]?.getD 0) : ahd zs level (k + 1) = ahd zs level k + 1 := by
  unfold ahd; rw [plc_yes h]; simp
theorem ahd_no {zs : List Int} {level : Int} {k : Nat} (h : ¬ level ≤ zs[k]?.getD 0) : ahd zs level (k + 1) = ahd zs level k := by
  unfold ahd; rw [plc_no h]
theorem ahd_mono (zs : List Int) (level : Int) {k n : Nat} (h : k ≤ n) : ahd zs level k ≤ ahd zs level n := (plc_pre zs level h).length_le
theorem ahd_le (zs : List Int) (level : Int) (k : Nat) : ahd zs level k ≤ k := plc_len _ _ _
/-- where the places stand in their list -/
theorem plc_at (zs : List Int) (level : Int) : ∀ (k j : Nat), j < ahd zs level k → ∃ i, i < k ∧ level ≤ zs[i]?.getD 0 ∧ ahd zs level i = j ∧ (plc zs level k)[j]? = some i
  | 0, j, h => by simp [ahd, plc_zero] at h
  | k + 1, j, h => by
    by_cases hc : level ≤ zs[k]?.getD 0
    · rw [ahd_yes hc] at h
      by_cases hj : j < ahd zs level k
      · obtain ⟨i, h1, h2, h3, h4⟩ := plc_at zs level k j hj
        exact ⟨i, by omega, h2, h3, by rw [plc_yes hc, List.getElem?_append_left hj]; exact h4⟩
      · refine ⟨k, by omega, hc, by omega, ?_⟩
        rw [plc_yes hc, List.getElem?_append_right (show (plc zs level k).length ≤ j from by unfold ahd at hj; omega)]
        rw [show j - (plc zs level k).length = 0 from by unfold ahd at h hj; omega]
        rfl
    · rw [ahd_no hc] at h
      obtain ⟨i, h1, h2, h3, h4⟩ := plc_at zs level k j h
      exact ⟨i, by omega, h2, h3, by rw [plc_no hc]; exact h4⟩
theorem plc_of {zs : List Int} {level : Int} {i k : Nat} (h : i < k) (hc : level ≤ zs[i]?.getD 0) : (plc zs level k)[ahd zs level i]? = some i := by
  obtain ⟨t, ht⟩ := plc_pre zs level (show i + 1 ≤ k from h)
  show (plc zs level k)[(plc zs level i).length]? = some i
  rw [← ht, plc_yes hc, List.append_assoc, List.getElem?_append_right (Nat.le_refl _)]
  simp
/-- how many stand in an end -/
theorem cnt_drop (zs : List Int) (level : Int) (i : Nat) : ∀ d, ahd (zs.drop i) level d + ahd zs level i = ahd zs level (i + d)
  | 0 => by simp [ahd, plc_zero]
  | d + 1 => by
    have ih := cnt_drop zs level i d
    have e : (zs.drop i)[d]?.getD 0 = zs[i + d]?.getD 0 := by rw [List.getElem?_drop]
    by_cases hc : level ≤ zs[i + d]?.getD 0
    · rw [ahd_yes (by rw [e]; exact hc), show i + (d + 1) = i + d + 1 from rfl, ahd_yes hc]; omega
    · rw [ahd_no (by rw [e]; exact hc), show i + (d + 1) = i + d + 1 from rfl, ahd_no hc]; omega
theorem cnt_ahd (zs : List Int) (level : Int) : cnt zs level = ahd zs level zs.length := rfl
theorem cnt_end (zs : List Int) (level : Int) {i : Nat} (h : i ≤ zs.length) : cnt (zs.drop i) level + ahd zs level i = cnt zs level := by
  have := cnt_drop zs level i (zs.length - i)
  rw [cnt_ahd, cnt_ahd, List.length_drop, this]
  congr 1
  omega
/-- the place of the n-th one from the end -/
def plcE (zs : List Int) (level : Int) (n : Nat) : Nat := (plc zs level zs.length)[cnt zs level - n]?.getD 0
theorem plcE_lt {zs : List Int} {level : Int} {n : Nat} (h1 : 1 ≤ n) (h : n ≤ cnt zs level) : plcE zs level n < zs.length := by
  obtain ⟨i, h1, _, _, h4⟩ := plc_at zs level zs.length (cnt zs level - n) (by rw [← cnt_ahd]; omega)
  unfold plcE
  rw [h4]
  exact h1
def supP (zs : List Int) (level m a b : Int) : Prop := zs.length ≤ 1024 ∧ ∀ n : Nat, max m 1 ≤ (n : Int) → n ≤ cnt zs level → locS (n : Int) (((zs.length - plcE zs level n : Nat)) : Int) level a b = true
def supR (zs : List Int) (level m a b : Int) : Prop := zs.length ≤ 1024 ∧ ∀ i : Nat, i < zs.length → level ≤ zs[i]?.getD 0 → max m 1 ≤ (cnt (zs.drop i) level : Int) → locS (cnt (zs.drop i) level : Int) (((zs.length - i : Nat)) : Int) level a b = true
theorem sup_iff {zs : List Int} {level m a b : Int} : supP zs level m a b ↔ supR zs level m a b := by
  unfold supP supR
  refine and_congr_right fun _ => ⟨fun h i hi hc hm => ?_, fun h n hm hn => ?_⟩
  · have e := cnt_end zs level (Nat.le_of_lt hi)
    have := h (cnt (zs.drop i) level) hm (by omega)
    rw [show plcE zs level (cnt (zs.drop i) level) = i from by
      unfold plcE
      rw [show cnt zs level - cnt (zs.drop i) level = ahd zs level i from by omega, plc_of hi hc]; rfl] at this
    exact this
  · have h1 : 1 ≤ n := by omega
    obtain ⟨i, hi, hc, ha, hp⟩ := plc_at zs level zs.length (cnt zs level - n) (by rw [← cnt_ahd]; omega)
    have e := cnt_end zs level (Nat.le_of_lt hi)
    have hn2 : cnt (zs.drop i) level = n := by omega
    have := h i hi hc (by rw [hn2]; exact hm)
    rw [hn2] at this
    rw [show plcE zs level n = i from by unfold plcE; rw [hp]; rfl]
    exact this
noncomputable def supS (zs : List Int) (level m a b : Int) : Bool := @decide (supP zs level m a b) (Classical.propDecidable _)
theorem supS_true {zs : List Int} {level m a b : Int} (h : supP zs level m a b) : supS zs level m a b = true := by unfold supS; exact @decide_eq_true _ (Classical.propDecidable _) h
theorem supS_false {zs : List Int} {level m a b : Int} (h : ¬ supP zs level m a b) : supS zs level m a b = false := by unfold supS; exact @decide_eq_false _ (Classical.propDecidable _) h
theorem supS_iff {zs : List Int} {level m a b : Int} : supS zs level m a b = true ↔ supP zs level m a b := by unfold supS; exact @decide_eq_true_iff _ (Classical.propDecidable _)
theorem sup_grows {zs : List Int} {level m m' a b : Int} (hm : m ≤ m') (h : supS zs level m a b = true) : supS zs level m' a b = true := by
  rw [supS_iff] at *
  exact ⟨h.1, fun n h1 h2 => h.2 n (by omega) h2⟩
theorem sup_few {zs : List Int} {level m a b : Int} (hl : zs.length ≤ 1024) (hm : (cnt zs level : Int) < m) : supS zs level m a b = true :=
  supS_true ⟨hl, fun n h1 h2 => absurd h1 (by omega)⟩
/-- one stretch of multilevel quality -/
def strP (zs : List Int) (level l m a b : Int) : Prop := ∀ i k : Nat, i < k → k ≤ zs.length → max m 1 ≤ ((ahd zs l k - ahd zs l i : Nat) : Int) → leastR (ahd zs level k - ahd zs level i) (ahd zs l k - ahd zs l i) (level - l) a b = true
def mulP (zs : List Int) (level m a b : Int) : Prop := zs.length ≤ 1024 ∧ level ≤ 255 ∧ ∀ l : Nat, (l : Int) < level → strP zs level l m a b
noncomputable def strS (zs : List Int) (level l m a b : Int) : Bool := @decide (strP zs level l m a b) (Classical.propDecidable _)
theorem strS_iff {zs : List Int} {level l m a b : Int} : strS zs level l m a b = true ↔ strP zs level l m a b := by unfold strS; exact @decide_eq_true_iff _ (Classical.propDecidable _)
theorem strS_true {zs : List Int} {level l m a b : Int} (h : strP zs level l m a b) : strS zs level l m a b = true := strS_iff.2 h
theorem strS_false {zs : List Int} {level l m a b : Int} (h : ¬ strP zs level l m a b) : strS zs level l m a b = false := by rw [← Bool.not_eq_true, strS_iff]; exact h
noncomputable def mulS (zs : List Int) (level m a b : Int) : Bool := @decide (mulP zs level m a b) (Classical.propDecidable _)
theorem mulS_iff {zs : List Int} {level m a b : Int} : mulS zs level m a b = true ↔ mulP zs level m a b := by unfold mulS; exact @decide_eq_true_iff _ (Classical.propDecidable _)
theorem mulS_true {zs : List Int} {level m a b : Int} (h : mulP zs level m a b) : mulS zs level m a b = true := mulS_iff.2 h
theorem mulS_false {zs : List Int} {level m a b : Int} (h : ¬ mulP zs level m a b) : mulS zs level m a b = false := by rw [← Bool.not_eq_true, mulS_iff]; exact h
theorem mul_grows {zs : List Int} {level m m' a b : Int} (hm : m ≤ m') (h : mulS zs level m a b = true) : mulS zs level m' a b = true := by
  rw [mulS_iff] at *
  exact ⟨h.1, h.2.1, fun l hl i k h1 h2 h3 => h.2.2 l hl i k h1 h2 (by omega)⟩
/-- chapter 39's example -/
theorem sup_ex : supS [0, 0, 0] 0 1 1 2 = true := by
  refine supS_true ⟨by decide, fun n h1 h2 => ?_⟩
  have h3 : n ≤ 3 := Nat.le_trans h2 (by decide)
  have h4 : n = 1 ∨ n = 2 ∨ n = 3 := by omega
  rcases h4 with rfl | rfl | rfl <;> decide +kernel
theorem mul_ex : mulS [0, 0, 0] 0 1 1 2 = true := mulS_true ⟨by decide, by decide, fun l hl => absurd hl (by omega)⟩
theorem loc_ex : locS 1 2 0 1 2 = false := by decide +kernel
theorem sup_long {zs : List Int} {level m a b : Int} (h : 1024 < zs.length) : supS zs level m a b = false := supS_false fun k => by have := k.1; omega
theorem mul_long {zs : List Int} {level m a b : Int} (h : 1024 < zs.length) : mulS zs level m a b = false := mulS_false fun k => by have := k.1; omega
end Go.Proofs.Ytfelbjiflceopaa.Gd
