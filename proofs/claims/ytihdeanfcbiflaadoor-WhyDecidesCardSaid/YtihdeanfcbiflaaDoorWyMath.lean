/- Plain laws of chapter 43: the verdict of a table is that of the bests. No condition. -/
import Derived.Test.YtihdeanfcbiflaaDoorBm
namespace Go.Proofs.YtihdeanfcbiflaaDoor.Wh
open Go.RowKit Go.Proofs.YtihdeanfcbiflaaDoor.Mk Go.Proofs.YtihdeanfcbiflaaDoor.Ul Go.Proofs.YtihdeanfcbiflaaDoor.Wi Go.Proofs.YtihdeanfcbiflaaDoor.Lg Go.Proofs.YtihdeanfcbiflaaDoor.Up Go.Proofs.YtihdeanfcbiflaaDoor.Sc
open Go.Proofs.YtihdeanfcbiflaaDoor.Common (lastU)
theorem mx_mem : ∀ {zs : List Int} {z : Int} (t : Int), z ∈ zs → z ≤ mx zs t
  | x :: zs, z, t, h => by
    show z ≤ mx zs (max t x)
    rcases List.mem_cons.1 h with rfl | h
    · have := mx_ge zs (max t z)
      omega
    · exact mx_mem _ h
theorem cnt_big {zs : List Int} {l : Int} (h : ∀ z ∈ zs, z < l) : cnt zs l = 0 := by
  unfold cnt plc
  rw [List.length_eq_zero_iff, List.filter_eq_nil_iff]
  intro i hi
  have hi := List.mem_range.1 hi
  have hz := h zs[i] (List.getElem_mem hi)
  rw [List.getElem?_eq_getElem hi, Option.getD_some]
  simpa using hz
theorem bst_stop {zs : List Int} {m : Int} {T : Nat} (h : ∀ z ∈ zs, z < (T : Int)) : ∀ d, bst zs m (T + d) = bst zs m T
  | 0 => rfl
  | d + 1 => by
    have e : valS zs ((T + d : Nat) : Int) = 0 := by
      unfold valS
      rw [cnt_big (fun z hz => by have := h z hz; omega)]
      simp
    rw [show T + (d + 1) = T + d + 1 from rfl, bst, if_neg (by rw [e]; omega)]
    exact bst_stop h d
theorem argV_l (xs ys : List Int) (m : Int) : ∀ T, argV (sel false) (tabL xs ys m T) 0 = (bst xs m T).1
  | 0 => rfl
  | T + 1 => by
    rw [tabL_step, argV_step, argV_l xs ys m T, bst]
    show (if mayS xs T m = true ∧ (bst xs m T).1 < valS xs T then valS xs T else (bst xs m T).1) = _
    split <;> rfl
theorem argV_r (xs ys : List Int) (m : Int) : ∀ T, argV (sel true) (tabL xs ys m T) 0 = (bst ys m T).1
  | 0 => rfl
  | T + 1 => by
    rw [tabL_step, argV_step, argV_r xs ys m T, bst]
    show (if mayS ys T m = true ∧ (bst ys m T).1 < valS ys T then valS ys T else (bst ys m T).1) = _
    split <;> rfl
theorem bst_top (xs ys : List Int) (m : Int) : bst xs m 256 = bst xs m (topN xs ys) ∧ bst ys m 256 = bst ys m (topN xs ys) := by
  have h1 := top_cast xs ys
  have h2 := top_le xs ys
  by_cases e : topN xs ys = 256
  · rw [e]
    exact ⟨rfl, rfl⟩
  · obtain ⟨d, hd⟩ : ∃ d, 256 = topN xs ys + d := ⟨256 - topN xs ys, by omega⟩
    rw [hd]
    refine ⟨bst_stop (fun z hz => ?_) d, bst_stop (fun z hz => ?_) d⟩
    · have a := mx_mem (-1) hz
      have b := mx_ge ys (mx xs (-1))
      omega
    · have a := mx_mem (mx xs (-1)) hz
      omega
/-- the duel's verdict -/
def dv (ia ib : List (List UInt8)) (za zb : List Int) (m : Int) : Int :=
  if (lastU ia ib ia.length).1 < 0 then 0 else cmpI (bst (za.drop ((lastU ia ib ia.length).1.toNat + 1)) m 256).1 (bst (zb.drop ((lastU ia ib ia.length).2.toNat + 1)) m 256).1
theorem ver_tab (ia ib : List (List UInt8)) (za zb : List Int) (m : Int) : verV (tabR ia ib za zb m) = dv ia ib za zb m := by
  unfold tabR dv verV
  split
  · exact cmpI_eq rfl
  · rw [argV_l, argV_r, ← (bst_top _ _ m).1, ← (bst_top _ _ m).2]
theorem half_ok {zs : List Int} (l m : Int) (h : zs.length ≤ 140737488355328) : (halfS zs l m).Ok := by
  have := cnt_le zs l
  refine ⟨valS_lt l h, ?_, ?_⟩
  · show ((cnt zs l : Nat) : Int) ≤ _
    omega
  · show _ ≤ ((cnt zs l : Nat) : Int)
    omega
theorem tab_ok {ia ib : List (List UInt8)} {za zb : List Int} {m : Int} (ha : za.length ≤ 140737488355328) (hb : zb.length ≤ 140737488355328) : ∀ r ∈ tabR ia ib za zb m, r.Ok := by
  intro r hr
  unfold tabR at hr
  split at hr
  · cases hr
  · generalize hx : za.drop _ = xs at hr
    generalize hy : zb.drop _ = ys at hr
    have h1 : xs.length ≤ 140737488355328 := by rw [← hx, List.length_drop]; omega
    have h2 : ys.length ≤ 140737488355328 := by rw [← hy, List.length_drop]; omega
    have h3 := top_le xs ys
    unfold tabL at hr
    obtain ⟨n, hn, rfl⟩ := List.mem_map.1 hr
    have hn := List.mem_range.1 hn
    refine ⟨half_ok _ _ h1, half_ok _ _ h2, ?_, ?_⟩
    · show (n : Int) ≤ _
      omega
    · show _ ≤ (n : Int)
      omega
end Go.Proofs.YtihdeanfcbiflaaDoor.Wh
