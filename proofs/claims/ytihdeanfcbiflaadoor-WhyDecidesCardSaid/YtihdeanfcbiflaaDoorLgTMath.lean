/- Plain laws on decimal digits. No condition. -/
import Derived.Test.YtihdeanfcbiflaaDoorMk
import Derived.Test.YtihdeanfcbiflaaDoorRow1
namespace Go.Proofs.YtihdeanfcbiflaaDoor.Lg
open Go.RowKit Go.Proofs.YtihdeanfcbiflaaDoor.Mk
open Extern.Stop (cell)
/-- a number's decimal digits, the lowest first -/
def d10 (X : Nat) : List UInt8 := if h : X < 10 then [UInt8.ofNat (48 + X)] else UInt8.ofNat (48 + X % 10) :: d10 (X / 10)
termination_by X
decreasing_by omega
theorem d10_last {X : Nat} (h : X / 10 = 0) : d10 X = [UInt8.ofNat (48 + X % 10)] := by
  rw [d10, dif_pos (by omega), Nat.mod_eq_of_lt (by omega)]
theorem d10_more {X : Nat} (h : X / 10 ≠ 0) : d10 X = UInt8.ofNat (48 + X % 10) :: d10 (X / 10) := by rw [d10, dif_neg (by omega)]
theorem d10_pos (X : Nat) : 0 < (d10 X).length := by
  rw [d10]
  split <;> simp
theorem d10_len : ∀ (n X : Nat), X < 10 ^ (n + 1) → (d10 X).length ≤ n + 1
  | 0, X, h => by rw [d10_last (by omega)]; simp
  | n + 1, X, h => by
    by_cases h0 : X / 10 = 0
    · rw [d10_last h0]; simp
    · rw [d10_more h0, List.length_cons]
      have := d10_len n (X / 10) (by rw [Nat.div_lt_iff_lt_mul (by decide)]; rw [Nat.pow_succ] at h; exact h)
      omega
/-- its text: the highest digit first -/
def decL (X : Nat) : List UInt8 := (d10 X).reverse
/-- block g holds n bytes at least, which f tells -/
def RW (g n : Nat) (f : Nat → UInt8) (t : TypeId) (w : World) : Prop := ∃ cur : Array Value, w.heap[g]? = some (.cells cur t (0, 0)) ∧ n ≤ cur.size ∧ ∀ j, j < n → cur[j]? = some (cell (f j))
section
variable {g n : Nat} {f f' : Nat → UInt8} {t : TypeId} {w : World}
theorem RW.cell (h : RW g n f t w) {i : Nat} (hi : i < n) : w.cell? ⟨g, i, none⟩ = some (cell (f i)) := by
  obtain ⟨cur, h1, _, h3⟩ := h
  rw [cell_of_row _ _ _ _ _ _ h1]
  exact h3 i hi
theorem RW.free (h : RW g n f t w) (i : Nat) : w.frozen? ⟨g, i, none⟩ = false := by
  obtain ⟨cur, h1, _⟩ := h
  simp [World.frozen?, h1]
theorem RW.set (h : RW g n f t w) {k : Nat} (v : UInt8) (hk : k < n) : RW g n (upg f k v) t (w.setCell ⟨g, k, none⟩ (Extern.Stop.cell v)) := by
  obtain ⟨cur, h1, h2, h3⟩ := h
  refine ⟨cur.setIfInBounds k (Extern.Stop.cell v), ?_, by simpa using h2, fun j hj => ?_⟩
  · simp [World.setCell, Array.getElem?_modify, h1]
  · rw [Array.getElem?_setIfInBounds]
    unfold upg
    by_cases e : k = j
    · subst e
      rw [if_pos rfl, if_pos (by omega), if_pos rfl]
    · rw [if_neg e, if_neg (Ne.symm e)]
      exact h3 j hj
theorem RW.ext (h : RW g n f t w) (he : ∀ j, j < n → f j = f' j) : RW g n f' t w := by
  obtain ⟨cur, h1, h2, h3⟩ := h
  exact ⟨cur, h1, h2, fun j hj => by rw [← he j hj]; exact h3 j hj⟩
theorem RW.range (h : RW g n f t w) {l : List UInt8} (hl : l.length = n) (he : ∀ j (hj : j < l.length), f j = l[j]) : w.rangeAt g 0 (hc l) := fun j v hv => by
  have hj : j < l.length := by have := (List.getElem?_eq_some_iff.1 hv).1; rwa [hc_len] at this
  rw [hc, List.getElem?_map, List.getElem?_eq_getElem hj, Option.map_some] at hv
  rw [Nat.zero_add, h.cell (by omega), he j hj]
  exact hv
theorem RW.of_owns {B : Nat} {v : Value} {l : List UInt8} (h : w.ownsRow B t 1 v l.length (hc l)) (hp : 0 < l.length) : ∃ g c, v = .slice (some ⟨g, 0, none⟩) l.length c ∧ B ≤ g ∧ l.length ≤ c ∧ c ≤ maxLen ∧ RW g l.length (fun j => l.getD j 0) t w := by
  obtain ⟨h1, h2⟩ := h
  rcases h2 with ⟨_, h0⟩ | ⟨g, cap, cur, rfl, hg, hh, hn, hm, hs, ht⟩
  · omega
  · refine ⟨g, cap, rfl, hg, hn, hm, cur, hh, by omega, fun j hj => ?_⟩
    have e : (hc l)[j]? = some (Extern.Stop.cell (l.getD j 0)) := by
      rw [hc, List.getElem?_map, List.getElem?_eq_getElem hj]
      simp [List.getD_eq_getElem?_getD, List.getElem?_eq_getElem hj]
    rw [← e, ← ht, List.getElem?_take, if_pos (by omega), Array.getElem?_toList]
end
/-- the bytes behind i exchanges -/
def sw (l : List UInt8) (i : Nat) : Nat → UInt8 := fun j => if j < i ∨ l.length - i ≤ j then l.getD (l.length - 1 - j) 0 else l.getD j 0
theorem sw_zero (l : List UInt8) (j : Nat) (h : j < l.length) : l.getD j 0 = sw l 0 j := by
  unfold sw
  rw [if_neg (by omega)]
theorem sw_lo (l : List UInt8) (i : Nat) (h : 2 * i + 1 < l.length) : sw l i i = l.getD i 0 ∧ sw l i (l.length - 1 - i) = l.getD (l.length - 1 - i) 0 := by
  unfold sw
  rw [if_neg (by omega), if_neg (by omega)]
  exact ⟨rfl, rfl⟩
theorem sw_step (l : List UInt8) (i j : Nat) (h : 2 * i + 1 < l.length) (hj : j < l.length) : upg (upg (sw l i) i (l.getD (l.length - 1 - i) 0)) (l.length - 1 - i) (l.getD i 0) j = sw l (i + 1) j := by
  unfold upg sw
  by_cases h1 : j = l.length - 1 - i
  · rw [if_pos h1, if_pos (by omega), h1]
    congr 1
    omega
  · rw [if_neg h1]
    by_cases h2 : j = i
    · rw [if_pos h2, if_pos (by omega), h2]
    · rw [if_neg h2]
      by_cases h3 : j < i ∨ l.length - i ≤ j
      · rw [if_pos h3, if_pos (by omega)]
      · rw [if_neg h3, if_neg (by omega)]
theorem sw_done (l : List UInt8) (i j : Nat) (h : l.length ≤ 2 * i + 1) (hj : j < l.reverse.length) : sw l i j = l.reverse[j] := by
  have hjl : j < l.length := by simpa using hj
  rw [List.getElem_reverse]
  unfold sw
  by_cases h3 : j < i ∨ l.length - i ≤ j
  · rw [if_pos h3, List.getD_eq_getElem?_getD, List.getElem?_eq_getElem (by omega)]
    rfl
  · rw [if_neg h3, List.getD_eq_getElem?_getD, List.getElem?_eq_getElem hjl]
    have : l.length - 1 - j = j := by omega
    simp only [this]
    rfl
end Go.Proofs.YtihdeanfcbiflaaDoor.Lg
