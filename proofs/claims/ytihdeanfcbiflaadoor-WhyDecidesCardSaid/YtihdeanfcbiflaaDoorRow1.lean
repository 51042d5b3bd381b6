/- Slices whose elements have one cell each. Over any program; no condition. -/
import Derived.Test.YtihdeanfcbiflaaDoorMk
namespace Go.Proofs.YtihdeanfcbiflaaDoor.Mk
open Go.RowKit
section
variable {α : Type} {f : α → Value}
def E1 (f : α → Value) : α → List Value := fun x => [f x]
theorem flat1 (l : List α) : l.flatMap (E1 f) = l.map f := by
  induction l with
  | nil => rfl
  | cons x l ih => simp [E1, List.flatMap_cons, ih]
theorem SL.of_owns1 {w : World} {base : Nat} {e : TypeId} {v : Value} {l : List α} (h : w.ownsRow base e 1 v l.length (l.map f)) (hb : l.length ≤ 140737488355328) : SL (E1 f) 1 w v l :=
  SL.of_owns (base := base) (e := e) (by rw [flat1]; exact h) (fun _ _ => rfl) hb
theorem SL.len1 {w : World} {v : Value} {l : List α} (h : SL (E1 f) 1 w v l) : l.length ≤ 140737488355328 := h.bd
theorem SL.cell1 {w : World} {v : Value} {l : List α} (h : SL (E1 f) 1 w v l) : ∃ A c, v = .slice A l.length c ∧ l.length ≤ c ∧ c ≤ maxLen ∧ (0 < l.length → ∃ b o, A = some ⟨b, o, none⟩ ∧ ∀ k x, l[k]? = some x → w.cell? ⟨b, o + k, none⟩ = some (f x)) := by
  obtain ⟨_, _, A, c, h1, h2, h3, h4⟩ := h
  refine ⟨A, c, h1, h2, h3, fun hp => ?_⟩
  obtain ⟨b, o, h5, h6⟩ := h4 hp
  refine ⟨b, o, h5, fun k x hk => ?_⟩
  have := h6 k x hk 0 (f x) (by simp [E1])
  simpa using this
theorem SL.append1 {w : World} {base : Nat} {e : TypeId} {v : Value} {l : List α} {x : α} (h : w.ownsRow base e 1 v (l.length + 1) (l.map f ++ [f x])) : w.ownsRow base e 1 v (l ++ [x]).length ((l ++ [x]).map f) := by
  rw [List.length_append, List.map_append]
  exact h
end
/-! ### blocks whose cells a function tells -/
section
variable {β : Type} {mk : β → Value}
def GC (mk : β → Value) (n : Nat) (f : Nat → β) : List Value := (List.range n).map fun i => mk (f i)
theorem GC_len (n : Nat) (f : Nat → β) : (GC mk n f).length = n := by simp [GC]
theorem GC_get {n i : Nat} (f : Nat → β) (h : i < n) : (GC mk n f)[i]? = some (mk (f i)) := by simp [GC, h]
theorem GC_ext {n : Nat} {f g : Nat → β} (h : ∀ i, i < n → f i = g i) : GC mk n f = GC mk n g := by
  unfold GC
  apply List.map_congr_left
  intro i hi
  rw [h i (List.mem_range.1 hi)]
theorem GC_map (n : Nat) (f : Nat → β) : GC mk n f = ((List.range n).map f).map mk := by simp [GC]
def upg (f : Nat → β) (k : Nat) (v : β) : Nat → β := fun i => if i = k then v else f i
theorem GC_set {n k : Nat} (f : Nat → β) (v : β) : (GC mk n f).set k (mk v) = GC mk n (upg f k v) := by
  apply List.ext_getElem
  · simp [GC]
  · intro i h1 h2
    simp only [GC, List.getElem_set, List.getElem_map, List.getElem_range, upg]
    by_cases e : k = i
    · rw [if_pos e, if_pos e.symm]
    · rw [if_neg e, if_neg (Ne.symm e)]
theorem upg_lt (g : Nat → β) (z : β) (k : Nat) : upg (fun i => if i < k then g i else z) k (g k) = fun i => if i < k + 1 then g i else z := by
  funext i
  unfold upg
  by_cases h : i = k
  · subst h
    simp
  · rw [if_neg h]
    simp only
    by_cases h2 : i < k
    · rw [if_pos h2, if_pos (by omega)]
    · rw [if_neg h2, if_neg (by omega)]
theorem upg_same (g : Nat → β) (z : β) (k : Nat) (h : g k = z) : (fun i => if i < k then g i else z) = fun i => if i < k + 1 then g i else z := by
  funext i
  by_cases h2 : i < k
  · rw [if_pos h2, if_pos (by omega)]
  · rw [if_neg h2]
    by_cases h3 : i = k
    · rw [h3, if_pos (by omega), h]
    · rw [if_neg (by omega)]
/-- block g holds n cells: what f says -/
def GK (mk : β → Value) (g n : Nat) (f : Nat → β) (t : TypeId) (w : World) : Prop := w.heap[g]? = some (.cells (GC mk n f).toArray t (0, 0))
variable {g n : Nat} {f : Nat → β} {t : TypeId} {w : World}
theorem GK.cell (h : GK mk g n f t w) {i : Nat} (hi : i < n) : w.cell? ⟨g, i, none⟩ = some (mk (f i)) := by
  rw [cell_of_row _ _ _ _ _ _ h, List.getElem?_toArray, GC_get f hi]
theorem GK.free (h : GK mk g n f t w) (i : Nat) : w.frozen? ⟨g, i, none⟩ = false := by
  unfold GK at h
  simp [World.frozen?, h]
theorem GK.lt (h : GK mk g n f t w) : g < w.heap.size := (Array.getElem?_eq_some_iff.1 h).1
theorem GK.keep {w' : World} (h : GK mk g n f t w) (hb : Below w.heap.size w w') : GK mk g n f t w' := (hb.block g h.lt).trans h
theorem GK.eq {w' : World} (h : GK mk g n f t w) (hb : w'.heap[g]? = w.heap[g]?) : GK mk g n f t w' := hb.trans h
theorem GK.set (h : GK mk g n f t w) {k : Nat} (v : β) : GK mk g n (upg f k v) t (w.setCell ⟨g, k, none⟩ (mk v)) := by
  unfold GK at h ⊢
  rw [← GC_set f v]
  simp [World.setCell, Array.getElem?_modify, h]
theorem GK.ext {f' : Nat → β} (h : GK mk g n f t w) (he : ∀ i, i < n → f i = f' i) : GK mk g n f' t w := by
  unfold GK at h ⊢
  rw [← GC_ext he]
  exact h
theorem GK.owns (h : GK mk g n f t w) {B : Nat} (hB : B ≤ g) (hn : n ≤ maxLen) : w.ownsRow B t 1 (.slice (some ⟨g, 0, none⟩) n n) ((List.range n).map f).length (((List.range n).map f).map mk) := by
  rw [List.length_map, List.length_range, ← GC_map]
  exact ⟨by rw [GC_len, Nat.mul_one], .inr ⟨g, n, _, rfl, hB, h, Nat.le_refl _, hn, by rw [List.size_toArray, GC_len, Nat.mul_one], List.take_of_length_le (by rw [GC_len, Nat.mul_one]; exact Nat.le_refl _)⟩⟩
end
/-- what an append of a new cell leaves -/
theorem grown_new {w wr w2 : World} {o : Obj} {row : Option Nat} {B B' : Nat} (hg : (wr.alloc o).grownBy w2 row) (hr : ∀ k, row = some k → B ≤ k) (hb : Below B' w wr) (hB : B' ≤ B) (hs : B' ≤ wr.heap.size) :
    Below B' w w2 ∧ wr.heap.size ≤ w2.heap.size ∧ ∀ g, g < B → g < wr.heap.size → w2.heap[g]? = wr.heap[g]? := by
  refine ⟨(hb.alloc hs _).grown hg (by simp; omega) (fun k hk => Nat.le_trans hB (hr k hk)), ?_, fun g h1 h2 => ?_⟩
  · have := hg.size
    simp at this
    omega
  · refine (hg.block g (by simp; omega) (fun e => ?_)).trans (Below.heap_alloc _ _ _ h2)
    have := hr g e.symm
    omega
end Go.Proofs.YtihdeanfcbiflaaDoor.Mk
