/- Arrays of numbers of 64 bits in memory. Over any program; no condition. -/
import Derived.Test.YtihdeanfcbiflaaDoorMk
import Derived.Test.YtihdeanfcbiflaaDoorBut
import Derived.Test.YtihdeanfcbiflaaDoorRet
import Derived.Laws.Tables
import Derived.Test.YtihdeanfcbiflaaDoorUlMath
namespace Go.Proofs.YtihdeanfcbiflaaDoor.Ul
open Go.RowKit Go.Proofs.YtihdeanfcbiflaaDoor.Mk
/-! ### blocks made one behind the other -/
section
variable (w : World) (a b c d : Obj)
theorem nw1 : (w.alloc a).heap[w.heap.size]? = some a := heap_new w a
theorem nw2 : ((w.alloc a).alloc b).heap[w.heap.size + 1]? = some b := by
  have h := heap_new (w.alloc a) b
  rwa [World.size_alloc] at h
theorem nw3 : (((w.alloc a).alloc b).alloc c).heap[w.heap.size + 1 + 1]? = some c := by
  have h := nw2 (w.alloc a) b c
  rwa [World.size_alloc] at h
theorem nw4 : ((((w.alloc a).alloc b).alloc c).alloc d).heap[w.heap.size + 1 + 1 + 1]? = some d := by
  have h := nw3 (w.alloc a) b c d
  rwa [World.size_alloc] at h
theorem bl1 : Below w.heap.size w (w.alloc a) := (Below.refl _ _).alloc (Nat.le_refl _) _
theorem bl2 : Below w.heap.size w ((w.alloc a).alloc b) := (bl1 w a).alloc (by simp) _
theorem bl3 : Below w.heap.size w (((w.alloc a).alloc b).alloc c) := (bl2 w a b).alloc (by simp <;> omega) _
theorem bl4 : Below w.heap.size w ((((w.alloc a).alloc b).alloc c).alloc d) := (bl3 w a b c).alloc (by simp <;> omega) _
end
/-- n cells: what f says -/
def FC (n : Nat) (f : Nat → Nat) : List Value := (List.range n).map fun i => .int .u64 (f i : Nat)
theorem FC_len (n : Nat) (f : Nat → Nat) : (FC n f).length = n := by simp [FC]
theorem FC_get {n i : Nat} (f : Nat → Nat) (h : i < n) : (FC n f)[i]? = some (.int .u64 (f i : Nat)) := by simp [FC, h]
theorem FC_ext {n : Nat} {f g : Nat → Nat} (h : ∀ i, i < n → f i = g i) : FC n f = FC n g := by
  unfold FC
  apply List.map_congr_left
  intro i hi
  rw [h i (List.mem_range.1 hi)]
def upd (f : Nat → Nat) (k v : Nat) : Nat → Nat := fun i => if i = k then v else f i
theorem FC_set {n k : Nat} (f : Nat → Nat) (v : Nat) (_h : k < n) : (FC n f).set k (.int .u64 (v : Nat)) = FC n (upd f k v) := by
  apply List.ext_getElem
  · simp [FC]
  · intro i h1 h2
    simp only [FC, List.getElem_set, List.getElem_map, List.getElem_range, upd]
    by_cases e : k = i
    · rw [if_pos e, if_pos e.symm]
    · rw [if_neg e, if_neg (Ne.symm e)]
theorem upd_lt (g : Nat → Nat) (k : Nat) : upd (fun i => if i < k then g i else 0) k (g k) = fun i => if i < k + 1 then g i else 0 := by
  funext i
  unfold upd
  by_cases h : i = k
  · subst h
    simp
  · rw [if_neg h]
    simp only
    by_cases h2 : i < k
    · rw [if_pos h2, if_pos (by omega)]
    · rw [if_neg h2, if_neg (by omega)]
theorem FC_one (n : Nat) (f : Nat → Nat) : (FC n f).toArray.all (·.oneCell') = true := by simp [FC, Value.oneCell']
theorem FC_size (n : Nat) (f : Nat → Nat) : (FC n f).toArray.size = n := by rw [List.size_toArray, FC_len]
/-- the i-th limb -/
def lb (X i : Nat) : Nat := dg (2 ^ 64) X i
theorem lb_lt (X i : Nat) : lb X i < 18446744073709551616 := dg_lt (by decide) X i
def UC (n X : Nat) : List Value := FC n (lb X)
def UV (n X : Nat) : Value := .agg (FC n (lb X)).toArray
/-- block g holds n cells: what f says -/
def FB (g n : Nat) (f : Nat → Nat) (t : TypeId) (w : World) : Prop := w.heap[g]? = some (.cells (FC n f).toArray t (0, 0))
section
variable {g n : Nat} {f : Nat → Nat} {t : TypeId} {w : World}
theorem FB.cell (h : FB g n f t w) {i : Nat} (hi : i < n) : w.cell? ⟨g, i, none⟩ = some (.int .u64 (f i : Nat)) := by
  rw [cell_of_row _ _ _ _ _ _ h, List.getElem?_toArray, FC_get f hi]
theorem FB.free (h : FB g n f t w) (i : Nat) : w.frozen? ⟨g, i, none⟩ = false := by
  unfold FB at h
  simp [World.frozen?, h]
theorem FB.lt (h : FB g n f t w) : g < w.heap.size := (Array.getElem?_eq_some_iff.1 h).1
theorem FB.keep {w' : World} (h : FB g n f t w) (hb : Below w.heap.size w w') : FB g n f t w' := (hb.block g h.lt).trans h
theorem FB.set (h : FB g n f t w) {k : Nat} (v : Nat) (hk : k < n) : FB g n (upd f k v) t (w.setCell ⟨g, k, none⟩ (.int .u64 (v : Nat))) := by
  unfold FB at h ⊢
  rw [← FC_set f v hk]
  simp [World.setCell, Array.getElem?_modify, h]
theorem FB.other {g' k : Nat} (h : FB g n f t w) (hg : g ≠ g') (u : Value) : FB g n f t (w.setCell ⟨g', k, none⟩ u) := (Below.heap_setCell _ _ _ _ hg).trans h
theorem FB.ext {f' : Nat → Nat} (h : FB g n f t w) (he : ∀ i, i < n → f i = f' i) : FB g n f' t w := by
  unfold FB at h ⊢
  rw [← FC_ext he]
  exact h
theorem FB.drew (h : FB g n f t w) : FB g n f t w.drew := h
theorem FB.drewN (h : FB g n f t w) (m : Nat) : FB g n f t (w.drewN m) := h
theorem FB.alloc (h : FB g n f t w) (o : Obj) : FB g n f t (w.alloc o) := (Below.heap_alloc _ _ _ h.lt).trans h
theorem below_setRow {B : Nat} {w w' : World} {g : Nat} {cs : Array Value} (h : Below B w w') (hg : B ≤ g) : Below B w (w'.setRow g cs) :=
  ⟨h.os, h.tape, h.output, by simpa [World.setRow] using h.size, fun k hk => (setRow_other _ _ _ _ (by omega)).trans (h.block k hk)⟩
end
end Go.Proofs.YtihdeanfcbiflaaDoor.Ul
