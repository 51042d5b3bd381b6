/- Blocks that are known, carried from world to world. Over any program; no condition. -/
import Derived.Test.YtihdeanfcbiflaaDoorBut
namespace Go.Proofs.YtihdeanfcbiflaaDoor.Mk
open Go.RowKit
/-- each block of the list lies as it says -/
def KQ (L : List (Nat × Obj)) (w : World) : Prop := ∀ p ∈ L, w.heap[p.1]? = some p.2
theorem KQ.nil (w : World) : KQ [] w := fun p hp => by cases hp
theorem KQ.cons {L : List (Nat × Obj)} {w : World} {n : Nat} {o : Obj} (h : w.heap[n]? = some o) (k : KQ L w) : KQ ((n, o) :: L) w := fun p hp => by
  rcases List.mem_cons.1 hp with e | e
  · rw [e]; exact h
  · exact k p e
theorem KQ.head {L : List (Nat × Obj)} {w : World} {n : Nat} {o : Obj} (k : KQ ((n, o) :: L) w) : w.heap[n]? = some o := k (n, o) (by simp)
theorem KQ.tail {L : List (Nat × Obj)} {w : World} {p : Nat × Obj} (k : KQ (p :: L) w) : KQ L w := fun q hq => k q (by simp [hq])
theorem KQ.lt {L : List (Nat × Obj)} {w : World} (k : KQ L w) {p : Nat × Obj} (hp : p ∈ L) : p.1 < w.heap.size := (Array.getElem?_eq_some_iff.1 (k p hp)).1
theorem KQ.keep {L : List (Nat × Obj)} {w w' : World} (k : KQ L w) (hb : Below w.heap.size w w') : KQ L w' := fun p hp => (hb.block p.1 (k.lt hp)).trans (k p hp)
theorem KQ.but {L : List (Nat × Obj)} {S : Nat → Prop} {w w' : World} (k : KQ L w) (hb : But S w w') (hs : ∀ p ∈ L, ¬ S p.1) : KQ L w' := fun p hp => (hb.block p.1 (k.lt hp) (hs p hp)).trans (k p hp)
theorem KQ.alloc {L : List (Nat × Obj)} {w : World} (k : KQ L w) (o : Obj) : KQ ((w.heap.size, o) :: L) (w.alloc o) := KQ.cons (heap_new w o) (k.keep ((Below.refl _ _).alloc (Nat.le_refl _) _))
theorem KQ.row {L : List (Nat × Obj)} {w : World} {n : Nat} {cs c' : Array Value} {t : TypeId} (k : KQ L w) (h : w.heap[n]? = some (.cells cs t (0, 0))) (hn : ∀ p ∈ L, p.1 ≠ n) : KQ ((n, .cells c' t (0, 0)) :: L) (w.setRow n c') :=
  KQ.cons (setRow_heap _ _ _ _ _ _ h) (fun p hp => (setRow_other _ _ _ _ (hn p hp)).trans (k p hp))
theorem KQ.two {L : List (Nat × Obj)} {w : World} (k : KQ L w) (o1 o2 c1 c2 : Array Value) (t1 t2 : TypeId) :
    KQ ((w.heap.size + 1, .cells c2 t2 (0, 0)) :: (w.heap.size, .cells c1 t1 (0, 0)) :: L) ((((w.alloc (.cells o1 t1 (0, 0))).alloc (.cells o2 t2 (0, 0))).setRow w.heap.size c1).setRow (w.heap.size + 1) c2) := by
  have e1 : ((w.alloc (.cells o1 t1 (0, 0))).alloc (.cells o2 t2 (0, 0))).heap[w.heap.size + 1]? = some (.cells o2 t2 (0, 0)) := by
    have := heap_new (w.alloc (.cells o1 t1 (0, 0))) (.cells o2 t2 (0, 0))
    rwa [World.size_alloc] at this
  have e0 : ((w.alloc (.cells o1 t1 (0, 0))).alloc (.cells o2 t2 (0, 0))).heap[w.heap.size]? = some (.cells o1 t1 (0, 0)) := (Below.heap_alloc _ _ _ (by simp)).trans (heap_new w _)
  refine KQ.cons (setRow_heap _ _ _ _ _ _ ((setRow_other _ _ _ _ (by omega)).trans e1)) (KQ.cons ((setRow_other _ _ _ _ (by omega)).trans (setRow_heap _ _ _ _ _ _ e0)) ?_)
  intro p hp
  have hl := k.lt hp
  exact (setRow_other _ _ _ _ (by omega)).trans ((setRow_other _ _ _ _ (by omega)).trans ((Below.heap_alloc _ _ _ (by simp; omega)).trans ((Below.heap_alloc _ _ _ hl).trans (k p hp))))
theorem below_row {B : Nat} {w w' : World} {g : Nat} {cs : Array Value} (h : Below B w w') (hg : B ≤ g) : Below B w (w'.setRow g cs) :=
  ⟨h.os, h.tape, h.output, by simpa [World.setRow] using h.size, fun k hk => (setRow_other _ _ _ _ (by omega)).trans (h.block k hk)⟩
theorem below_two {w w2 : World} (b : Below w.heap.size w w2) (o1 o2 c1 c2 : Array Value) (t1 t2 : TypeId) :
    Below w.heap.size w ((((w2.alloc (.cells o1 t1 (0, 0))).alloc (.cells o2 t2 (0, 0))).setRow w2.heap.size c1).setRow (w2.heap.size + 1) c2) := by
  have := b.size
  exact below_row (below_row ((b.alloc this _).alloc (by simp; omega) _) (by omega)) (by omega)
end Go.Proofs.YtihdeanfcbiflaaDoor.Mk
