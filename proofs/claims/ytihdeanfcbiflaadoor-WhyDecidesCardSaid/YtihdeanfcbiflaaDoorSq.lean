/- Known blocks beside what is elder. Over any program; no condition. -/
import Derived.Test.YtihdeanfcbiflaaDoorKnown
import Derived.Test.YtihdeanfcbiflaaDoorUl
namespace Go.Proofs.YtihdeanfcbiflaaDoor.Mk
open Go.RowKit Go.Proofs.YtihdeanfcbiflaaDoor.Ul
/-- known blocks, and nothing elder is touched -/
def SQ (L : List (Nat × Obj)) (w w' : World) : Prop := KQ L w' ∧ Below w.heap.size w w'
theorem SQ.keep {L : List (Nat × Obj)} {w w1 w2 : World} (h : SQ L w w1) (hb : Below w1.heap.size w1 w2) : SQ L w w2 := ⟨h.1.keep hb, below_up h.2 hb⟩
theorem SQ.row {L : List (Nat × Obj)} {w w1 : World} {g : Nat} {cs : Array Value} (h : SQ L w w1) (hg : w.heap.size ≤ g) (hL : ∀ p ∈ L, p.1 ≠ g) : SQ L w (w1.setRow g cs) :=
  ⟨fun p hp => (setRow_other _ _ _ _ (hL p hp)).trans (h.1 p hp), below_setRow h.2 hg⟩
theorem SQ.drew {L : List (Nat × Obj)} {w w1 : World} (h : SQ L w w1) : SQ L w w1.drew := ⟨h.1, h.2.drew⟩
theorem SQ.alloc {L : List (Nat × Obj)} {w w1 : World} (h : SQ L w w1) (o : Obj) : SQ ((w1.heap.size, o) :: L) w (w1.alloc o) := ⟨h.1.alloc o, h.2.alloc h.2.size o⟩
theorem SQ.drewN {L : List (Nat × Obj)} {w w1 : World} (h : SQ L w w1) (n : Nat) : SQ L w (w1.drewN n) := ⟨h.1, bdN h.2 n⟩
theorem SQ.new (w : World) (o : Obj) : SQ [(w.heap.size, o)] w (w.alloc o) := ⟨KQ.cons (nw1 _ _) (KQ.nil _), bl1 _ _⟩
theorem SQ.new2 (w : World) (a b : Obj) : SQ [(w.heap.size + 1, b), (w.heap.size, a)] w ((w.alloc a).alloc b) := ⟨KQ.cons (nw2 _ _ _) (KQ.cons ((Below.heap_alloc _ _ _ (by simp)).trans (nw1 _ _)) (KQ.nil _)), bl2 _ _ _⟩
theorem SQ.nil (w : World) : SQ [] w w := ⟨KQ.nil _, Below.refl _ _⟩
theorem SQ.add {L : List (Nat × Obj)} {w w1 : World} {n : Nat} {o : Obj} (h : SQ L w w1) (k : w1.heap[n]? = some o) : SQ ((n, o) :: L) w w1 := ⟨KQ.cons k h.1, h.2⟩
theorem SQ.put {L : List (Nat × Obj)} {w w1 : World} {n : Nat} {cs c' : Array Value} {t : TypeId} (h : SQ ((n, .cells cs t (0, 0)) :: L) w w1) (hn : w.heap.size ≤ n) (hL : ∀ p ∈ L, p.1 ≠ n) : SQ ((n, .cells c' t (0, 0)) :: L) w (w1.setRow n c') :=
  ⟨h.1.tail.row h.1.head hL, below_setRow h.2 hn⟩
theorem SQ.swap {L : List (Nat × Obj)} {w w1 : World} {p q : Nat × Obj} (h : SQ (p :: q :: L) w w1) : SQ (q :: p :: L) w w1 := ⟨fun x hx => h.1 x (by
  simp only [List.mem_cons] at hx ⊢
  rcases hx with a | a | a
  · exact .inr (.inl a)
  · exact .inl a
  · exact .inr (.inr a)), h.2⟩
theorem SQ.alloc2 {L : List (Nat × Obj)} {w w1 : World} (h : SQ L w w1) (a b : Obj) : SQ ((w1.heap.size + 1, b) :: (w1.heap.size, a) :: L) w ((w1.alloc a).alloc b) := by
  have := (h.alloc a).alloc b
  rwa [World.size_alloc] at this
theorem SQ.sub {L L' : List (Nat × Obj)} {w w1 : World} (h : SQ L w w1) (hs : ∀ p ∈ L', p ∈ L) : SQ L' w w1 := ⟨fun p hp => h.1 p (hs p hp), h.2⟩
theorem FB.row' {g g' n : Nat} {f : Nat → Nat} {t : TypeId} {w : World} {cs : Array Value} (h : FB g n f t w) (hg : g ≠ g') : FB g n f t (w.setRow g' cs) := (setRow_other _ _ _ _ hg).trans h
theorem SQ.tail {L : List (Nat × Obj)} {w w1 : World} {p : Nat × Obj} (h : SQ (p :: L) w w1) : SQ L w w1 := ⟨h.1.tail, h.2⟩
section
variable {L : List (Nat × Obj)} {w w1 : World} {p0 p1 p2 p3 p4 : Nat × Obj} {n : Nat} {o : Obj}
theorem SQ.a0 (h : SQ ((n, o) :: L) w w1) : w1.heap[n]? = some o := h.1.head
theorem SQ.a1 (h : SQ (p0 :: (n, o) :: L) w w1) : w1.heap[n]? = some o := h.1.tail.head
theorem SQ.a2 (h : SQ (p0 :: p1 :: (n, o) :: L) w w1) : w1.heap[n]? = some o := h.1.tail.tail.head
theorem SQ.a3 (h : SQ (p0 :: p1 :: p2 :: (n, o) :: L) w w1) : w1.heap[n]? = some o := h.1.tail.tail.tail.head
theorem SQ.a4 (h : SQ (p0 :: p1 :: p2 :: p3 :: (n, o) :: L) w w1) : w1.heap[n]? = some o := h.1.tail.tail.tail.tail.head
theorem SQ.a5 (h : SQ (p0 :: p1 :: p2 :: p3 :: p4 :: (n, o) :: L) w w1) : w1.heap[n]? = some o := h.1.tail.tail.tail.tail.tail.head
end
end Go.Proofs.YtihdeanfcbiflaaDoor.Mk
