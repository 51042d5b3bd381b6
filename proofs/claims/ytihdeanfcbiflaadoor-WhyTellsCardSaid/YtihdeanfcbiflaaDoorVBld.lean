/- The builder inside a Buf: what it holds, and what else a write leaves alone. -/
import Derived.Lib.FrozenHead
import Derived.Lib.FrozenHead2
import Derived.Lib.UnsafeStr
import Derived.Test.YtihdeanfcbiflaaDoorBut
namespace Go.Proofs.YtihdeanfcbiflaaDoor.Vb
open Go.RowKit Go.Proofs.YtihdeanfcbiflaaDoor.Mk
/-- block b holds a Buf with the bytes l; r: the block of its row; both lie from B on -/
def BU (B b : Nat) (r : Option Nat) (l : List Value) (w : World) : Prop :=
  ∃ p v, (p = .pointer none ∨ p = .pointer (some ⟨b, 0, none⟩)) ∧ B ≤ b ∧ w.heap[b]? = some (.cells #[p, v] 64 (0, 0)) ∧
    w.ownsRowF B 5 1 v l.length l ∧ v.ownBlock = r
theorem BU.lt {B b : Nat} {r : Option Nat} {l : List Value} {w : World} (h : BU B b r l w) : b < w.heap.size ∧ B ≤ b := by
  obtain ⟨p, v, _, hB, hb, _⟩ := h
  exact ⟨(Array.getElem?_eq_some_iff.1 hb).1, hB⟩
theorem BU.row {B b g : Nat} {l : List Value} {w : World} (h : BU B b (some g) l w) : g < w.heap.size ∧ B ≤ g := by
  obtain ⟨p, v, _, hB, hb, ho, hr⟩ := h
  have := ho.lt g hr
  exact ⟨this.2, this.1⟩
theorem BU.ne {B b : Nat} {r : Option Nat} {l : List Value} {w : World} (h : BU B b r l w) : r ≠ some b := by
  obtain ⟨p, v, _, hB, hb, ho, hr⟩ := h
  rw [← hr]
  exact Lib.ownBlock_neF ho hb (by decide)
/-- it lies on wherever its two blocks lie on -/
theorem BU.keep {S : Nat → Prop} {B b : Nat} {r : Option Nat} {l : List Value} {w w' : World} (h : BU B b r l w) (hk : But S w w') (hb : ¬ S b) (hr : ∀ g, r = some g → ¬ S g) : BU B b r l w' := by
  have hlt := h.lt
  obtain ⟨p, v, hp, hB, hh, ho, hv⟩ := h
  refine ⟨p, v, hp, hB, (hk.block b hlt.1 hb).trans hh, ⟨ho.1, ?_⟩, hv⟩
  rcases ho.2 with h1 | ⟨g, cap, cur, fz, h1, h2, h3, h4⟩
  · exact .inl h1
  · refine .inr ⟨g, cap, cur, fz, h1, h2, ?_, h4⟩
    have hg : r = some g := by rw [← hv, h1]; rfl
    rw [hk.block g (Array.getElem?_eq_some_iff.1 h3).1 (hr g hg)]
    exact h3
theorem BU.keepB {B b : Nat} {r : Option Nat} {l : List Value} {w w' : World} (h : BU B b r l w) (hk : Below w.heap.size w w') : BU B b r l w' :=
  h.keep (But.of_below (S := fun _ => False) hk) (fun e => e) (fun _ _ e => e)
/-- what a write to a Buf may turn: its block, its row; and where its row lies behind -/
def Wr (b : Nat) (r r' : Option Nat) (w w' : World) : Prop := But (fun k => k = b ∨ some k = r) w w' ∧ (r' = r ∨ ∃ k, r' = some k ∧ w.heap.size ≤ k)
theorem Wr.refl (b : Nat) (r : Option Nat) (w : World) : Wr b r r w w := ⟨But.refl _ _, .inl rfl⟩
theorem Wr.trans {b : Nat} {r1 r2 r3 : Option Nat} {w1 w2 w3 : World} (h : Wr b r1 r2 w1 w2) (k : Wr b r2 r3 w2 w3) : Wr b r1 r3 w1 w3 := by
  refine ⟨h.1.trans k.1 ?_, ?_⟩
  · intro i hi hs
    rcases hs with hs | hs
    · exact .inl hs
    · rcases h.2 with e | ⟨g, e, hg⟩
      · exact .inr (by rw [← e]; exact hs)
      · rw [e] at hs
        cases hs
        omega
  · rcases k.2 with e | ⟨g, e, hg⟩
    · rw [e]; exact h.2
    · exact .inr ⟨g, e, Nat.le_trans h.1.size hg⟩
theorem Wr.of_below {b : Nat} {r : Option Nat} {w w' : World} (h : Below w.heap.size w w') : Wr b r r w w' := ⟨But.of_below h, .inl rfl⟩
theorem Wr.below {B b : Nat} {r r' : Option Nat} {l : List Value} {w w' : World} (h : Wr b r r' w w') (hb : BU B b r l w) : Below B w w' :=
  h.1.below (by have := hb.lt; omega) (fun i hi => by
    rcases hi with rfl | hi
    · exact hb.lt.2
    · subst hi; exact hb.row.2)
/-- another Buf lies on -/
theorem BU.other {B b B2 b2 : Nat} {r r2 r2' : Option Nat} {l l2 : List Value} {w w' : World} (h : BU B b r l w) (_h2 : BU B2 b2 r2 l2 w) (hw : Wr b2 r2 r2' w w') (hne : b ≠ b2) (hr : r2 ≠ some b) (hrb : r ≠ some b2) (hrr : r = none ∨ r ≠ r2) : BU B b r l w' :=
  h.keep hw.1 (fun e => e.elim hne (fun e => hr e.symm)) (fun g hg e => e.elim (fun e => hrb (by rw [hg, e])) (fun e => by
    rcases hrr with h0 | h0
    · rw [h0] at hg; cases hg
    · exact h0 (by rw [hg, e])))
end Go.Proofs.YtihdeanfcbiflaaDoor.Vb
