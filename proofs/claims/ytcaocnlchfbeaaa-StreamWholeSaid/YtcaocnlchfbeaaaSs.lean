/- Lists of steps in memory. No condition. -/
import Derived.Test.YtcaocnlchfbeaaaPfMath
import Derived.Test.YtcaocnlchfbeaaaTs
namespace Go.Proofs.Ytcaocnlchfbeaaa.Pf
open Go.RowKit Go.Proofs.Ytcaocnlchfbeaaa.Mk Go.Proofs.Ytcaocnlchfbeaaa.Op Go.Proofs.Ytcaocnlchfbeaaa.Hd Go.Proofs.Ytcaocnlchfbeaaa.St Go.Proofs.Ytcaocnlchfbeaaa.Cur Go.Proofs.Ytcaocnlchfbeaaa.Stp Go.Proofs.Ytcaocnlchfbeaaa.Tk
/-- a step, and its path's slice -/
structure Tr where
  h : Hd
  o : Opn
  v : Value
def Tr.ho (t : Tr) : HO := (t.h, t.o)
def encS (t : Tr) : List Value := sc t.h t.o t.v
def slc (v : Value) : Prop := ∃ A n c, v = .slice A n c
/-- a slice of steps reads so -/
def SS (w : World) (v : Value) (l : List HO) : Prop := ∃ ts : List Tr, ts.map Tr.ho = l ∧ SL encS 69 w v ts ∧ ∀ t ∈ ts, t.h.Ok ∧ SL hc 32 w t.v t.o.p
theorem SS.below {w w' : World} {v : Value} {l : List HO} (h : SS w v l) (hb : Below w.heap.size w w') : SS w' v l := by
  obtain ⟨ts, e, s, q⟩ := h
  exact ⟨ts, e, s.below hb, fun t ht => ⟨(q t ht).1, (q t ht).2.below hb⟩⟩
theorem SS.nil (w : World) : SS w (.slice none 0 0) [] := ⟨[], rfl, SL.nil _ _ _, fun t ht => by cases ht⟩
/-- the call's own rows, from a block on -/
structure RW (B : Nat) (w : World) (v : Value) (ts : List Tr) : Prop where
  row : w.ownsRow B 43 69 v ts.length (ts.flatMap encS)
  each : ∀ t ∈ ts, t.h.Ok ∧ w.ownsRow B 35 32 t.v t.o.p.length (t.o.p.flatMap hc) ∧ (∀ x ∈ t.o.p, x.length = 32) ∧ t.o.p.length ≤ 63
theorem RW.nil (B : Nat) (w : World) : RW B w (.slice none 0 0) [] := ⟨World.ownsRow_nil _ _ _ _, fun t ht => by cases ht⟩
theorem encS_len {t : Tr} (k : t.h.Ok) : (encS t).length = 69 := sc_len k _ _
theorem RW.ss {B : Nat} {w : World} {v : Value} {ts : List Tr} (h : RW B w v ts) (hl : ts.length ≤ 140737488355328) : SS w v (ts.map Tr.ho) :=
  ⟨ts, rfl, SL.of_owns h.row (fun t ht => encS_len (h.each t ht).1) hl, fun t ht => ⟨(h.each t ht).1, SL.of_owns (h.each t ht).2.1 (fun x hx => by rw [hc_len]; exact (h.each t ht).2.2.1 x hx) (by have := (h.each t ht).2.2.2; omega)⟩⟩
theorem RW.but {B : Nat} {S : Nat → Prop} {w w' : World} {v : Value} {ts : List Tr} (h : RW B w v ts) (hb : But S w w') (hs : ∀ i, S i → i < B) : RW B w' v ts :=
  ⟨own_but h.row hb hs, fun t ht => ⟨(h.each t ht).1, own_but (h.each t ht).2.1 hb hs, (h.each t ht).2.2⟩⟩
theorem RW.below {B : Nat} {w w' : World} {v : Value} {ts : List Tr} (h : RW B w v ts) (hb : Below w.heap.size w w') : RW B w' v ts :=
  h.but (But.of_below (S := fun _ => False) hb) (fun _ e => e.elim)
theorem own_otherS {w : World} {B B' : Nat} {e e' : TypeId} {sz sz' : Nat} {v v' : Value} {n n' : Nat} {xs xs' : List Value} (h : w.ownsRow B e sz v n xs) (k : w.ownsRow B' e' sz' v' n' xs') (hte : e ≠ e') {w' : World} (hg : w.grownBy w' v'.ownBlock) : w'.ownsRow B e sz v n xs := by
  refine ⟨h.1, ?_⟩
  rcases h.2 with h2 | ⟨g, cap, cur, q1, q2, q3, q4⟩
  · exact .inl h2
  · refine .inr ⟨g, cap, cur, q1, q2, (hg.block g (Array.getElem?_eq_some_iff.1 q3).1 ?_).trans q3, q4⟩
    rcases k.2 with ⟨rfl, _⟩ | ⟨g2, cap2, cur2, rfl, _, k3, _⟩
    · simp [Value.ownBlock]
    · intro e2
      obtain rfl : g = g2 := by simpa [Value.ownBlock] using e2
      rw [q3] at k3
      cases k3
      exact hte rfl
/-- a step more -/
theorem RW.app {B : Nat} {w w' : World} {v v' : Value} {ts : List Tr} {t : Tr} (h : RW B w v ts) (hg : w.grownBy w' v.ownBlock) (ho : w'.ownsRow B 43 69 v' (ts.length + 1) (ts.flatMap encS ++ encS t))
    (ht : t.h.Ok ∧ w.ownsRow B 35 32 t.v t.o.p.length (t.o.p.flatMap hc) ∧ (∀ x ∈ t.o.p, x.length = 32) ∧ t.o.p.length ≤ 63) : RW B w' v' (ts ++ [t]) :=
  ⟨by rw [List.length_append, List.flatMap_append]; simpa using ho, fun u hu => by
    rcases List.mem_append.1 hu with hu | hu
    · exact ⟨(h.each u hu).1, own_otherS (h.each u hu).2.1 h.row (by decide) hg, (h.each u hu).2.2⟩
    · rw [List.mem_singleton.1 hu]
      exact ⟨ht.1, own_otherS ht.2.1 h.row (by decide) hg, ht.2.2⟩⟩
theorem IStp : (Try.prog.info? 43).map (fun i => (i.zero, i.size, i.bytes)) = some (some (.agg (sc hd0 op0 (.slice none 0 0)).toArray), 69, 120) := by kernel_rfl
theorem zStp : (Value.agg (sc hd0 op0 (.slice none 0 0)).toArray).cells.size = 69 := by kernel_rfl
theorem USs : Try.prog.underlying 23 = some (.slice 43) := by kernel_rfl
end Go.Proofs.Ytcaocnlchfbeaaa.Pf
