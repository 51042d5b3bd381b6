/- The walk of infix.Decode. -/
import Derived.Test.YtcaocnlchfbeaaaIfE
import Derived.Test.YtcaocnlchfbeaaaIfDMath
import Derived.Test.YtcaocnlchfbeaaaPdR
import Derived.Test.YtcaocnlchfbeaaaPutW
namespace Go.Proofs.Ytcaocnlchfbeaaa.If
open Go.RowKit Go.Proofs.Ytcaocnlchfbeaaa.Mk Go.Proofs.Ytcaocnlchfbeaaa.Op Go.Proofs.Ytcaocnlchfbeaaa.Hd Go.Proofs.Ytcaocnlchfbeaaa.St Go.Proofs.Ytcaocnlchfbeaaa.Cur Go.Proofs.Ytcaocnlchfbeaaa.Stp Go.Proofs.Ytcaocnlchfbeaaa.Tk Go.Proofs.Ytcaocnlchfbeaaa.Pf
theorem ovn_but {B : Nat} {S : Nat → Prop} {w w' : World} {v : Value} {o : Opn} (h : OVn B w v o) (hb : But S w w') (hs : ∀ i, S i → i < B) : OVn B w' v o := by
  obtain ⟨sv, e, h1, h2⟩ := h
  exact ⟨sv, e, own_but h1 hb hs, h2⟩
def nl : Value := .slice none 0 0
/-- what the walk of Decode carries: the cursor at b, the answer's block, the box at g, the own rows behind it -/
structure DS (w : World) (b g : Nat) (c : C) (x : Inf) (v sv su : Value) (W : World) : Prop where
  cu : CU b c W
  res : W.heap[w.heap.size]? = some (iB inf0 nl nl nl)
  box : W.heap[g]? = some (iB x v sv su)
  l : ∃ ts, RW (g + 1) W v ts ∧ ts.map Tr.ho = x.l ∧ ts.length ≤ 1024
  o : OVn (g + 1) W (.agg (oc x.o.i x.o.c sv)) x.o
  u : OVn (g + 1) W (.agg (oc x.u.i x.u.c su)) x.u
  bel : Below w.heap.size w W
  lb : w.heap.size < b
  lg : b < g
theorem DS.but {S : Nat → Prop} {w W W' : World} {b g : Nat} {c c' : C} {x : Inf} {v sv su : Value} (h : DS w b g c x v sv su W) (hc : CU b c' W') (hb : But S W W') (hs : ∀ i, S i → w.heap.size < i ∧ i < g) : DS w b g c' x v sv su W' := by
  obtain ⟨cu, res, box, ⟨ts, l1, l2, l3⟩, o, u, bel, lb, lg⟩ := h
  exact ⟨hc, (hb.block _ (Array.getElem?_eq_some_iff.1 res).1 (fun e => by have := hs _ e; omega)).trans res, (hb.block _ (Array.getElem?_eq_some_iff.1 box).1 (fun e => by have := hs _ e; omega)).trans box,
    ⟨ts, l1.but hb (fun i e => by have := hs _ e; omega), l2, l3⟩, ovn_but o hb (fun i e => by have := hs _ e; omega), ovn_but u hb (fun i e => by have := hs _ e; omega), bel.trans (hb.below bel.size (fun i e => Nat.le_of_lt (hs _ e).1)), lb, lg⟩
theorem DS.cw {w W W' : World} {b g : Nat} {c c' : C} {x : Inf} {v sv su : Value} (h : DS w b g c x v sv su W) (hc : CU b c' W') (hb : CW b W W') : DS w b g c' x v sv su W' :=
  h.but hc hb (fun i e => by rw [e]; exact ⟨h.lb, h.lg⟩)
theorem DS.lt {w W : World} {b g : Nat} {c : C} {x : Inf} {v sv su : Value} (h : DS w b g c x v sv su W) : g + 1 ≤ W.heap.size := (Array.getElem?_eq_some_iff.1 h.box).1
theorem rw_mono {B B' : Nat} {w : World} {v : Value} {ts : List Tr} (h : RW B w v ts) (hb : B' ≤ B) : RW B' w v ts :=
  ⟨own_mono h.row hb, fun t ht => ⟨(h.each t ht).1, own_mono (h.each t ht).2.1 hb, (h.each t ht).2.2⟩⟩
theorem ovn_mono {B B' : Nat} {w : World} {v : Value} {o : Opn} (h : OVn B w v o) (hb : B' ≤ B) : OVn B' w v o := by
  obtain ⟨sv, e, h1, h2⟩ := h
  exact ⟨sv, e, own_mono h1 hb, h2⟩
/-- the box is turned at g alone -/
theorem DS.set {w W W' : World} {b g : Nat} {c : C} {x x' : Inf} {v sv su v' sv' su' : Value} (h : DS w b g c x v sv su W) (hb : But (fun k => k = g) W W') (box : W'.heap[g]? = some (iB x' v' sv' su'))
    (hl : ∃ ts, RW (g + 1) W v' ts ∧ ts.map Tr.ho = x'.l ∧ ts.length ≤ 1024) (ho : OVn (g + 1) W (.agg (oc x'.o.i x'.o.c sv')) x'.o) (hu : OVn (g + 1) W (.agg (oc x'.u.i x'.u.c su')) x'.u) : DS w b g c x' v' sv' su' W' := by
  obtain ⟨cu, res, _, _, _, _, bel, lb, lg⟩ := h
  obtain ⟨ts, l1, l2, l3⟩ := hl
  exact ⟨(hb.block _ (CU.lt cu) (by omega)).trans cu, (hb.block _ (Array.getElem?_eq_some_iff.1 res).1 (by omega)).trans res, box, ⟨ts, l1.but hb (fun i e => by omega), l2, l3⟩, ovn_but ho hb (fun i e => by omega), ovn_but hu hb (fun i e => by omega), bel.trans (hb.below bel.size (fun i e => by omega)), lb, lg⟩
theorem DS.iv {w W : World} {b g : Nat} {c : C} {x : Inf} {v sv su : Value} (h : DS w b g c x v sv su W) : IV W (.agg (ifc x v sv su)) x := by
  obtain ⟨_, _, _, ⟨ts, l1, l2, l3⟩, o, u, _, _, _⟩ := h
  obtain ⟨so, e1, ho⟩ := o.ov
  obtain ⟨si, e2, hu⟩ := u.ov
  cases e1
  cases e2
  exact ⟨v, sv, su, rfl, l2 ▸ l1.ss (by omega), ho, hu⟩
theorem built_n (n : Nat) (w : World) : (Instr.build 76 #[(0, .int .i64 n)]).run Try.prog w = .ok (.agg (ifc ⟨n, [], op0, 0, .empty, op0⟩ nl nl nl)) w := by
  kernel_rfl
theorem built_0 (w : World) : (Instr.build 76 #[]).run Try.prog w = .ok (.agg (ifc inf0 nl nl nl)) w := by
  kernel_rfl
theorem iB_set {w : World} {g : Nat} {x x' : Inf} {v sv su v' sv' su' : Value} {j : Nat} {u : Value} (h : w.heap[g]? = some (iB x v sv su)) (e : (ifc x v sv su).setIfInBounds j u = ifc x' v' sv' su') : (w.setCell ⟨g, j, none⟩ u).heap[g]? = some (iB x' v' sv' su') := by
  unfold iB at h ⊢
  rw [← e]
  simp [World.setCell, Array.getElem?_modify, h]
theorem iB_free {w : World} {g : Nat} {x : Inf} {v sv su : Value} (h : w.heap[g]? = some (iB x v sv su)) (j : Nat) : w.frozen? ⟨g, j, none⟩ = false := by
  unfold iB at h
  simp [World.frozen?, h]
theorem one_if (x : Inf) (A B C : Option Addr) (n m k a b c : Nat) : (ifc x (.slice A n a) (.slice B m b) (.slice C k c)).all (·.oneCell') = true := by simp [ifc, Value.oneCell']
theorem d1_le (b : List UInt8) : (d1 b).1 ≤ 1024 := num_le ⟨b, 0⟩ 1024
end Go.Proofs.Ytcaocnlchfbeaaa.If
