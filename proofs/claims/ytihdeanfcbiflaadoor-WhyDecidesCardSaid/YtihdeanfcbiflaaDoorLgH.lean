/- The walk of half a product. -/
import Derived.Test.YtihdeanfcbiflaaDoorLg
namespace Go.Proofs.YtihdeanfcbiflaaDoor.Lg
open Go.RowKit Go.Proofs.YtihdeanfcbiflaaDoor.Mk Go.Proofs.YtihdeanfcbiflaaDoor.Ul Go.Proofs.YtihdeanfcbiflaaDoor.Wi
/-- two blocks of five cells, the result's with nothing in it -/
def T4 (g1 g3 g4 : Nat) (f1 f3 : Nat → Nat) (w0 wr : World) : Prop := FB g4 5 (fun _ => 0) 26 wr ∧ FB g1 5 f1 26 wr ∧ FB g3 5 f3 26 wr ∧ Below w0.heap.size w0 wr
theorem T4.step {g1 g3 g4 : Nat} {f1 f3 f4 : Nat → Nat} {w0 wr : World} (h : T4 g1 g3 g4 f1 f3 w0 wr) {k v : Nat} (hk : k < 5) (h1 : g1 ≠ g3) (h4 : g4 ≠ g3) (h3 : w0.heap.size ≤ g3) (he : upd f3 k v = f4) :
    T4 g1 g3 g4 f1 f4 w0 (wr.setCell ⟨g3, k, none⟩ (.int .u64 (v : Nat))) := by
  rw [← he]
  exact ⟨h.1.other h4 _, h.2.1.other h1 _, h.2.2.1.set v hk, h.2.2.2.setCell (p := ⟨g3, k, none⟩) h3 _⟩
theorem T4.drewN {g1 g3 g4 : Nat} {f1 f3 : Nat → Nat} {w0 wr : World} (h : T4 g1 g3 g4 f1 f3 w0 wr) (n : Nat) : T4 g1 g3 g4 f1 f3 w0 (wr.drewN n) := ⟨h.1, h.2.1, h.2.2.1, bdN h.2.2.2 n⟩
theorem T4.drew {g1 g3 g4 : Nat} {f1 f3 : Nat → Nat} {w0 wr : World} (h : T4 g1 g3 g4 f1 f3 w0 wr) : T4 g1 g3 g4 f1 f3 w0 wr.drew := ⟨h.1, h.2.1, h.2.2.1, h.2.2.2.drew⟩
end Go.Proofs.YtihdeanfcbiflaaDoor.Lg
