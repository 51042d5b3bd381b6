/- The walk of a sum in digits. -/
import Derived.Test.YtihdeanfcbiflaaDoorR5C
namespace Go.Proofs.YtihdeanfcbiflaaDoor.R5
open Go.RowKit Go.Proofs.YtihdeanfcbiflaaDoor.Mk Go.Proofs.YtihdeanfcbiflaaDoor.Ul Go.Proofs.YtihdeanfcbiflaaDoor.Wi
/-- so many digits of a number lie in block b from o on -/
def DC (w : World) (b o n X : Nat) : Prop := ∀ k, k < n → w.cell? ⟨b, o + k, none⟩ = some (.int .i64 (dg 65536 X k : Nat))
theorem DC.eq {w w' : World} {b o n X : Nat} (h : DC w b o n X) (he : 0 < n → w'.heap[b]? = w.heap[b]?) : DC w' b o n X := fun k hk => (World.cell?_of_block (a := ⟨b, o + k, none⟩) (he (by omega))).trans (h k hk)
theorem DC.lt {w : World} {b o n X : Nat} (h : DC w b o n X) (hn : 0 < n) : b < w.heap.size := block_lt_of_cell (h 0 hn)
theorem DV.cells {w : World} {v : Value} {X : Nat} (h : DV w v X) : ∃ A b o c, v = .slice A (dn X) c ∧ dn X ≤ c ∧ c ≤ 9223372036854775807 ∧ (0 < dn X → A = some ⟨b, o, none⟩) ∧ DC w b o (dn X) X := by
  obtain ⟨A, c, e, h1, h2, _, h4⟩ := h.open
  by_cases h0 : 0 < dn X
  · obtain ⟨b, o, h5, h6⟩ := h4 h0
    exact ⟨A, b, o, c, e, h1, h2, fun _ => h5, h6⟩
  · exact ⟨A, 0, 0, c, e, h1, h2, fun h => absurd h h0, fun k hk => absurd hk (by omega)⟩
end Go.Proofs.YtihdeanfcbiflaaDoor.R5
