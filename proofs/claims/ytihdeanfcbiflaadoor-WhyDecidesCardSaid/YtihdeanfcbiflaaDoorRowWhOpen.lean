/- How rows of chapter 43's table among the arguments are opened. -/
import Derived.Test.YtihdeanfcbiflaaDoorRows
import Derived.Test.YtihdeanfcbiflaaDoorOpen
import Derived.WalkKit
import Derived.ProofKit
import Derived.OpenShut
import Derived.ShutString
import Derived.ChangeOld
import Derived.Below
import Derived.SizedLaws
import Derived.Lib.SmallJoins
import Derived.Deep.Strs
import Derived.Test.YtihdeanfcbiflaaDoorRowLarge
import Derived.Test.YtihdeanfcbiflaaDoorWh
namespace Go.Proofs.YtihdeanfcbiflaaDoor.Wh
open Go.ChangeShapes Go.WideShapes Go.ChangeAt Go.RowKit Go.Proofs.YtihdeanfcbiflaaDoor.Mk Go.Proofs.YtihdeanfcbiflaaDoor.Ul Go.Proofs.YtihdeanfcbiflaaDoor.Wi Go.Proofs.YtihdeanfcbiflaaDoor.Lg
theorem cHf : Tryd.prog.cellsOf 28 = 7 := by kernel_rfl
theorem cRo : Tryd.prog.cellsOf 30 = 15 := by kernel_rfl
theorem cI1 : Tryd.prog.cellsOf 3 = 1 := by kernel_rfl
theorem cB1 : Tryd.prog.cellsOf 4 = 1 := by kernel_rfl
theorem bRo : Tryd.prog.bytesOf 30 = 120 := by kernel_rfl
theorem URsl : Tryd.prog.underlying 22 = some (.slice 30) := by kernel_rfl
theorem cut7 (cs : List Value) (h : cs.length = 7) : cs = (cs.drop 0).take 1 ++ ((cs.drop 1).take 1 ++ (cs.drop 2).take 5) := by
  match cs, h with
  | [a, b, c, d, e, f, g], _ => rfl
theorem cut15 (cs : List Value) (h : cs.length = 15) : cs = (cs.drop 0).take 1 ++ ((cs.drop 1).take 7 ++ (cs.drop 8).take 7) := by
  match cs, h with
  | [a, b, c, d, e, f, g, h, i, j, k, l, m, n, o], _ => rfl
section
variable {H : Type} {enc : TypeId × Value → H} {w : World} {base : Nat} {spare : Nat → Bool} {held : Bool}
set_option maxRecDepth 100000 in
theorem open_hf {fuel : Nat} {cs : List Value} {x : DataW H × List MemPlace} (h : DataW.trod enc Tryd.prog w base spare held fuel 28 cs = some x) : ∃ y : Hf, y.Ok ∧ cs = hfC y := by
  obtain ⟨z0, z1, z2, m, _, hl, k0, k1, k2⟩ := Go.Deep.trod_struct3 Tryd.underlying28 h
  obtain ⟨c, ec, _, hc⟩ := DataW.trod_int Tryd.underlying3 k0
  obtain ⟨b, eb, _⟩ := DataW.trod_bool Tryd.underlying4 k1
  obtain ⟨zs, hz, e, hw⟩ := open_nums UNr UUr cUr cNr k2
  obtain ⟨X, hX, e2⟩ := limbs_of zs 5 hz hw
  have bi := bounds_i64 hc
  have g0 : (cs.drop 0).take (Tryd.prog.cellsOf 3) = [.int .i64 c] := ec
  have g1 : (cs.drop 1).take (Tryd.prog.cellsOf 4) = [.bool b] := eb
  have g2 : (cs.drop 2).take (Tryd.prog.cellsOf 26) = zs.map (Value.int .u64) := e
  rw [cI1] at g0
  rw [cB1] at g1
  rw [cNr, e2] at g2
  have hcs := cut7 cs (hl.trans cHf)
  rw [g0, g1, g2] at hcs
  exact ⟨⟨c, b, X⟩, ⟨hX, by show c ≤ _; omega, by show _ ≤ c; omega⟩, hcs.trans rfl⟩
set_option maxRecDepth 100000 in
theorem open_ro {fuel : Nat} {cs : List Value} {x : DataW H × List MemPlace} (h : DataW.trod enc Tryd.prog w base spare held fuel 30 cs = some x) : ∃ y : Ro, y.Ok ∧ cs = roC y := by
  obtain ⟨z0, z1, z2, m, _, hl, k0, k1, k2⟩ := Go.Deep.trod_struct3 Tryd.underlying30 h
  obtain ⟨c, ec, _, hc⟩ := DataW.trod_int Tryd.underlying3 k0
  obtain ⟨a, ha, ea⟩ := open_hf k1
  obtain ⟨b, hb, eb⟩ := open_hf k2
  have bi := bounds_i64 hc
  have g0 : (cs.drop 0).take (Tryd.prog.cellsOf 3) = [.int .i64 c] := ec
  have g1 : (cs.drop 1).take (Tryd.prog.cellsOf 28) = hfC a := ea
  have g2 : (cs.drop 8).take (Tryd.prog.cellsOf 28) = hfC b := eb
  rw [cI1] at g0
  rw [cHf] at g1 g2
  have hcs := cut15 cs (hl.trans cRo)
  rw [g0, g1, g2] at hcs
  exact ⟨⟨c, a, b⟩, ⟨ha, hb, by show c ≤ _; omega, by show _ ≤ c; omega⟩, hcs⟩
instance : Inhabited Ro := ⟨⟨0, ⟨0, false, 0⟩, ⟨0, false, 0⟩⟩⟩
set_option maxRecDepth 100000 in
theorem open_rows {a : Option Addr} {len cap : Nat} {d : DataW H} {ps : List MemPlace} {ts : List TypeId} {ds : List (DataW H)} {j : Nat}
    (hr : (DataW.weightsEach Tryd.prog ts ds).all (· ≤ reachBytes) = true) (htj : ts[j]? = some 22) (hdj : ds[j]? = some d)
    (h : DataW.Trod enc Tryd.prog w base spare held 22 (.slice a len cap) d ps) : ∃ l : List Ro, SL roC 15 w (.slice a len cap) l ∧ ∀ r ∈ l, r.Ok := by
  obtain ⟨l, _, s, q, _⟩ := open_flat (encA := roC) (Py := Ro.Ok) URsl cRo (by decide) bRo (by decide) (fun n cs x hx => open_ro hx) hr htj hdj h
  exact ⟨l, s, q⟩
end
end Go.Proofs.YtihdeanfcbiflaaDoor.Wh
