/- The walks of chapter 41's Best, and of the document's. -/
import Derived.Test.YtihdeanfcbiflaaDoorBm
import Derived.Test.YtihdeanfcbiflaaDoorBk
import Derived.Test.YtihdeanfcbiflaaDoorEqF
namespace Go.Proofs.YtihdeanfcbiflaaDoor.Sc
open Go.RowKit Go.Proofs.YtihdeanfcbiflaaDoor.Mk Go.Proofs.YtihdeanfcbiflaaDoor.Ul Go.Proofs.YtihdeanfcbiflaaDoor.Wi Go.Proofs.YtihdeanfcbiflaaDoor.Lg Go.Proofs.YtihdeanfcbiflaaDoor.Up Go.Proofs.YtihdeanfcbiflaaDoor.R5
theorem bst_yes {zs : List Int} {m : Int} {k : Nat} (h : mayS zs k m = true) (h2 : (bst zs m k).1 < valS zs k) : bst zs m (k + 1) = (valS zs k, k) := by rw [bst, if_pos ⟨h, h2⟩]
theorem bst_no {zs : List Int} {m : Int} {k : Nat} (h : ¬ (mayS zs k m = true ∧ (bst zs m k).1 < valS zs k)) : bst zs m (k + 1) = bst zs m k := by rw [bst, if_neg h]
theorem cmp_gt {x y : Nat} : 0 < cmpI x y ↔ y < x := by
  unfold cmpI
  split
  · constructor <;> intro h <;> omega
  · split
    · constructor <;> intro h <;> omega
    · constructor <;> intro h <;> omega
/-- a score's cells -/
def scC (V L : Nat) : List Value := FC 5 (lb V) ++ [.int .i64 (L : Int)]
def oSc (V L : Nat) : Obj := .cells (scC V L).toArray 49 (0, 0)
abbrev vSc (V L : Nat) : Value := .agg (scC V L).toArray
theorem scC_len (V L : Nat) : (scC V L).length = 6 := by simp [scC, FC_len]
theorem USc : Tryd.prog.underlying 49 = some (.struct (Tryd.prog.fieldsOf 49)) := by kernel_rfl
theorem ISc (V L : Nat) : (Tryd.prog.info? 49).map (·.size) = some (scC V L).toArray.size := by rw [List.size_toArray, scC_len]; kernel_rfl
theorem one_sc (V L : Nat) : (scC V L).toArray.all (·.oneCell') = true := by simp [scC, FC, Value.oneCell']
theorem build_S {o : Oper} {a : Act} {w : World} {x y : Operand} {V L : Nat} (ho : o.op = .build 49 #[(0, x), (1, y)]) (hx : a.eval x = .agg (FC 5 (lb V)).toArray) (hy : a.eval y = .int .i64 (L : Int)) : (execOp a.eval o).run Tryd.prog w = .ok (.value (vSc V L)) w := by
  unfold execOp
  simp only [ho, List.map_toArray, List.map_cons, List.map_nil, hx, hy]
  obtain ⟨f, hf⟩ : ∃ f, f = lb V := ⟨_, rfl⟩
  unfold vSc scC
  rw [← hf]
  kernel_rfl
theorem stoodSc : Tryd.prog.stoodInHeld 49 = false := by kernel_rfl
theorem plI : Tryd.prog.plainKey 3 = true := by kernel_rfl
theorem UI : Tryd.prog.underlying 3 = some (.int .i64) := by kernel_rfl
theorem UU : Tryd.prog.underlying 24 = some (.int .u64) := by kernel_rfl
theorem ext_v (V L : Nat) : (scC V L).toArray.extract 0 (0 + 5) = (FC 5 (lb V)).toArray := by
  apply Array.ext'
  rw [Array.toList_extract]
  simp only [List.extract, List.drop_zero]
  show (scC V L).take 5 = _
  unfold scC
  rw [List.take_left' (FC_len _ _)]
theorem get_l (V L : Nat) : (scC V L).toArray[5]? = some (.int .i64 (L : Int)) := by
  rw [List.getElem?_toArray]
  unfold scC
  rw [List.getElem?_append_right (by rw [FC_len]; decide), FC_len]
  rfl
theorem sizeN (w : World) : (sizeOf 26).run Tryd.prog w = .ok 5 w := Tryd.sizeOf26 w
def FCi (f : Nat → Nat) : List Int := (List.range 5).map fun i => (f i : Int)
theorem FCi_eq (f : Nat → Nat) : FC 5 f = (FCi f).map (Value.int .u64) := by simp [FC, FCi]
theorem eq_sc (V L V' L' : Nat) (w : World) : (Op.equalIn 10000 49 (vSc V L) (vSc V' L')).run Tryd.prog w = .ok ((FCi (lb V) == FCi (lb V')) && (((L : Int) == (L' : Int)) && true)) w := by
  unfold vSc
  rw [run_equalIn_struct w 9999 49 _ _ USc stoodSc]
  unfold Program.fieldsOf
  rw [Tryd.underlying49]
  refine feq_cons (by decide) (part_row UN5 sizeN (ext_v V L) (by rw [List.size_toArray, scC_len]; decide)) (part_row UN5 sizeN (ext_v V' L') (by rw [List.size_toArray, scC_len]; decide)) ?_ ?_
  · rw [FCi_eq, FCi_eq]
    exact run_equalIn_ints w 9997 26 24 .u64 5 UN5 UU Tryd.sizeOf24 _ _ (by simp [FCi]) (by simp [FCi])
  · exact feq_cons (by decide) (run_part_plain w plI (get_l V L)) (run_part_plain w plI (get_l V' L')) (run_equalIn_int w 9998 _ _ _ _ _ UI) feq_nil
theorem FCi_iff {V V' : Nat} (h : V < (2 ^ 64) ^ 5) (h' : V' < (2 ^ 64) ^ 5) : (FCi (lb V) == FCi (lb V')) = decide (V = V') := by
  rw [Bool.eq_iff_iff, beq_iff_eq, decide_eq_true_eq]
  constructor
  · intro e
    refine dg_ext' (B := 2 ^ 64) (by decide) h h' (fun i hi => ?_)
    have e2 := congrArg (fun l : List Int => l[i]?) e
    simp only [FCi, List.getElem?_map, List.getElem?_range hi, Option.map_some, Option.some.injEq] at e2
    exact Int.ofNat.inj e2
  · intro e; rw [e]
/-- are two scores the same? -/
def eqS (V L V' L' : Nat) : Bool := decide (V = V') && ((L : Int) == (L' : Int))
theorem eqSc {V L V' L' : Nat} (h : V < (2 ^ 64) ^ 5) (h' : V' < (2 ^ 64) ^ 5) (w : World) : (binOp .eql 49 (vSc V L) (vSc V' L')).run Tryd.prog w = .ok (.bool (eqS V L V' L')) w := by
  have := eq_sc V L V' L' w
  rw [FCi_iff h h', Bool.and_true] at this
  unfold vSc at *
  rw [run_eql_struct, this]
  rfl
theorem eqScg (V L V' L' : Nat) (w : World) (a b : Operand) : (eqGuard .eql 49 a b (vSc V L) (vSc V' L')).run Tryd.prog w = .ok () w := run_eqGuard_agg _ _ _ _ _ _ _ (by kernel_rfl)
theorem sc_range {w : World} {g V L : Nat} (h : w.heap[g]? = some (oSc V L)) : w.rangeAt g 0 (FC 5 (lb V)) := fun j v hv => by
  have hj : j < 5 := by have := (List.getElem?_eq_some_iff.1 hv).1; rwa [FC_len] at this
  rw [cell_of_row _ _ _ _ _ _ h, List.getElem?_toArray, Nat.zero_add]
  unfold scC
  rw [List.getElem?_append_left (by rw [FC_len]; exact hj)]
  exact hv
theorem ldSc {w : World} {g V L : Nat} (h : w.heap[g]? = some (oSc V L)) : (Instr.loadAt 49 (.pointer (some ⟨g, 0, none⟩))).run Tryd.prog w = .ok (vSc V L) w := by
  simp only [Instr.loadAt, Instr.sureAddr, Sem.run_bind, Sem.run_pure, Result.andThen_ok, run_loadVar_row w g _ 49 _ _ _ h USc rfl (ISc V L)]
end Go.Proofs.YtihdeanfcbiflaaDoor.Sc
