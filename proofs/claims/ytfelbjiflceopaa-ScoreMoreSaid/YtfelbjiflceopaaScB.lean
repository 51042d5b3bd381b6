/- The walks of chapter 41's Best, and of the document's. -/
import Derived.Test.YtfelbjiflceopaaSc
import Derived.Test.YtfelbjiflceopaaR5C
import Derived.Test.YtfelbjiflceopaaEqF
namespace Go.Proofs.Ytfelbjiflceopaa.Sc
open Go.RowKit Go.Proofs.Ytfelbjiflceopaa.Mk Go.Proofs.Ytfelbjiflceopaa.Ul Go.Proofs.Ytfelbjiflceopaa.Wi Go.Proofs.Ytfelbjiflceopaa.Lg Go.Proofs.Ytfelbjiflceopaa.Up Go.Proofs.Ytfelbjiflceopaa.R5
theorem bst_yes {zs : List Int} {m : Int} {k : Nat} (h : mayS zs k m = true) (h2 : (bst zs m k).1 < valS zs k) : bst zs m (k + 1) = (valS zs k, k) := by rw [bst, if_pos ⟨h, h2⟩]
theorem bst_no {zs : List Int} {m : Int} {k : Nat} (h : ¬ (mayS zs k m = true ∧ (bst zs m k).1 < valS zs k)) : bst zs m (k + 1) = bst zs m k := by rw [bst, if_neg h]
theorem cmp_gt {x y : Nat} : 0 < cmpI x y ↔ y < x := by
  unfold cmpI
  split
  · constructor <;> intro h <;> omega
  · split
    · constructor <;> intro h <;> omega
    · constructor <;> intro h <;> omega
set_option maxHeartbeats 4000000 in
set_option maxRecDepth 100000 in
theorem rbest_calls (v : Value) (zs : List Int) (m : Int) (w : World) (hz : ZS w v zs) :
    Calls Try.prog 21 #[v, .int .i64 m] w fun e w' => ∃ r, e = .returned (.tuple #[r, .int .i64 ((bst zs m 256).2 : Nat)]) ∧ DV w' r (bst zs m 256).1 ∧ Below w.heap.size w w' := by
  have HM := Lib.hid (fun l wx (hx : Below w.heap.size w wx) => rmay_calls v zs l m wx (hz.below hx))
  have HV := Lib.hid (fun l wx (hx : Below w.heap.size w wx) => rvalue_calls v zs l wx (hz.below hx))
  have HC := Lib.hid (fun X Y v1 v2 w h1 h2 => r5cmp_calls X Y v1 v2 w h1 h2)
  obtain ⟨A, cap, rfl, _⟩ := hz.cell1
  clear hz
  go_enter Try.func21, Try.ntmps21
  go_wp2_with fail
  go_loopw [6, 7, 8] (fun s6 s7 s8 wr => ∃ k : Nat, k ≤ 256 ∧ s8 = .int .i64 k ∧ s7 = .int .i64 ((bst zs m k).2 : Nat) ∧ Hid (DV wr s6 (bst zs m k).1) ∧ Below w.heap.size w wr) (fun _ _ s8 _ => 256 - (intOf s8).toNat)
  case atStart => exact ⟨0, by omega, rfl, rfl, Lib.hid (DV_nil _), Below.refl _ _⟩
  case round =>
    rename_i s6 _ _ _
    obtain ⟨k, hk, rfl, rfl, D, B⟩ := hrel
    by_cases hlt : k < 256
    · have HB := Lib.hid B
      have hM := Lib.hid (HM.out k wr B)
      cases hm : mayS zs k m with
      | false =>
        have hn := Lib.hid (bst_no (m := m) (k := k) (zs := zs) (fun h => by rw [hm] at h; exact absurd h.1 (by decide)))
        rw [hm] at hM
        clear hm
        go_wp2_with fail
        refine hM.out.mono ?_
        rintro e w2 ⟨rfl, hb2⟩
        have D2 := Lib.hid (D.out.below hb2)
        have B2 := below_up HB.out hb2
        clear hb2 B
        go_wp2_with fail
        go_roundw
        case rel => exact ⟨k + 1, by omega, by go_num, by rw [hn.out], by rw [hn.out]; exact D2, B2⟩
        case measure => simp [intOf] <;> omega
      | true =>
        rw [hm] at hM
        have hVl := fun (wx : World) (hx : Below w.heap.size w wx) => HV.out k wx hx
        have HVl := Lib.hid hVl
        have hC := Lib.hid (fun v1 v2 w h1 h2 => HC.out (valS zs k) (bst zs m k).1 v1 v2 w h1 h2)
        by_cases hg : (bst zs m k).1 < valS zs k
        · have hn := Lib.hid (bst_yes hm hg)
          have t1 := Lib.hid (cmp_gt.2 hg)
          clear hm hVl B hg
          generalize valS zs k = V at *
          generalize cmpI V (bst zs m k).1 = c at *
          go_wp2_with fail
          refine hM.out.mono ?_
          rintro e w2 ⟨rfl, hb2⟩
          have D2 := Lib.hid (D.out.below hb2)
          have B2 := Lib.hid (below_up HB.out hb2)
          clear hb2 D
          go_wp2_with fail
          refine (HVl.out _ B2.out).mono ?_
          rintro e w3 ⟨x3, rfl, d3, hb3⟩
          have E3 := Lib.hid d3
          have D3 := Lib.hid (D2.out.below hb3)
          have B3 := Lib.hid (below_up B2.out hb3)
          clear hb3 d3 D2
          go_wp2_with fail
          refine (hC.out _ _ _ E3.out D3.out).mono ?_
          rintro e w4 ⟨rfl, hb4⟩
          have E4 := Lib.hid (E3.out.below hb4)
          have B4 := below_up B3.out hb4
          clear hb4 D3
          have t1 := t1.out
          go_wp2_with fail
          go_roundw
          case rel => exact ⟨k + 1, by omega, by go_num, by rw [hn.out], by rw [hn.out]; exact E4, B4⟩
          case measure => simp [intOf] <;> omega
        · have hn := Lib.hid (bst_no (m := m) (k := k) (zs := zs) (fun h => hg h.2))
          have t1 := Lib.hid (show ¬ 0 < cmpI (valS zs k) (bst zs m k).1 from fun h => hg (cmp_gt.1 h))
          clear hm hVl B hg
          generalize valS zs k = V at *
          generalize cmpI V (bst zs m k).1 = c at *
          go_wp2_with fail
          refine hM.out.mono ?_
          rintro e w2 ⟨rfl, hb2⟩
          have D2 := Lib.hid (D.out.below hb2)
          have B2 := Lib.hid (below_up HB.out hb2)
          clear hb2 D
          go_wp2_with fail
          refine (HVl.out _ B2.out).mono ?_
          rintro e w3 ⟨x3, rfl, d3, hb3⟩
          have E3 := Lib.hid d3
          have D3 := Lib.hid (D2.out.below hb3)
          have B3 := Lib.hid (below_up B2.out hb3)
          clear hb3 d3 D2
          go_wp2_with fail
          refine (hC.out _ _ _ E3.out D3.out).mono ?_
          rintro e w4 ⟨rfl, hb4⟩
          have E4 := Lib.hid (D3.out.below hb4)
          have B4 := below_up B3.out hb4
          clear hb4 D3 E3
          have t1 : decide (0 < c) = false := decide_eq_false (by have := t1.out; omega)
          go_wp2_with fail
          go_roundw
          case rel => exact ⟨k + 1, by omega, by go_num, by rw [hn.out], by rw [hn.out]; exact E4, B4⟩
          case measure => simp [intOf] <;> omega
    · obtain rfl : k = 256 := by omega
      have HB := Lib.hid B
      clear B
      go_wp2_with fail
      go_ret2
      exact ⟨_, rfl, D.out, HB.out⟩
/-- a score's cells -/
def scC (V L : Nat) : List Value := FC 5 (lb V) ++ [.int .i64 (L : Int)]
def oSc (V L : Nat) : Obj := .cells (scC V L).toArray 35 (0, 0)
abbrev vSc (V L : Nat) : Value := .agg (scC V L).toArray
theorem scC_len (V L : Nat) : (scC V L).length = 6 := by simp [scC, FC_len]
theorem USc : Try.prog.underlying 35 = some (.struct (Try.prog.fieldsOf 35)) := by kernel_rfl
theorem ISc (V L : Nat) : (Try.prog.info? 35).map (·.size) = some (scC V L).toArray.size := by rw [List.size_toArray, scC_len]; kernel_rfl
theorem one_sc (V L : Nat) : (scC V L).toArray.all (·.oneCell') = true := by simp [scC, FC, Value.oneCell']
theorem build_S {o : Oper} {a : Act} {w : World} {x y : Operand} {V L : Nat} (ho : o.op = .build 35 #[(0, x), (1, y)]) (hx : a.eval x = .agg (FC 5 (lb V)).toArray) (hy : a.eval y = .int .i64 (L : Int)) : (execOp a.eval o).run Try.prog w = .ok (.value (vSc V L)) w := by
  unfold execOp
  simp only [ho, List.map_toArray, List.map_cons, List.map_nil, hx, hy]
  obtain ⟨f, hf⟩ : ∃ f, f = lb V := ⟨_, rfl⟩
  unfold vSc scC
  rw [← hf]
  kernel_rfl
theorem stoodSc : Try.prog.stoodInHeld 35 = false := by kernel_rfl
theorem plI : Try.prog.plainKey 3 = true := by kernel_rfl
theorem UI : Try.prog.underlying 3 = some (.int .i64) := by kernel_rfl
theorem UU : Try.prog.underlying 24 = some (.int .u64) := by kernel_rfl
theorem ext_v (V L : Nat) : (scC V L).toArray.extract 0 (0 + 5) = (FC 5 (lb V)).toArray := by
  apply Array.ext'
  rw [Array.toList_extract]
  simp only [List.extract, List.drop_zero]
  show (scC V L).take 5 = _
  unfold scC
  rw [List.take_left' (FC_len _ _)]
theorem get_l (V L : Nat) : (scC V L).toArray[5]? = some (.int .i64 (L : Int)) := by
  rw [List.getElem?_toArray]
  unfold scC
  rw [List.getElem?_append_right (by rw [FC_len]; decide), FC_len]
  rfl
theorem sizeN (w : World) : (sizeOf 26).run Try.prog w = .ok 5 w := Try.sizeOf26 w
def FCi (f : Nat → Nat) : List Int := (List.range 5).map fun i => (f i : Int)
theorem FCi_eq (f : Nat → Nat) : FC 5 f = (FCi f).map (Value.int .u64) := by simp [FC, FCi]
theorem eq_sc (V L V' L' : Nat) (w : World) : (Op.equalIn 10000 35 (vSc V L) (vSc V' L')).run Try.prog w = .ok ((FCi (lb V) == FCi (lb V')) && (((L : Int) == (L' : Int)) && true)) w := by
  unfold vSc
  rw [run_equalIn_struct w 9999 35 _ _ USc stoodSc]
  unfold Program.fieldsOf
  rw [Try.underlying35]
  refine feq_cons (by decide) (part_row UN5 sizeN (ext_v V L) (by rw [List.size_toArray, scC_len]; decide)) (part_row UN5 sizeN (ext_v V' L') (by rw [List.size_toArray, scC_len]; decide)) ?_ ?_
  · rw [FCi_eq, FCi_eq]
    exact run_equalIn_ints w 9997 26 24 .u64 5 UN5 UU Try.sizeOf24 _ _ (by simp [FCi]) (by simp [FCi])
  · exact feq_cons (by decide) (run_part_plain w plI (get_l V L)) (run_part_plain w plI (get_l V' L')) (run_equalIn_int w 9998 _ _ _ _ _ UI) feq_nil
theorem FCi_iff {V V' : Nat} (h : V < (2 ^ 64) ^ 5) (h' : V' < (2 ^ 64) ^ 5) : (FCi (lb V) == FCi (lb V')) = decide (V = V') := by
  rw [Bool.eq_iff_iff, beq_iff_eq, decide_eq_true_eq]
  constructor
  · intro e
    refine dg_ext' (B := 2 ^ 64) (by decide) h h' (fun i hi => ?_)
    have e2 := congrArg (fun l : List Int => l[i]?) e
    simp only [FCi, List.getElem?_map, List.getElem?_range hi, Option.map_some, Option.some.injEq] at e2
    exact Int.ofNat.inj e2
  · intro e; rw [e]
/-- are two scores the same? -/
def eqS (V L V' L' : Nat) : Bool := decide (V = V') && ((L : Int) == (L' : Int))
theorem eqSc {V L V' L' : Nat} (h : V < (2 ^ 64) ^ 5) (h' : V' < (2 ^ 64) ^ 5) (w : World) : (binOp .eql 35 (vSc V L) (vSc V' L')).run Try.prog w = .ok (.bool (eqS V L V' L')) w := by
  have := eq_sc V L V' L' w
  rw [FCi_iff h h', Bool.and_true] at this
  unfold vSc at *
  rw [run_eql_struct, this]
  rfl
theorem eqScg (V L V' L' : Nat) (w : World) (a b : Operand) : (eqGuard .eql 35 a b (vSc V L) (vSc V' L')).run Try.prog w = .ok () w := run_eqGuard_agg _ _ _ _ _ _ _ (by kernel_rfl)
theorem sc_range {w : World} {g V L : Nat} (h : w.heap[g]? = some (oSc V L)) : w.rangeAt g 0 (FC 5 (lb V)) := fun j v hv => by
  have hj : j < 5 := by have := (List.getElem?_eq_some_iff.1 hv).1; rwa [FC_len] at this
  rw [cell_of_row _ _ _ _ _ _ h, List.getElem?_toArray, Nat.zero_add]
  unfold scC
  rw [List.getElem?_append_left (by rw [FC_len]; exact hj)]
  exact hv
theorem ldSc {w : World} {g V L : Nat} (h : w.heap[g]? = some (oSc V L)) : (Instr.loadAt 35 (.pointer (some ⟨g, 0, none⟩))).run Try.prog w = .ok (vSc V L) w := by
  simp only [Instr.loadAt, Instr.sureAddr, Sem.run_bind, Sem.run_pure, Result.andThen_ok, run_loadVar_row w g _ 35 _ _ _ h USc rfl (ISc V L)]
end Go.Proofs.Ytfelbjiflceopaa.Sc
