/- The walk of the document's number as a sum. -/
import Derived.IntWalk
import Derived.Test.YtalfgagcfjddcaaHf
import Derived.Test.YtalfgagcfjddcaaR4S
namespace Go.Proofs.Ytalfgagcfjddcaa.R4
open Go.Proofs.Ytalfgagcfjddcaa.Hf
open Go.RowKit Go.Proofs.Ytalfgagcfjddcaa.Mk Go.Proofs.Ytalfgagcfjddcaa.Ul Go.Proofs.Ytalfgagcfjddcaa.Wd Go.Proofs.Ytalfgagcfjddcaa.Wi
open Extern.Stop (cell)
def mk8 (n : Nat) : Value := .int .u8 (n : Int)
theorem GC_beL (X : Nat) : GC mk8 32 (hb X 256) = hc (beL 32 X) := by
  have g : ∀ n X i, i < n → (beL n X)[i]? = some (UInt8.ofNat (X / 256 ^ (n - 1 - i))) := by
    intro n
    induction n with
    | zero => intro X i hi; omega
    | succ n ih =>
      intro X i hi
      rw [beL]
      cases i with
      | zero => simp
      | succ i => rw [List.getElem?_cons_succ, ih X i (by omega), show n + 1 - 1 - (i + 1) = n - 1 - i by omega]
  apply List.ext_getElem?
  intro i
  by_cases hi : i < 32
  · rw [GC_get _ hi, hc, List.getElem?_map, g 32 X i hi]
    simp only [Option.map_some, mk8, cell, UInt8.toNat_ofNat', hb, hiX_all]
    rfl
  · rw [List.getElem?_eq_none (by rw [GC_len]; omega), List.getElem?_eq_none (by rw [hc_len, beL_len]; omega)]
theorem GC_zero {X : Nat} (hX : X < 2 ^ 256) : GC mk8 32 (hb X 0) = hc (List.replicate 32 0) := by
  have : hb X 0 = fun _ => 0 := by
    funext q
    rw [hb, hiX_zero hX]
    exact dg_zero _
  rw [this]
  rfl
/-- what lies where in the loop of Hash -/
def RHQ (b o X g i : Nat) (w wr : World) : Prop := BR wr b o X ∧ GK mk8 (g + 1) 32 (hb X i) 23 wr ∧ wr.heap[g]? = some (.cells (hc (List.replicate 32 0)).toArray 23 (0, 0)) ∧ Below w.heap.size w wr
set_option maxHeartbeats 4000000 in
set_option maxRecDepth 100000 in
theorem rhash_calls (X b1 o1 k1 : Nat) (w : World) (hX : X < 2 ^ 256) (r1 : BR w b1 o1 X) :
    Calls Try.prog 21 #[.slice (some ⟨b1, o1, none⟩) 256 k1] w fun e w' => e = .returned (hv (beL 32 X)) ∧ Below w.heap.size w w' := by
  have HX := Lib.hid hX
  have HB := Lib.hid r1.lt
  have R1 := Lib.hid r1
  clear hX r1
  go_enter Try.func21, Try.ntmps21
  go_wp2_with fail
  generalize hW : World.alloc (World.alloc w _) _ = W
  have H0 : Hid (RHQ b1 o1 X w.heap.size 0 w W) := Lib.hid (by
    rw [← hW]
    refine ⟨R1.out.below (bl2 _ _ _), ?_, (Below.heap_alloc _ _ _ (by simp)).trans (nw1 _ _), bl2 _ _ _⟩
    unfold GK
    rw [nw2, GC_zero HX.out]
    rfl)
  clear hW
  go_loopw [4] (fun s4 wr => ∃ i : Nat, i ≤ 256 ∧ s4 = .int .i64 i ∧ Hid (RHQ b1 o1 X w.heap.size i w wr)) (fun s4 _ => 256 - (intOf s4).toNat)
  case atStart => exact ⟨0, by omega, rfl, H0⟩
  case round =>
    obtain ⟨i, hi, rfl, hq⟩ := hrel
    by_cases hil : i < 256
    · have c1 := hq.out.1 (255 - i) (by omega)
      have hbl := HB.out
      have i1 : (0 : Int) ≤ 255 - (i : Int) := by omega
      have i2 : (255 : Int) - (i : Int) < 256 := by omega
      have hsm := hiX_same (X := X) (i := i) hil
      have hth := hb_this (X := X) (i := i) hil
      cases hbit : X.testBit (255 - i)
      · rw [hbit] at c1
        have HS : Hid (RHQ b1 o1 X w.heap.size (i + 1) w wr) := Lib.hid (by
          have he : hb X (i + 1) = hb X i := by funext q; unfold hb; rw [hsm hbit]
          unfold RHQ
          rw [he]
          exact hq.out)
        clear hsm hth hbit
        go_wp2_with fail
        go_roundw
        case rel => exact ⟨i + 1, by omega, by go_num, HS⟩
        case measure => simp [intOf] <;> omega
      · rw [hbit] at c1
        have hlt := hb_lt X (i + 1) (i / 8)
        have c3 : wr.drew.cell? ⟨w.heap.size + 1, i / 8, none⟩ = some (.int .u8 (hb X i (i / 8) : Nat)) := hq.out.2.1.cell (i := i / 8) (by omega)
        have z3 : wr.drew.frozen? ⟨w.heap.size + 1, i / 8, none⟩ = false := hq.out.2.1.free (i / 8)
        have hp7 := pow7 i
        have hnew : IntKind.u8.wrap ((hb X i (i / 8) : Int) + 128 / 2 ^ (i % 8)) = (hb X (i + 1) (i / 8) : Int) := by
          rw [hp7, IntKind.wrap_u8', hth hbit]
          rw [hth hbit] at hlt
          generalize 2 ^ (7 - i % 8) = p at *
          omega
        have hup : upg (hb X i) (i / 8) (hb X (i + 1) (i / 8)) = fun q => if q < 32 then hb X (i + 1) q else upg (hb X i) (i / 8) (hb X (i + 1) (i / 8)) q := by
          funext q
          by_cases hq : q < 32
          · rw [if_pos hq]
            unfold upg
            by_cases hqi : q = i / 8
            · rw [if_pos hqi, hqi]
            · rw [if_neg hqi, hb_other hil hq hqi]
          · rw [if_neg hq]
        have hS : ∀ nq, RHQ b1 o1 X w.heap.size (i + 1) w ((wr.drewN nq).setCell ⟨w.heap.size + 1, i / 8, none⟩ (.int .u8 (hb X (i + 1) (i / 8) : Nat))) := fun nq =>
          ⟨BR.eq (w := wr) hq.out.1 (Below.heap_setCell _ _ _ _ (by simp <;> omega)), (GK.set (w := wr.drewN nq) hq.out.2.1 (hb X (i + 1) (i / 8))).ext (fun q hq => by rw [hup]; exact if_pos hq),
            (Below.heap_setCell _ _ _ _ (by simp <;> omega)).trans hq.out.2.2.1, (bdN hq.out.2.2.2 nq).setCell (p := ⟨w.heap.size + 1, i / 8, none⟩) (by simp <;> omega) _⟩
        have HS := Lib.hid hS
        clear hsm hth hbit hlt hp7 hup hS hbl
        generalize hb X i (i / 8) = a at *
        generalize hb X (i + 1) (i / 8) = c at *
        go_wp2_with fail
        go_region
        all_goals
          have HS2 := Lib.hid (HS.out 0)
          clear HS c3 z3 hnew
          go_wp2_with fail
          go_roundw
          case rel => exact ⟨i + 1, by omega, by go_num, Lib.hid ⟨HS2.out.1, HS2.out.2.1, HS2.out.2.2.1, HS2.out.2.2.2.drew⟩⟩
          case measure => simp [intOf] <;> omega
    · obtain rfl : i = 256 := by omega
      have h2 : wr.heap[w.heap.size + 1]? = some (.cells (hc (beL 32 X)).toArray 23 (0, 0)) := by rw [← GC_beL]; exact hq.out.2.1
      have hL := beL_len 32 X
      obtain ⟨l, hl⟩ : ∃ l, l = beL 32 X := ⟨_, rfl⟩
      rw [← hl] at h2 hL
      have K2 := Lib.hid hq.out.2.2.1
      have K3 := Lib.hid h2
      have K4 := Lib.hid hq.out.2.2.2
      have HL := Lib.hid (And.intro hl hL)
      clear hl hL h2 hq
      go_wp2_with (first | (refine wpList_load_row (by rfl) 23 (.tmp 3) (by rfl) _ (by rfl) _ _ _ _ K3.out UH rfl (IHa HL.out.2) ?_) | (refine wpList_store_row (by rfl) 23 _ _ rfl _ (hc l).toArray rfl rfl _ _ K2.out (IHa HL.out.2) (by rw [List.size_toArray, List.size_toArray, hc_len, hc_len, HL.out.2]; rfl) (hc_one l) ?_))
      exact bodyPost_ret (results_cell 2 23 _ _ rfl rfl (run_loadVar_row _ _ _ _ _ _ _ (setRow_heap _ _ _ _ _ _ K2.out) UH rfl (IHa HL.out.2))) rfl ⟨by rw [← HL.out.1]; rfl, below_setRow K4.out (by omega)⟩
end Go.Proofs.Ytalfgagcfjddcaa.R4
