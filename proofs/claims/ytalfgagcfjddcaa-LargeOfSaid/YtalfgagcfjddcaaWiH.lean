/- The walks of a sum as a number, and of a number as a sum. -/
import Derived.Deep.RegionLaw
import Derived.IntWalk
import Derived.Lib.BufferWrite
import Derived.Test.YtalfgagcfjddcaaHf
import Derived.Test.YtalfgagcfjddcaaWi
import Derived.Test.YtalfgagcfjddcaaStep
import Derived.Test.YtalfgagcfjddcaaWiB
import Derived.Test.YtalfgagcfjddcaaWd
namespace Go.Proofs.Ytalfgagcfjddcaa.Wi
open Go.Proofs.Ytalfgagcfjddcaa.Hf
open Go.RowKit Go.Proofs.Ytalfgagcfjddcaa.Mk Go.Proofs.Ytalfgagcfjddcaa.Ul Go.Proofs.Ytalfgagcfjddcaa.Wd
open Extern.Stop (cell)
theorem conv_hash {g : Nat} {l : List UInt8} {w : World} (h : w.heap[g]? = some (.cells (hc l).toArray 23 (0, 0))) (hl : l.length = 32) : (convert 82 9 (.slice (some ⟨g, 0, none⟩) 32 32)).run Try.prog w = .ok (.string (ba l)) w :=
  run_string_bytes (P := Try.prog) UBs UBy USt ⟨by rw [hl]; simp [maxLen], some ⟨g, 0, none⟩, 32, by rw [hl], by rw [hl]; exact Nat.le_refl _, by simp [maxLen], fun _ => ⟨g, 0, rfl, range_row h⟩⟩
theorem upd_ge (g : Nat → Nat) (k : Nat) (hk : k < 4) : upd (fun i => if 4 ≤ i + k then g i else 0) (3 - k) (g (3 - k)) = fun i => if 4 ≤ i + (k + 1) then g i else 0 := by
  funext i
  unfold upd
  by_cases h : i = 3 - k
  · subst h
    rw [if_pos rfl, if_pos (by omega)]
  · rw [if_neg h]
    simp only
    by_cases h2 : 4 ≤ i + k
    · rw [if_pos h2, if_pos (by omega)]
    · rw [if_neg h2, if_neg (by omega)]
/-- what lies where in the loop of Of -/
def OfQ (g : Nat) (h : List UInt8) (f : Nat → Nat) (w wr : World) : Prop := wr.heap[g]? = some (.cells (hc h).toArray 23 (0, 0)) ∧ FB (g + 1) 4 (fun _ => 0) 37 wr ∧ FB (g + 1 + 1) 4 f 37 wr ∧ Below w.heap.size w wr
set_option maxHeartbeats 4000000 in
set_option maxRecDepth 100000 in
theorem of_calls (h : List UInt8) (w : World) (hl : h.length = 32) :
    Calls Try.prog 24 #[hv h] w fun e w' => e = .returned (UV 4 (beN h)) ∧ Below w.heap.size w w' := by
  have HL := Lib.hid hl
  clear hl
  unfold hv UV
  go_enter Try.func24, Try.ntmps24
  go_wp2_with fail
  rw [zero4]
  generalize hW : World.alloc (World.alloc (World.alloc w _) _) _ = W
  have H0 : OfQ w.heap.size h (fun _ => 0) w W := by
    rw [← hW]
    exact ⟨(Below.heap_alloc _ _ _ (by simp <;> omega)).trans ((Below.heap_alloc _ _ _ (by simp)).trans (nw1 _ _)), FB.alloc (nw2 _ _ _) _, nw3 _ _ _ _, bl3 _ _ _ _⟩
  have H1 := Lib.hid H0
  clear hW H0
  go_loopw [5] (fun s5 wr => ∃ k : Nat, k ≤ 4 ∧ s5 = .int .i64 k ∧ Hid (OfQ w.heap.size h (fun i => if 4 ≤ i + k then lb (beN h) i else 0) w wr)) (fun s5 _ => 4 - (intOf s5).toNat)
  case atStart =>
    refine ⟨0, by omega, rfl, Lib.hid ⟨H1.out.1, H1.out.2.1, H1.out.2.2.1.ext (fun i hi => by rw [if_neg (by omega)]), H1.out.2.2.2⟩⟩
  case round =>
    obtain ⟨k, hk, rfl, hq⟩ := hrel
    by_cases hkl : k < 4
    · obtain ⟨h1, h2, h3, h4⟩ := hq.out
      have c1 := h3.cell (i := 3 - k) (by omega)
      have z1 := h3.free (3 - k)
      have hcv := conv_hash h1 HL.out
      have i1 : (0 : Int) ≤ 3 - (k : Int) := by omega
      have i2 : (3 : Int) - (k : Int) < 4 := by omega
      have ht := fun w => take64_calls (ba h) (8 * k) w (by rw [ba_size, HL.out]; decide) (by rw [ba_size, HL.out]; omega)
      rw [bs_ba, chunk_of h HL.out k hkl, show ((8 * k : Nat) : Int) = 8 * (k : Int) by omega] at ht
      have HT := Lib.hid ht
      have hup := upd_ge (lb (beN h)) k hkl
      have HS := Lib.hid (h3.set (lb (beN h) (3 - k)) (show 3 - k < 4 by omega))
      rw [hup] at HS
      clear h1 h2 h3 h4 hup ht
      generalize lb (beN h) (3 - k) = a at *
      generalize ba h = s at *
      go_wp2_with fail
      refine (HT.out _).mono ?_
      rintro e w1 ⟨rfl, rfl⟩
      go_wp2_with fail
      go_roundw
      case rel => exact ⟨k + 1, by omega, by go_num, Lib.hid ⟨(Below.heap_setCell _ _ _ _ (by simp <;> omega)).trans hq.out.1, hq.out.2.1.other (by omega) _, HS.out, hq.out.2.2.2.setCell (p := ⟨_, 3 - k, none⟩) (by simp <;> omega) _⟩⟩
      case measure => simp [intOf] <;> omega
    · obtain rfl : k = 4 := by omega
      obtain ⟨h1, h2, h3, h4⟩ := hq.out
      have K3 := Lib.hid (show FB (w.heap.size + 1 + 1) 4 (lb (beN h)) 37 wr from h3.ext (fun i _ => if_pos (by omega)))
      have K2 := Lib.hid h2
      have K4 := Lib.hid h4
      clear h1 h2 h3 h4 hq
      obtain ⟨f, hf⟩ : ∃ f, f = lb (beN h) := ⟨_, rfl⟩
      rw [← hf] at K3
      have Hf := Lib.hid hf
      clear hf
      go_wp2_with (first | (refine wpList_load_row (by rfl) 37 (.tmp 3) (by rfl) _ (by rfl) _ _ _ _ K3.out UN4 rfl (IN4 f) ?_) | (refine wpList_store_row (by rfl) 37 _ _ rfl _ (FC 4 f).toArray rfl rfl _ _ K2.out (IN4 f) (SZ4 _ f) (FC_one 4 f) ?_))
      exact bodyPost_ret (results_cell 2 37 _ _ rfl rfl (ld4 K2.out)) rfl ⟨by rw [Hf.out], below_setRow K4.out (by omega)⟩
theorem rowByte : (Try.prog.info? 5).map (·.size) = some 1 := by kernel_rfl
/-- what lies where in the loop of Hash -/
def HaQ (g X k : Nat) (w wr : World) : Prop := FB g 4 (lb X) 37 wr ∧ wr.heap[g + 1]? = some (.cells (hc (List.replicate 32 0)).toArray 23 (0, 0)) ∧ wr.heap[g + 1 + 1]? = some (.cells (hc (fst (beL 32 X) (8 * k))).toArray 23 (0, 0)) ∧ Below w.heap.size w wr
set_option maxHeartbeats 4000000 in
set_option maxRecDepth 100000 in
theorem hash_calls (X : Nat) (w : World) :
    Calls Try.prog 25 #[UV 4 X] w fun e w' => e = .returned (hv (beL 32 X)) ∧ Below w.heap.size w w' := by
  unfold UV
  go_enter Try.func25, Try.ntmps25
  go_wp2_with fail
  generalize hW : World.alloc (World.alloc (World.alloc w _) _) _ = W
  have H0 : HaQ w.heap.size X 0 w W := by
    rw [← hW]
    refine ⟨FB.alloc (FB.alloc (nw1 _ _) _) _, (Below.heap_alloc _ _ _ (by simp)).trans ?_, ?_, bl3 _ _ _ _⟩
    · rw [nw2]
      rfl
    · rw [nw3, show fst (beL 32 X) (8 * 0) = List.replicate 32 0 from fst_zero _]
      rfl
  have H1 := Lib.hid H0
  clear hW H0
  go_loopw [5] (fun s5 wr => ∃ k : Nat, k ≤ 4 ∧ s5 = .int .i64 k ∧ Hid (HaQ w.heap.size X k w wr)) (fun s5 _ => 4 - (intOf s5).toNat)
  case atStart => exact ⟨0, by omega, rfl, H1⟩
  case round =>
    obtain ⟨k, hk, rfl, hq⟩ := hrel
    by_cases hkl : k < 4
    · obtain ⟨h1, h2, h3, h4⟩ := hq.out
      have c1 := h1.drew.cell (i := 3 - k) (by omega)
      have i1 : (0 : Int) ≤ 3 - (k : Int) := by omega
      have i2 : (3 : Int) - (k : Int) < 4 := by omega
      have hP := put64_calls (lb X (3 - k)) wr.drew (lb_lt X _)
      have HP := Lib.hid (hP.mono (R' := fun e w1 => e = .returned (.string (ba (beL 8 (lb X (3 - k))))) ∧ Hid (HaQ w.heap.size X k w w1) ∧
          Hid ((Builtin.copy_ #[82, 9] 3 #[.slice (some ⟨w.heap.size + 1 + 1, 8 * k, none⟩) (32 - 8 * k) (32 - 8 * k), .string (ba (beL 8 (lb X (3 - k))))]).run Try.prog w1 = .ok (goInt 8) (w1.setRow (w.heap.size + 1 + 1) (hc (fst (beL 32 X) (8 * (k + 1)))).toArray))) (fun e w1 hx => by
        obtain ⟨he, hb⟩ := hx
        have y3 : w1.heap[w.heap.size + 1 + 1]? = some (.cells (hc (fst (beL 32 X) (8 * k))).toArray 23 (0, 0)) := (hb.block _ (Array.getElem?_eq_some_iff.1 h3).1).trans h3
        have y2 := (hb.block _ (Array.getElem?_eq_some_iff.1 h2).1).trans h2
        have hcp := Lib.run_copy_row_string (P := Try.prog) w1 82 9 3 5 (w.heap.size + 1 + 1) (8 * k) (32 - 8 * k) (32 - 8 * k) (ba (beL 8 (lb X (3 - k)))) _ 23 UBs rowByte y3 (by rw [ba_size, beL_len]; omega) (by rw [ba_size, beL_len, List.size_toArray, hc_len, fst_len _ _ (beL_len _ _) (by omega)]; omega)
        have hfs := fst_step (beL 32 X) k (beL_len _ _) hkl
        rw [chunk X k hkl] at hfs
        have hrow : ((hc (fst (beL 32 X) (8 * k))).toArray.toList.take (8 * k) ++ Lib.byteCells (ba (beL 8 (lb X (3 - k)))).data.toList ++ (hc (fst (beL 32 X) (8 * k))).toArray.toList.drop (8 * k + 8)).toArray = (hc (fst (beL 32 X) (8 * (k + 1)))).toArray := by
          rw [← hfs]
          unfold hc
          rw [List.map_append, List.map_append, List.map_take, List.map_drop]
          rfl
        rw [ba_size, beL_len, hrow] at hcp
        exact ⟨he, Lib.hid ⟨h1.drew.keep hb, y2, y3, h4.drew.trans (hb.mono h4.drew.size)⟩, Lib.hid hcp⟩))
      clear h1 h2 h3 h4 hP hq
      generalize lb X (3 - k) = a at *
      generalize ba (beL 8 a) = s at *
      go_wp2_with fail
      have i4 : (0 : Int) ≤ 8 * (k : Int) := by omega
      have i5 : (8 : Int) * (k : Int) ≤ 32 := by omega
      have e1 : IntKind.i64.wrap (8 * (k : Int)) = 8 * (k : Int) := IntWalk.i64_in _ (by omega)
      have e2 : IntKind.i64.wrap (3 - (k : Int)) = 3 - (k : Int) := IntWalk.i64_in _ (by omega)
      have e3 : (8 * (k : Int)).toNat = 8 * k := by omega
      have i6 : (k : Int) ≤ 3 := by omega
      have i7 : ¬ 32 = 8 * k := by omega
      have e4 : (3 - (k : Int)).toNat = 3 - k := by omega
      go_region_law (first | (refine step_copy_run rfl (.tmp 10) (.tmp 15) 82 9 rfl _ _ rfl rfl hcp.out ?_) | (go_simp; go_at_call 56; refine HP.out.mono ?_; rintro r w1 ⟨rfl, hy, hcp⟩))
      have HN := Lib.hid (show HaQ w.heap.size X (k + 1) w (w1.setRow (w.heap.size + 1 + 1) (hc (fst (beL 32 X) (8 * (k + 1)))).toArray) from
        ⟨(setRow_other _ _ _ _ (by omega)).trans hy.out.1, (setRow_other _ _ _ _ (by omega)).trans hy.out.2.1, setRow_heap _ _ _ _ _ _ hy.out.2.2.1, below_setRow hy.out.2.2.2 (by omega)⟩)
      clear hcp hy e1 e2 e3 e4 i1 i2 i4 i5 i6 i7
      generalize w1.setRow _ _ = W2 at *
      go_wp2_with fail
      go_roundw
      case rel => exact ⟨k + 1, by omega, by go_num, HN⟩
      case measure => simp [intOf] <;> omega
    · obtain rfl : k = 4 := by omega
      obtain ⟨h1, h2, h3, h4⟩ := hq.out
      rw [show 8 * 4 = 32 from rfl, fst_all _ (beL_len _ _)] at h3
      have hL := beL_len 32 X
      obtain ⟨l, hl⟩ : ∃ l, l = beL 32 X := ⟨_, rfl⟩
      rw [← hl] at h3 hL
      have K2 := Lib.hid h2
      have K3 := Lib.hid h3
      have K4 := Lib.hid h4
      have HL := Lib.hid (And.intro hl hL)
      clear hl hL h1 h2 h3 h4 hq
      go_wp2_with (first | (refine wpList_load_row (by rfl) 23 (.tmp 3) (by rfl) _ (by rfl) _ _ _ _ K3.out UH rfl (IHa HL.out.2) ?_) | (refine wpList_store_row (by rfl) 23 _ _ rfl _ (hc l).toArray rfl rfl _ _ K2.out (IHa HL.out.2) (by rw [List.size_toArray, List.size_toArray, hc_len, hc_len, HL.out.2]; rfl) (hc_one l) ?_))
      exact bodyPost_ret (results_cell 2 23 _ _ rfl rfl (run_loadVar_row _ _ _ _ _ _ _ (setRow_heap _ _ _ _ _ _ K2.out) UH rfl (IHa HL.out.2))) rfl ⟨by rw [← HL.out.1]; rfl, below_setRow K4.out (by omega)⟩
end Go.Proofs.Ytalfgagcfjddcaa.Wi
