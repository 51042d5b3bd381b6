/- The walk of the document's Raw: a sum's bytes. -/
import Derived.Test.YtgdlhcopgfgmaaaBufH
namespace Go.Proofs.Ytgdlhcopgfgmaaa.Buf
open Go.RowKit Go.Proofs.Ytgdlhcopgfgmaaa.Mk
/-- k bytes copied, the others 0 -/
def part (x : H) (k : Nat) : List Value := hc (x.take k) ++ List.replicate (32 - k) (.int .u8 0)
theorem part_len (x : H) (k : Nat) (hx : x.length = 32) (hk : k ≤ 32) : (part x k).length = 32 := by
  unfold part
  rw [List.length_append, hc_len, List.length_take, List.length_replicate]
  omega
theorem part_set (x : H) (k : Nat) (hx : x.length = 32) (hk : k < 32) (h : k < x.length) : (part x k).set k (.int .u8 (x[k].toNat : Int)) = part x (k + 1) := by
  unfold part
  have e1 : hc (x.take (k + 1)) = hc (x.take k) ++ [.int .u8 (x[k].toNat : Int)] := by
    rw [List.take_succ_eq_append_getElem h]
    unfold hc
    rw [List.map_append]
    rfl
  have e2 : List.replicate (32 - k) (Value.int .u8 0) = .int .u8 0 :: List.replicate (32 - (k + 1)) (.int .u8 0) := by
    rw [show 32 - k = (32 - (k + 1)) + 1 by omega, List.replicate_succ]
  have e3 : (hc (x.take k)).length = k := by rw [hc_len, List.length_take]; omega
  rw [e1, e2, List.set_append_right _ _ (by omega), e3]
  simp
theorem part_all (x : H) (hx : x.length = 32) : part x 32 = hc x := by
  unfold part
  rw [List.take_of_length_le (by omega)]
  simp
theorem made_one (z : Value) (n : Nat) : madeCells #[z] n = (List.replicate n z).toArray := by
  apply Array.ext
  · rw [size_madeCells]; simp
  · intro i h1 h2
    simp [madeCells, Nat.mod_one]
theorem made32 (wx : World) : (Instr.makeSlice 89 (.int .i64 32) (.int .i64 32)).run Try.prog wx = .ok (.slice (some ⟨wx.heap.size, 0, none⟩) 32 32) (wx.alloc (.cells (List.replicate 32 (.int .u8 0)).toArray 5)) := by
  obtain ⟨i, hi, hz0, hz1, hz2⟩ := info_parts infoByte
  have := run_make (P := Try.prog) (w := wx) 89 5 i (.int .u8 0) UBs hi hz0 .i64 .i64 32 32 (by decide) (by decide) (by rw [hz2]; decide) (by decide)
  rw [this, hz1]
  have e : madeCells (Value.int .u8 0).cells (Int.toNat 32 * 1) = (List.replicate 32 (.int .u8 0)).toArray := by
    exact made_one (.int .u8 0) 32
  rw [e]
  rfl
set_option maxHeartbeats 4000000 in
set_option maxRecDepth 100000 in
theorem raw03_calls (x : H) (w : World) (hx : x.length = 32) :
    Calls Try.prog 53 #[hv x] w fun e w' => e = .returned (.string (ba x)) ∧ Below w.heap.size w w' := by
  have HX := Lib.hid hx
  have hm := made32
  unfold hv
  clear hx
  go_enter Try.func53, Try.ntmps53
  go_wp2_with fail
  go_loopw [4] (fun s4 wr => ∃ k : Nat, k ≤ 32 ∧ s4 = .int .i64 k ∧ Hid (wr.heap[w.heap.size]? = some (.cells (hc x).toArray 24 (0, 0)) ∧ wr.heap[w.heap.size + 1]? = some (.cells (part x k).toArray 5 (0, 0))) ∧ Below w.heap.size w wr) (fun s4 _ => 32 - (intOf s4).toNat)
  case atStart =>
    refine ⟨0, by omega, rfl, Lib.hid ⟨?_, ?_⟩, ((Below.refl _ _).alloc (Nat.le_refl _) _).alloc (by simp) _⟩
    · exact (Below.heap_alloc _ _ _ (by simp)).trans (heap_new _ _)
    · have := heap_new (w.alloc (.cells (hc x).toArray 24)) (.cells (List.replicate 32 (.int .u8 0)).toArray 5)
      rw [World.size_alloc] at this
      exact this
  case round =>
    obtain ⟨k, hk, rfl, hcs, hbw⟩ := hrel
    by_cases hkl : k < 32
    · have hx := HX.out
      have hcs2 := hcs.out
      have hkx : k < x.length := by omega
      have c1 : wr.cell? ⟨w.heap.size, k, none⟩ = some (.int .u8 (x[k].toNat : Int)) := by
        rw [cell_of_row _ _ _ _ _ _ hcs2.1]
        simp [hc, hkx]
        rfl
      have hpl := part_len x k hx hk
      have c2 : wr.cell? ⟨w.heap.size + 1, k, none⟩ = some (.int .u8 0) := by
        rw [cell_of_row _ _ _ _ _ _ hcs2.2]
        unfold part
        rw [List.getElem?_toArray, List.getElem?_append_right (by rw [hc_len, List.length_take]; omega), List.getElem?_replicate, if_pos (by rw [hc_len, List.length_take]; omega)]
      have f2 : wr.frozen? ⟨w.heap.size + 1, k, none⟩ = false := by simp [World.frozen?, hcs2.2]
      have hnew : Hid ((wr.setCell ⟨w.heap.size + 1, k, none⟩ (.int .u8 (x[k].toNat : Int))).heap[w.heap.size]? = some (.cells (hc x).toArray 24 (0, 0)) ∧ (wr.setCell ⟨w.heap.size + 1, k, none⟩ (.int .u8 (x[k].toNat : Int))).heap[w.heap.size + 1]? = some (.cells (part x (k + 1)).toArray 5 (0, 0))) := Lib.hid ⟨(Below.heap_setCell _ _ _ _ (by simp)).trans hcs2.1, by
        rw [← part_set x k hx hkl hkx]
        simp [World.setCell, Array.getElem?_modify, hcs2.2]⟩
      clear hcs2 hpl hx hcs
      generalize x[k] = c at *
      go_wp2_with fail
      go_roundw
      case rel => exact ⟨k + 1, by omega, by go_num, hnew, hbw.setCell (p := ⟨w.heap.size + 1, k, none⟩) (by simp) _⟩
      case measure => simp [intOf] <;> omega
    · obtain rfl : k = 32 := by omega
      have hs : SB wr (.slice (some ⟨w.heap.size + 1, 0, none⟩) 32 32) x := by
        have h2 := hcs.out.2
        rw [part_all x HX.out] at h2
        exact ⟨by rw [HX.out]; simp [maxLen], some ⟨w.heap.size + 1, 0, none⟩, 32, by rw [HX.out], by rw [HX.out]; exact Nat.le_refl _, by simp [maxLen], fun _ => ⟨w.heap.size + 1, 0, rfl, range_row h2⟩⟩
      have hcv := run_string_bytes (P := Try.prog) UBs UBy USt hs
      clear hs hcs
      go_wp2_with fail
      go_ret
      exact ⟨rfl, hbw⟩
end Go.Proofs.Ytgdlhcopgfgmaaa.Buf
