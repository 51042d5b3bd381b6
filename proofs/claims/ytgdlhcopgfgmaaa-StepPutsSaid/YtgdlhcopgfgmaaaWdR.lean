/- The walks of the document's functions that put and take a number's bytes, and of a sum's bytes. -/
import Derived.Test.YtgdlhcopgfgmaaaWd
import Derived.Test.YtgdlhcopgfgmaaaBut
namespace Go.Proofs.Ytgdlhcopgfgmaaa.Wd
open Go.RowKit Go.Proofs.Ytgdlhcopgfgmaaa.Mk
open Extern.Stop (cell)
theorem cell_nat (y : Nat) (hy : y < 256) : cell (UInt8.ofNat y) = .int .u8 (y : Int) := by
  simp only [cell, UInt8.toNat_ofNat']
  rw [Nat.mod_eq_of_lt (by omega)]
  rfl
set_option maxHeartbeats 1000000 in
set_option maxRecDepth 100000 in
theorem rbyte_calls (z : Int) (w : World) (h0 : 0 ≤ z) (h1 : z < 256) :
    Calls Try.prog 81 #[.int .i64 z] w fun e w' => e = .returned (.string (ba [UInt8.ofNat z.toNat])) ∧ Below w.heap.size w w' := by
  obtain ⟨y, rfl⟩ := Int.eq_ofNat_of_zero_le h0
  rw [Int.toNat_natCast]
  have hy : y < 256 := by omega
  have hSB : SB (w.alloc (.cells #[.int .u8 (y : Int)] 5)) (.slice (some ⟨w.heap.size, 0, none⟩) 1 1) [UInt8.ofNat y] :=
    ⟨by simp [maxLen], some ⟨w.heap.size, 0, none⟩, 1, rfl, Nat.le_refl _, by simp [maxLen], fun _ => ⟨w.heap.size, 0, rfl, fun j u hj => by
      have e : hc [UInt8.ofNat y] = [.int .u8 (y : Int)] := by simp [hc, cell_nat y hy]
      rw [e] at hj
      rw [cell_of_row _ _ _ _ _ _ (heap_alloc_new w _)]
      simpa using hj⟩⟩
  have hcv := run_string_bytes (P := Try.prog) UBs UBy USt hSB
  generalize ba [UInt8.ofNat y] = s at *
  clear hSB
  go_enter Try.func81, Try.ntmps81
  go_wp2_with fail
  go_ret
  exact ⟨rfl, (Below.refl _ _).alloc (Nat.le_refl _) _⟩
theorem ofNat_mod (y : Nat) : UInt8.ofNat (((y : Nat) : Int) % 256).toNat = UInt8.ofNat y := by
  have e : (((y : Nat) : Int) % 256).toNat = y % 256 := by omega
  rw [e]
  apply UInt8.toNat.inj
  rw [UInt8.toNat_ofNat', UInt8.toNat_ofNat']
  omega
set_option maxHeartbeats 4000000 in
set_option maxRecDepth 100000 in
theorem rput_calls (x n : Nat) (w : World) (hx : x < 18446744073709551616) (hn : n ≤ 1000) :
    Calls Try.prog 52 #[.int .u64 x, .int .i64 n] w fun e w' => e = .returned (.string (ba (beL n x))) ∧ Below w.heap.size w w' := by
  go_enter Try.func52, Try.ntmps52
  go_wp2_with fail
  go_loopw [0, 5, 6] (fun s0 s5 s6 wr => ∃ k : Nat, k ≤ n ∧ s6 = .int .i64 k ∧ s0 = .int .u64 ((x / 256 ^ k : Nat) : Int) ∧ s5 = .string (ba (beL k x)) ∧ Below w.heap.size w wr) (fun _ _ s6 _ => n - (intOf s6).toNat)
  case atStart => exact ⟨0, by omega, rfl, by simp, rfl, Below.refl _ _⟩
  case round =>
    obtain ⟨k, hk, rfl, rfl, rfl, hbw⟩ := hrel
    by_cases hkl : k < n
    · have hds := Lib.hid (div_step x k)
      have hle : x / 256 ^ k < 18446744073709551616 := Nat.lt_of_le_of_lt (Nat.div_le_self _ _) hx
      have hcons := Lib.hid (show ba [UInt8.ofNat (x / 256 ^ k)] ++ ba (beL k x) = ba (beL (k + 1) x) by rw [ba_append]; rfl)
      have hadd : (ba [UInt8.ofNat (x / 256 ^ k)]).size + (ba (beL k x)).size ≤ 9223372036854775807 := by rw [ba_size, ba_size, beL_len]; simp; omega
      generalize x / 256 ^ k = y at *
      have HB := Lib.hid (fun w => rbyte_calls ((y : Int) % 256) w (by omega) (by omega))
      rw [ofNat_mod] at HB
      generalize ba (beL k x) = t at *
      generalize ba [UInt8.ofNat y] = u at *
      go_wp2_with fail
      refine (HB.out _).mono ?_
      rintro e w1 ⟨rfl, hb1⟩
      have hb2 := Lib.hid (below_up hbw hb1)
      clear hb1
      go_wp2_with fail
      go_roundw
      case rel => exact ⟨k + 1, by omega, by go_num, by rw [← hds.out]; go_num, by rw [hcons.out], hb2.out⟩
      case measure => simp [intOf] <;> omega
    · obtain rfl : k = n := by omega
      go_wp2_with fail
      go_ret
      exact ⟨rfl, hbw⟩
theorem add_step (x b : Nat) (hx : x < 72057594037927936) (hb : b < 256) : IntKind.u64.wrap ((x : Int) * 256 + IntKind.u64.wrap (b : Int)) = ((x * 256 + b : Nat) : Int) := by
  have wu64 : ∀ x : Int, 0 ≤ x → x < 18446744073709551616 → IntKind.u64.wrap x = x := fun x h0 h1 => by rw [IntKind.wrap_u64]; omega
  rw [wu64 (b : Int) (by omega) (by omega), wu64 _ (by omega) (by omega)]
  omega
set_option maxHeartbeats 4000000 in
set_option maxRecDepth 100000 in
theorem rtake_calls (s : ByteArray) (at_ n : Nat) (w : World) (hs : s.size ≤ 9223372036854775807) (h : at_ + n ≤ s.size) (hn : n ≤ 8) :
    Calls Try.prog 55 #[.string s, .int .i64 at_, .int .i64 n] w fun e w' => e = .returned (.int .u64 (beN (((bs s).drop at_).take n))) ∧ w' = w := by
  have Hbs := Lib.hid (bs_len s)
  go_enter Try.func55, Try.ntmps55
  go_wp2_with fail
  go_loop [7, 8] (fun s7 s8 => ∃ k : Nat, k ≤ n ∧ s8 = .int .i64 k ∧ s7 = .int .u64 (beN (((bs s).drop at_).take k))) (fun _ s8 => n - (intOf s8).toNat)
  case atStart => exact ⟨0, by omega, rfl, by simp [beN]⟩
  case round =>
    obtain ⟨k, hk, rfl, rfl⟩ := hrel
    by_cases hkl : k < n
    · have hlt : at_ + k < s.size := by omega
      have hlt2 : at_ + k < (bs s).length := by rw [Hbs.out]; exact hlt
      have hd : k < ((bs s).drop at_).length := by rw [List.length_drop, Hbs.out]; omega
      have hst := beN_take ((bs s).drop at_) k hd
      rw [List.getElem_drop, bs_get s _ hlt hlt2] at hst
      have h8 := beN_lt8 (((bs s).drop at_).take k) (by rw [List.length_take]; omega)
      have hst' : beN (((bs s).drop at_).take (k + 1)) = beN (((bs s).drop at_).take k) * 256 + (s[at_ + k]'hlt).toNat := hst
      have Hst := Lib.hid hst'
      have hb := (s[at_ + k]'hlt).toNat_lt
      clear hst hst' hd hlt2 Hbs
      generalize beN (((bs s).drop at_).take k) = y at *
      go_wp2_with fail
      go_round
      case rel => exact ⟨k + 1, by omega, by go_num, by rw [Hst.out]; first | go_num | rw [add_step _ _ h8 hb]⟩
      case measure => simp [intOf] <;> omega
    · obtain rfl : k = n := by omega
      go_wp2_with fail
      go_ret
      exact ⟨rfl, rfl⟩
/-- k bytes copied, the others 0 -/
def part (x : List UInt8) (k : Nat) : List Value := hc (x.take k) ++ List.replicate (32 - k) (.int .u8 0)
theorem part_len (x : List UInt8) (k : Nat) (hx : x.length = 32) (hk : k ≤ 32) : (part x k).length = 32 := by
  unfold part
  rw [List.length_append, hc_len, List.length_take, List.length_replicate]
  omega
theorem part_set (x : List UInt8) (k : Nat) (hx : x.length = 32) (hk : k < 32) (h : k < x.length) : (part x k).set k (.int .u8 (x[k].toNat : Int)) = part x (k + 1) := by
  unfold part
  have e1 : hc (x.take (k + 1)) = hc (x.take k) ++ [.int .u8 (x[k].toNat : Int)] := by
    rw [List.take_succ_eq_append_getElem h]
    unfold hc
    rw [List.map_append]
    rfl
  have e2 : List.replicate (32 - k) (Value.int .u8 0) = .int .u8 0 :: List.replicate (32 - (k + 1)) (.int .u8 0) := by
    rw [show 32 - k = (32 - (k + 1)) + 1 by omega, List.replicate_succ]
  have e3 : (hc (x.take k)).length = k := by rw [hc_len, List.length_take]; omega
  rw [e1, e2, List.set_append_right _ _ (by omega), e3]
  simp
theorem part_all (x : List UInt8) (hx : x.length = 32) : part x 32 = hc x := by
  unfold part
  rw [List.take_of_length_le (by omega)]
  simp
set_option maxHeartbeats 4000000 in
set_option maxRecDepth 100000 in
theorem raw03_calls (x : List UInt8) (w : World) (hx : x.length = 32) :
    Calls Try.prog 53 #[hv x] w fun e w' => e = .returned (.string (ba x)) ∧ Below w.heap.size w w' := by
  have HX := Lib.hid hx
  have hm : ∀ wx, (Instr.makeSlice 89 (.int .i64 32) (.int .i64 32)).run Try.prog wx = .ok (.slice (some ⟨wx.heap.size, 0, none⟩) 32 32) (wx.alloc (.cells (List.replicate 32 (.int .u8 0)).toArray 5)) := madeN 32 (by decide)
  unfold hv
  clear hx
  go_enter Try.func53, Try.ntmps53
  go_wp2_with fail
  go_loopw [4] (fun s4 wr => ∃ k : Nat, k ≤ 32 ∧ s4 = .int .i64 k ∧ Hid (wr.heap[w.heap.size]? = some (.cells (hc x).toArray 24 (0, 0)) ∧ wr.heap[w.heap.size + 1]? = some (.cells (part x k).toArray 5 (0, 0))) ∧ Below w.heap.size w wr) (fun s4 _ => 32 - (intOf s4).toNat)
  case atStart =>
    refine ⟨0, by omega, rfl, Lib.hid ⟨?_, ?_⟩, ((Below.refl _ _).alloc (Nat.le_refl _) _).alloc (by simp) _⟩
    · exact (Below.heap_alloc _ _ _ (by simp)).trans (heap_new _ _)
    · have := heap_new (w.alloc (.cells (hc x).toArray 24)) (.cells (List.replicate 32 (.int .u8 0)).toArray 5)
      rw [World.size_alloc] at this
      exact this
  case round =>
    obtain ⟨k, hk, rfl, hcs, hbw⟩ := hrel
    by_cases hkl : k < 32
    · have hx := HX.out
      have hcs2 := hcs.out
      have hkx : k < x.length := by omega
      have c1 : wr.cell? ⟨w.heap.size, k, none⟩ = some (.int .u8 (x[k].toNat : Int)) := by
        rw [cell_of_row _ _ _ _ _ _ hcs2.1]
        simp [hc, hkx]
        rfl
      have hpl := part_len x k hx hk
      have c2 : wr.cell? ⟨w.heap.size + 1, k, none⟩ = some (.int .u8 0) := by
        rw [cell_of_row _ _ _ _ _ _ hcs2.2]
        unfold part
        rw [List.getElem?_toArray, List.getElem?_append_right (by rw [hc_len, List.length_take]; omega), List.getElem?_replicate, if_pos (by rw [hc_len, List.length_take]; omega)]
      have f2 : wr.frozen? ⟨w.heap.size + 1, k, none⟩ = false := by simp [World.frozen?, hcs2.2]
      have hnew : Hid ((wr.setCell ⟨w.heap.size + 1, k, none⟩ (.int .u8 (x[k].toNat : Int))).heap[w.heap.size]? = some (.cells (hc x).toArray 24 (0, 0)) ∧ (wr.setCell ⟨w.heap.size + 1, k, none⟩ (.int .u8 (x[k].toNat : Int))).heap[w.heap.size + 1]? = some (.cells (part x (k + 1)).toArray 5 (0, 0))) := Lib.hid ⟨(Below.heap_setCell _ _ _ _ (by simp)).trans hcs2.1, by
        rw [← part_set x k hx hkl hkx]
        simp [World.setCell, Array.getElem?_modify, hcs2.2]⟩
      clear hcs2 hpl hx hcs
      generalize x[k] = c at *
      go_wp2_with fail
      go_roundw
      case rel => exact ⟨k + 1, by omega, by go_num, hnew, hbw.setCell (p := ⟨w.heap.size + 1, k, none⟩) (by simp) _⟩
      case measure => simp [intOf] <;> omega
    · obtain rfl : k = 32 := by omega
      have hs : SB wr (.slice (some ⟨w.heap.size + 1, 0, none⟩) 32 32) x := by
        have h2 := hcs.out.2
        rw [part_all x HX.out] at h2
        exact ⟨by rw [HX.out]; simp [maxLen], some ⟨w.heap.size + 1, 0, none⟩, 32, by rw [HX.out], by rw [HX.out]; exact Nat.le_refl _, by simp [maxLen], fun _ => ⟨w.heap.size + 1, 0, rfl, range_row h2⟩⟩
      have hcv := run_string_bytes (P := Try.prog) UBs UBy USt hs
      clear hs hcs
      go_wp2_with fail
      go_ret
      exact ⟨rfl, hbw⟩
end Go.Proofs.Ytgdlhcopgfgmaaa.Wd
