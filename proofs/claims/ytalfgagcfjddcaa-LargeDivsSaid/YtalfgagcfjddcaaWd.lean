/- The walks of chapter 1's functions that put and take a number's bytes. -/
import Derived.Test.YtalfgagcfjddcaaMk
import Derived.Test.YtalfgagcfjddcaaWdMath
import Derived.Laws.BitsAllLaws
import Derived.Test.YtalfgagcfjddcaaProg
namespace Go.Proofs.Ytalfgagcfjddcaa.Wd
open Go.RowKit Go.Proofs.Ytalfgagcfjddcaa.Mk
open Extern.Stop (cell)
theorem UBs : Try.prog.underlying 82 = some (.slice 5) := by kernel_rfl
theorem UBy : Try.prog.underlying 5 = some (.int .u8) := by kernel_rfl
theorem USt : Try.prog.underlying 9 = some .string := by kernel_rfl
theorem infoByte : (Try.prog.info? 5).map (fun i => (i.zero, i.size, i.bytes)) = some (some (.int .u8 0), 1, 1) := by kernel_rfl
theorem made_one (z : Value) (n : Nat) : madeCells #[z] n = (List.replicate n z).toArray := by
  apply Array.ext
  · rw [size_madeCells]; simp
  · intro i h1 h2
    simp [madeCells, Nat.mod_one]
theorem madeN (n : Nat) (hn : n ≤ 1000000) (wx : World) : (Instr.makeSlice 82 (.int .i64 n) (.int .i64 n)).run Try.prog wx = .ok (.slice (some ⟨wx.heap.size, 0, none⟩) n n) (wx.alloc (.cells (List.replicate n (.int .u8 0)).toArray 5)) := by
  obtain ⟨i, hi, hz0, hz1, hz2⟩ := info_parts infoByte
  have := run_make (P := Try.prog) (w := wx) 82 5 i (.int .u8 0) UBs hi hz0 .i64 .i64 n n (by omega) (by omega) (by rw [hz2]; omega) (by omega)
  rw [this, hz1]
  have e : madeCells (Value.int .u8 0).cells (Int.toNat n * 1) = (List.replicate n (.int .u8 0)).toArray := by
    rw [Int.toNat_natCast, Nat.mul_one]
    exact made_one (.int .u8 0) n
  rw [e]
  simp
/-- k bytes put, the others 0 -/
def puts (n k x : Nat) : List Value := List.replicate (n - k) (.int .u8 0) ++ hc (beL k x)
theorem puts_len (n k x : Nat) (h : k ≤ n) : (puts n k x).length = n := by
  unfold puts
  rw [List.length_append, hc_len, beL_len, List.length_replicate]
  omega
theorem puts_get (n k x : Nat) (h : k < n) : (puts n k x)[n - 1 - k]? = some (.int .u8 0) := by
  unfold puts
  rw [List.getElem?_append_left (by rw [List.length_replicate]; omega), List.getElem?_replicate, if_pos (by omega)]
theorem puts_set (n k x : Nat) (h : k < n) : (puts n k x).set (n - 1 - k) (.int .u8 ((x / 256 ^ k % 256 : Nat) : Int)) = puts n (k + 1) x := by
  unfold puts
  have e : List.replicate (n - k) (Value.int .u8 0) = List.replicate (n - (k + 1)) (.int .u8 0) ++ [.int .u8 0] := by
    rw [show n - k = (n - (k + 1)) + 1 by omega, List.replicate_succ']
  have e2 : hc (beL (k + 1) x) = .int .u8 ((x / 256 ^ k % 256 : Nat) : Int) :: hc (beL k x) := by
    rw [beL]
    simp only [hc, List.map_cons, cell, UInt8.toNat_ofNat']
    rfl
  rw [e, e2, List.append_assoc, List.set_append_right _ _ (by rw [List.length_replicate]; omega), List.length_replicate, show n - 1 - k - (n - (k + 1)) = 0 by omega]
  rfl
set_option maxHeartbeats 4000000 in
set_option maxRecDepth 100000 in
theorem put_calls (x n : Nat) (w : World) (hx : x < 18446744073709551616) (hn : n ≤ 8) :
    Calls Try.prog 65 #[.int .u64 x, .int .i64 n] w fun e w' => e = .returned (.string (ba (beL n x))) ∧ Below w.heap.size w w' := by
  have hm := madeN n (by omega)
  go_enter Try.func65, Try.ntmps65
  go_wp2_with fail
  go_loopw [0, 10] (fun s0 s10 wr => ∃ k : Nat, k ≤ n ∧ s10 = .int .i64 k ∧ s0 = .int .u64 ((x / 256 ^ k : Nat) : Int) ∧ Hid (wr.heap[w.heap.size]? = some (.cells (puts n k x).toArray 5 (0, 0))) ∧ Below w.heap.size w wr) (fun _ s10 _ => n - (intOf s10).toNat)
  case atStart =>
    refine ⟨0, by omega, rfl, by simp, Lib.hid ?_, (Below.refl _ _).alloc (Nat.le_refl _) _⟩
    rw [heap_alloc_new]
    simp [puts, beL, hc]
  case round =>
    obtain ⟨k, hk, rfl, rfl, hcs, hbw⟩ := hrel
    by_cases hkl : k < n
    · have hget := puts_get n k x hkl
      have hset := puts_set n k x hkl
      have c1 : wr.cell? ⟨w.heap.size, n - 1 - k, none⟩ = some (.int .u8 0) := by
        rw [cell_of_row _ _ _ _ _ _ hcs.out, List.getElem?_toArray]
        exact hget
      have f1 : wr.frozen? ⟨w.heap.size, n - 1 - k, none⟩ = false := by simp [World.frozen?, hcs.out]
      have hds := div_step x k
      have Hnew := Lib.hid (show (wr.setCell ⟨w.heap.size, n - 1 - k, none⟩ (.int .u8 ((x / 256 ^ k % 256 : Nat) : Int))).heap[w.heap.size]? = some (.cells (puts n (k + 1) x).toArray 5 (0, 0)) by
        rw [← hset]
        simp [World.setCell, Array.getElem?_modify, hcs.out])
      have Hds := Lib.hid hds
      have hle : x / 256 ^ k < 18446744073709551616 := Nat.lt_of_le_of_lt (Nat.div_le_self _ _) hx
      clear hget hset hds
      generalize x / 256 ^ k = y at *
      go_wp2_with fail
      go_roundw
      case rel => exact ⟨k + 1, by omega, by go_num, by rw [← Hds.out]; go_num, Hnew, hbw.setCell (p := ⟨w.heap.size, n - 1 - k, none⟩) (by simp) _⟩
      case measure => simp [intOf] <;> omega
    · obtain rfl : k = n := by omega
      have h2 := hcs.out
      have e : puts k k x = hc (beL k x) := by unfold puts; simp
      rw [e] at h2
      have hs : SB wr (.slice (some ⟨w.heap.size, 0, none⟩) k k) (beL k x) :=
        ⟨by rw [beL_len]; simp [maxLen]; omega, some ⟨w.heap.size, 0, none⟩, k, by rw [beL_len], by rw [beL_len]; exact Nat.le_refl _, by simp [maxLen]; omega, fun _ => ⟨w.heap.size, 0, rfl, range_row h2⟩⟩
      have hcv := run_string_bytes (P := Try.prog) UBs UBy USt hs
      clear hs hcs h2 e
      go_wp2_with fail
      go_ret
      exact ⟨rfl, hbw⟩
set_option maxHeartbeats 1000000 in
theorem put64_calls (x : Nat) (w : World) (hx : x < 18446744073709551616) :
    Calls Try.prog 56 #[.int .u64 x] w fun e w' => e = .returned (.string (ba (beL 8 x))) ∧ Below w.heap.size w w' := by
  have HP := Lib.hid (put_calls x 8 w hx (by decide))
  generalize ba (beL 8 x) = s at *
  go_enter Try.func56, Try.ntmps56
  go_wp2_with fail
  refine HP.out.mono ?_
  rintro e w1 ⟨rfl, hb1⟩
  have HB := Lib.hid hb1
  clear hb1
  go_wp2_with fail
  go_ret
  exact ⟨rfl, HB.out⟩
theorem or_step (x b : Nat) (hx : x < 72057594037927936) (hb : b < 256) : Go.bits .or .u64 ((x : Int) * 256) (IntKind.u64.wrap (b : Int)) = ((x * 256 + b : Nat) : Int) := by
  have wu64 : ∀ x : Int, 0 ≤ x → x < 18446744073709551616 → IntKind.u64.wrap x = x := fun x h0 h1 => by rw [IntKind.wrap_u64]; omega
  rw [wu64 _ (by omega) (by omega)]
  rw [show ((x : Int) * 256) = ((x * 256 : Nat) : Int) by omega, u64_or_nat _ _ (by omega) (by omega), nat_join 8 _ _ (by omega) (by omega)]
set_option maxHeartbeats 4000000 in
set_option maxRecDepth 100000 in
theorem take_calls (s : ByteArray) (at_ n : Nat) (w : World) (hs : s.size ≤ 9223372036854775807) (h : at_ + n ≤ s.size) (hn : n ≤ 8) :
    Calls Try.prog 64 #[.string s, .int .i64 at_, .int .i64 n] w fun e w' => e = .returned (.int .u64 (beN (((bs s).drop at_).take n))) ∧ w' = w := by
  have hbs := bs_len s
  have Hbs := Lib.hid hbs
  clear hbs
  go_enter Try.func64, Try.ntmps64
  go_wp2_with fail
  go_loop [7, 8, 10] (fun s7 _ s10 => ∃ k : Nat, k ≤ n ∧ s10 = .int .i64 k ∧ s7 = .int .u64 (beN (((bs s).drop at_).take k))) (fun _ _ s10 => n - (intOf s10).toNat)
  case atStart => exact ⟨0, by omega, rfl, by simp [beN]⟩
  case round =>
    obtain ⟨k, hk, rfl, rfl⟩ := hrel
    by_cases hkl : k < n
    · have hlt : at_ + k < s.size := by omega
      have hlt2 : at_ + k < (bs s).length := by rw [Hbs.out]; exact hlt
      have hd : k < ((bs s).drop at_).length := by rw [List.length_drop, Hbs.out]; omega
      have hst := beN_take ((bs s).drop at_) k hd
      rw [List.getElem_drop, bs_get s _ hlt hlt2] at hst
      have h8 := beN_lt8 (((bs s).drop at_).take k) (by rw [List.length_take]; omega)
      have hor : Go.bits .or .u64 ((beN (((bs s).drop at_).take k) : Int) * 256) (IntKind.u64.wrap ((s[at_ + k]'hlt).toNat : Int)) = ((beN (((bs s).drop at_).take (k + 1)) : Nat) : Int) := by
        rw [hst]
        exact or_step _ _ h8 (UInt8.toNat_lt _)
      have Hor := Lib.hid hor
      clear hst hor hd hlt2 Hbs
      generalize beN (((bs s).drop at_).take k) = y at *
      go_wp2_with fail
      go_round
      case rel => exact ⟨k + 1, by omega, by go_num, by rw [Hor.out]⟩
      case measure => simp [intOf] <;> omega
    · obtain rfl : k = n := by omega
      go_wp2_with fail
      go_ret
      exact ⟨rfl, rfl⟩
theorem ret_u {k : IntKind} {a b : Int} (h : a = b) : Ending.returned (.int k a) = .returned (.int k b) := by rw [h]
theorem beN_lt32 (l : List UInt8) (h : l.length ≤ 4) : beN l < 4294967296 :=
  Nat.lt_of_lt_of_le (beN_lt l) (Nat.le_trans (Nat.pow_le_pow_right (by decide) h) (by decide))
set_option maxHeartbeats 1000000 in
theorem take64_calls (s : ByteArray) (at_ : Nat) (w : World) (hs : s.size ≤ 9223372036854775807) (h : at_ + 8 ≤ s.size) :
    Calls Try.prog 55 #[.string s, .int .i64 at_] w fun e w' => e = .returned (.int .u64 (beN (((bs s).drop at_).take 8))) ∧ w' = w := by
  have HP := Lib.hid (take_calls s at_ 8 w hs h (by decide))
  generalize beN (((bs s).drop at_).take 8) = y at *
  go_enter Try.func55, Try.ntmps55
  go_wp2_with fail
  refine HP.out.mono ?_
  rintro e w1 ⟨rfl, rfl⟩
  go_wp2_with fail
  go_ret
  exact ⟨rfl, rfl⟩
end Go.Proofs.Ytalfgagcfjddcaa.Wd
