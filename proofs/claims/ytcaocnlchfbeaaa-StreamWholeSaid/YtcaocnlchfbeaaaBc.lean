import Derived.Test.YtcaocnlchfbeaaaBa
import Derived.Test.YtcaocnlchfbeaaaBb
import Derived.Laws.BitsAllLaws
import Derived.Test.YtcaocnlchfbeaaaProg
/- The walks of chapter 1's functions that put and take a number's bytes. -/
namespace Go.Proofs.Ytcaocnlchfbeaaa.Wd
open Go.RowKit Go.Proofs.Ytcaocnlchfbeaaa.Mk
open Extern.Stop (cell)
theorem UBs : Try.prog.underlying 110 = some (.slice 5) := by kernel_rfl
theorem UBy : Try.prog.underlying 5 = some (.int .u8) := by kernel_rfl
theorem USt : Try.prog.underlying 9 = some .string := by kernel_rfl
theorem infoByte : (Try.prog.info? 5).map (fun i => (i.zero, i.size, i.bytes)) = some (some (.int .u8 0), 1, 1) := by kernel_rfl
theorem made_one (z : Value) (n : Nat) : madeCells #[z] n = (List.replicate n z).toArray := by
  apply Array.ext
  · rw [size_madeCells]; simp
  · intro i h1 h2
    simp [madeCells, Nat.mod_one]
theorem madeN (n : Nat) (hn : n ≤ 1000000) (wx : World) : (Instr.makeSlice 110 (.int .i64 n) (.int .i64 n)).run Try.prog wx = .ok (.slice (some ⟨wx.heap.size, 0, none⟩) n n) (wx.alloc (.cells (List.replicate n (.int .u8 0)).toArray 5)) := by
  obtain ⟨i, hi, hz0, hz1, hz2⟩ := info_parts infoByte
  have := run_make (P := Try.prog) (w := wx) 110 5 i (.int .u8 0) UBs hi hz0 .i64 .i64 n n (by omega) (by omega) (by rw [hz2]; omega) (by omega)
  rw [this, hz1]
  have e : madeCells (Value.int .u8 0).cells (Int.toNat n * 1) = (List.replicate n (.int .u8 0)).toArray := by
    rw [Int.toNat_natCast, Nat.mul_one]
    exact made_one (.int .u8 0) n
  rw [e]
  simp
/-- k bytes put, the others 0 -/
def puts (n k x : Nat) : List Value := List.replicate (n - k) (.int .u8 0) ++ hc (beL k x)
theorem puts_len (n k x : Nat) (h : k ≤ n) : (puts n k x).length = n := by
  unfold puts
  rw [List.length_append, hc_len, beL_len, List.length_replicate]
  omega
theorem puts_get (n k x : Nat) (h : k < n) : (puts n k x)[n - 1 - k]? = some (.int .u8 0) := by
  unfold puts
  rw [List.getElem?_append_left (by rw [List.length_replicate]; omega), List.getElem?_replicate, if_pos (by omega)]
theorem puts_set (n k x : Nat) (h : k < n) : (puts n k x).set (n - 1 - k) (.int .u8 ((x / 256 ^ k % 256 : Nat) : Int)) = puts n (k + 1) x := by
  unfold puts
  have e : List.replicate (n - k) (Value.int .u8 0) = List.replicate (n - (k + 1)) (.int .u8 0) ++ [.int .u8 0] := by
    rw [show n - k = (n - (k + 1)) + 1 by omega, List.replicate_succ']
  have e2 : hc (beL (k + 1) x) = .int .u8 ((x / 256 ^ k % 256 : Nat) : Int) :: hc (beL k x) := by
    rw [beL]
    simp only [hc, List.map_cons, cell, UInt8.toNat_ofNat']
    rfl
  rw [e, e2, List.append_assoc, List.set_append_right _ _ (by rw [List.length_replicate]; omega), List.length_replicate, show n - 1 - k - (n - (k + 1)) = 0 by omega]
  rfl
set_option maxHeartbeats 4000000 in
set_option maxRecDepth 100000 in
theorem put_calls (x n : Nat) (w : World) (hx : x < 18446744073709551616) (hn : n ≤ 8) :
    Calls Try.prog 114 #[.int .u64 x, .int .i64 n] w fun e w' => e = .returned (.string (ba (beL n x))) ∧ Below w.heap.size w w' := by
  have hm := madeN n (by omega)
  go_enter Try.func114, Try.ntmps114
  go_wp2_with fail
  go_loopw [0, 10] (fun s0 s10 wr => ∃ k : Nat, k ≤ n ∧ s10 = .int .i64 k ∧ s0 = .int .u64 ((x / 256 ^ k : Nat) : Int) ∧ Hid (wr.heap[w.heap.size]? = some (.cells (puts n k x).toArray 5 (0, 0))) ∧ Below w.heap.size w wr) (fun _ s10 _ => n - (intOf s10).toNat)
  case atStart =>
    refine ⟨0, by omega, rfl, by simp, Lib.hid ?_, (Below.refl _ _).alloc (Nat.le_refl _) _⟩
    rw [heap_alloc_new]
    simp [puts, beL, hc]
  case round =>
    obtain ⟨k, hk, rfl, rfl, hcs, hbw⟩ := hrel
    by_cases hkl : k < n
    · have hget := puts_get n k x hkl
      have hset := puts_set n k x hkl
      have c1 : wr.cell? ⟨w.heap.size, n - 1 - k, none⟩ = some (.int .u8 0) := by
        rw [cell_of_row _ _ _ _ _ _ hcs.out, List.getElem?_toArray]
        exact hget
      have f1 : wr.frozen? ⟨w.heap.size, n - 1 - k, none⟩ = false := by simp [World.frozen?, hcs.out]
      have hds := div_step x k
      have Hnew := Lib.hid (show (wr.setCell ⟨w.heap.size, n - 1 - k, none⟩ (.int .u8 ((x / 256 ^ k % 256 : Nat) : Int))).heap[w.heap.size]? = some (.cells (puts n (k + 1) x).toArray 5 (0, 0)) by
        rw [← hset]
        simp [World.setCell, Array.getElem?_modify, hcs.out])
      have Hds := Lib.hid hds
      have hle : x / 256 ^ k < 18446744073709551616 := Nat.lt_of_le_of_lt (Nat.div_le_self _ _) hx
      clear hget hset hds
      generalize x / 256 ^ k = y at *
      go_wp2_with fail
      go_roundw
      case rel => exact ⟨k + 1, by omega, by go_num, by rw [← Hds.out]; go_num, Hnew, hbw.setCell (p := ⟨w.heap.size, n - 1 - k, none⟩) (by simp) _⟩
      case measure => simp [intOf] <;> omega
    · obtain rfl : k = n := by omega
      have h2 := hcs.out
      have e : puts k k x = hc (beL k x) := by unfold puts; simp
      rw [e] at h2
      have hs : SB wr (.slice (some ⟨w.heap.size, 0, none⟩) k k) (beL k x) :=
        ⟨by rw [beL_len]; simp [maxLen]; omega, some ⟨w.heap.size, 0, none⟩, k, by rw [beL_len], by rw [beL_len]; exact Nat.le_refl _, by simp [maxLen]; omega, fun _ => ⟨w.heap.size, 0, rfl, range_row h2⟩⟩
      have hcv := run_string_bytes (P := Try.prog) UBs UBy USt hs
      clear hs hcs h2 e
      go_wp2_with fail
      go_ret
      exact ⟨rfl, hbw⟩
set_option maxHeartbeats 1000000 in
theorem put32_calls (x : Nat) (w : World) (hx : x < 4294967296) :
    Calls Try.prog 101 #[.int .u32 x] w fun e w' => e = .returned (.string (ba (beL 4 x))) ∧ Below w.heap.size w w' := by
  have HP := Lib.hid (put_calls x 4 w (by omega) (by decide))
  generalize ba (beL 4 x) = s at *
  go_enter Try.func101, Try.ntmps101
  go_wp2_with fail
  refine HP.out.mono ?_
  rintro e w1 ⟨rfl, hb1⟩
  have HB := Lib.hid hb1
  clear hb1
  go_wp2_with fail
  go_ret
  exact ⟨rfl, HB.out⟩
set_option maxHeartbeats 1000000 in
theorem put64_calls (x : Nat) (w : World) (hx : x < 18446744073709551616) :
    Calls Try.prog 102 #[.int .u64 x] w fun e w' => e = .returned (.string (ba (beL 8 x))) ∧ Below w.heap.size w w' := by
  have HP := Lib.hid (put_calls x 8 w hx (by decide))
  generalize ba (beL 8 x) = s at *
  go_enter Try.func102, Try.ntmps102
  go_wp2_with fail
  refine HP.out.mono ?_
  rintro e w1 ⟨rfl, hb1⟩
  have HB := Lib.hid hb1
  clear hb1
  go_wp2_with fail
  go_ret
  exact ⟨rfl, HB.out⟩
theorem or_step (x b : Nat) (hx : x < 72057594037927936) (hb : b < 256) : Go.bits .or .u64 ((x : Int) * 256) (IntKind.u64.wrap (b : Int)) = ((x * 256 + b : Nat) : Int) := by
  have wu64 : ∀ x : Int, 0 ≤ x → x < 18446744073709551616 → IntKind.u64.wrap x = x := fun x h0 h1 => by rw [IntKind.wrap_u64]; omega
  rw [wu64 _ (by omega) (by omega)]
  rw [show ((x : Int) * 256) = ((x * 256 : Nat) : Int) by omega, u64_or_nat _ _ (by omega) (by omega), nat_join 8 _ _ (by omega) (by omega)]
set_option maxHeartbeats 4000000 in
set_option maxRecDepth 100000 in
theorem take_calls (s : ByteArray) (at_ n : Nat) (w : World) (hs : s.size ≤ 9223372036854775807) (h : at_ + n ≤ s.size) (hn : n ≤ 8) :
    Calls Try.prog 111 #[.string s, .int .i64 at_, .int .i64 n] w fun e w' => e = .returned (.int .u64 (beN (((bs s).drop at_).take n))) ∧ w' = w := by
  have hbs := bs_len s
  have Hbs := Lib.hid hbs
  clear hbs
  go_enter Try.func111, Try.ntmps111
  go_wp2_with fail
  go_loop [7, 8, 10] (fun s7 _ s10 => ∃ k : Nat, k ≤ n ∧ s10 = .int .i64 k ∧ s7 = .int .u64 (beN (((bs s).drop at_).take k))) (fun _ _ s10 => n - (intOf s10).toNat)
  case atStart => exact ⟨0, by omega, rfl, by simp [beN]⟩
  case round =>
    obtain ⟨k, hk, rfl, rfl⟩ := hrel
    by_cases hkl : k < n
    · have hlt : at_ + k < s.size := by omega
      have hlt2 : at_ + k < (bs s).length := by rw [Hbs.out]; exact hlt
      have hd : k < ((bs s).drop at_).length := by rw [List.length_drop, Hbs.out]; omega
      have hst := beN_take ((bs s).drop at_) k hd
      rw [List.getElem_drop, bs_get s _ hlt hlt2] at hst
      have h8 := beN_lt8 (((bs s).drop at_).take k) (by rw [List.length_take]; omega)
      have hor : Go.bits .or .u64 ((beN (((bs s).drop at_).take k) : Int) * 256) (IntKind.u64.wrap ((s[at_ + k]'hlt).toNat : Int)) = ((beN (((bs s).drop at_).take (k + 1)) : Nat) : Int) := by
        rw [hst]
        exact or_step _ _ h8 (UInt8.toNat_lt _)
      have Hor := Lib.hid hor
      clear hst hor hd hlt2 Hbs
      generalize beN (((bs s).drop at_).take k) = y at *
      go_wp2_with fail
      go_round
      case rel => exact ⟨k + 1, by omega, by go_num, by rw [Hor.out]⟩
      case measure => simp [intOf] <;> omega
    · obtain rfl : k = n := by omega
      go_wp2_with fail
      go_ret
      exact ⟨rfl, rfl⟩
theorem ret_u {k : IntKind} {a b : Int} (h : a = b) : Ending.returned (.int k a) = .returned (.int k b) := by rw [h]
theorem beN_lt32 (l : List UInt8) (h : l.length ≤ 4) : beN l < 4294967296 :=
  Nat.lt_of_lt_of_le (beN_lt l) (Nat.le_trans (Nat.pow_le_pow_right (by decide) h) (by decide))
set_option maxHeartbeats 1000000 in
theorem take32_calls (s : ByteArray) (at_ : Nat) (w : World) (hs : s.size ≤ 9223372036854775807) (h : at_ + 4 ≤ s.size) :
    Calls Try.prog 93 #[.string s, .int .i64 at_] w fun e w' => e = .returned (.int .u32 (beN (((bs s).drop at_).take 4))) ∧ w' = w := by
  have HP := Lib.hid (take_calls s at_ 4 w hs h (by decide))
  have hlt := beN_lt32 (((bs s).drop at_).take 4) (by rw [List.length_take]; omega)
  generalize beN (((bs s).drop at_).take 4) = y at *
  go_enter Try.func93, Try.ntmps93
  go_wp2_with fail
  refine HP.out.mono ?_
  rintro e w1 ⟨rfl, rfl⟩
  go_wp2_with fail
  go_ret
  exact ⟨rfl, rfl⟩
set_option maxHeartbeats 1000000 in
theorem take64_calls (s : ByteArray) (at_ : Nat) (w : World) (hs : s.size ≤ 9223372036854775807) (h : at_ + 8 ≤ s.size) :
    Calls Try.prog 94 #[.string s, .int .i64 at_] w fun e w' => e = .returned (.int .u64 (beN (((bs s).drop at_).take 8))) ∧ w' = w := by
  have HP := Lib.hid (take_calls s at_ 8 w hs h (by decide))
  generalize beN (((bs s).drop at_).take 8) = y at *
  go_enter Try.func94, Try.ntmps94
  go_wp2_with fail
  refine HP.out.mono ?_
  rintro e w1 ⟨rfl, rfl⟩
  go_wp2_with fail
  go_ret
  exact ⟨rfl, rfl⟩
end Go.Proofs.Ytcaocnlchfbeaaa.Wd

/- The walks of the document's functions that put and take a number's bytes, and of a sum's bytes. -/
namespace Go.Proofs.Ytcaocnlchfbeaaa.Wd
open Go.RowKit Go.Proofs.Ytcaocnlchfbeaaa.Mk
open Extern.Stop (cell)
theorem cell_nat (y : Nat) (hy : y < 256) : cell (UInt8.ofNat y) = .int .u8 (y : Int) := by
  simp only [cell, UInt8.toNat_ofNat']
  rw [Nat.mod_eq_of_lt (by omega)]
  rfl
set_option maxHeartbeats 1000000 in
set_option maxRecDepth 100000 in
theorem rbyte_calls (z : Int) (w : World) (h0 : 0 ≤ z) (h1 : z < 256) :
    Calls Try.prog 104 #[.int .i64 z] w fun e w' => e = .returned (.string (ba [UInt8.ofNat z.toNat])) ∧ Below w.heap.size w w' := by
  obtain ⟨y, rfl⟩ := Int.eq_ofNat_of_zero_le h0
  rw [Int.toNat_natCast]
  have hy : y < 256 := by omega
  have hSB : SB (w.alloc (.cells #[.int .u8 (y : Int)] 5)) (.slice (some ⟨w.heap.size, 0, none⟩) 1 1) [UInt8.ofNat y] :=
    ⟨by simp [maxLen], some ⟨w.heap.size, 0, none⟩, 1, rfl, Nat.le_refl _, by simp [maxLen], fun _ => ⟨w.heap.size, 0, rfl, fun j u hj => by
      have e : hc [UInt8.ofNat y] = [.int .u8 (y : Int)] := by simp [hc, cell_nat y hy]
      rw [e] at hj
      rw [cell_of_row _ _ _ _ _ _ (heap_alloc_new w _)]
      simpa using hj⟩⟩
  have hcv := run_string_bytes (P := Try.prog) UBs UBy USt hSB
  generalize ba [UInt8.ofNat y] = s at *
  clear hSB
  go_enter Try.func104, Try.ntmps104
  go_wp2_with fail
  go_ret
  exact ⟨rfl, (Below.refl _ _).alloc (Nat.le_refl _) _⟩
theorem ofNat_mod (y : Nat) : UInt8.ofNat (((y : Nat) : Int) % 256).toNat = UInt8.ofNat y := by
  have e : (((y : Nat) : Int) % 256).toNat = y % 256 := by omega
  rw [e]
  apply UInt8.toNat.inj
  rw [UInt8.toNat_ofNat', UInt8.toNat_ofNat']
  omega
set_option maxHeartbeats 4000000 in
set_option maxRecDepth 100000 in
theorem rput_calls (x n : Nat) (w : World) (hx : x < 18446744073709551616) (hn : n ≤ 1000) :
    Calls Try.prog 115 #[.int .u64 x, .int .i64 n] w fun e w' => e = .returned (.string (ba (beL n x))) ∧ Below w.heap.size w w' := by
  go_enter Try.func115, Try.ntmps115
  go_wp2_with fail
  go_loopw [0, 5, 6] (fun s0 s5 s6 wr => ∃ k : Nat, k ≤ n ∧ s6 = .int .i64 k ∧ s0 = .int .u64 ((x / 256 ^ k : Nat) : Int) ∧ s5 = .string (ba (beL k x)) ∧ Below w.heap.size w wr) (fun _ _ s6 _ => n - (intOf s6).toNat)
  case atStart => exact ⟨0, by omega, rfl, by simp, rfl, Below.refl _ _⟩
  case round =>
    obtain ⟨k, hk, rfl, rfl, rfl, hbw⟩ := hrel
    by_cases hkl : k < n
    · have hds := Lib.hid (div_step x k)
      have hle : x / 256 ^ k < 18446744073709551616 := Nat.lt_of_le_of_lt (Nat.div_le_self _ _) hx
      have hcons := Lib.hid (show ba [UInt8.ofNat (x / 256 ^ k)] ++ ba (beL k x) = ba (beL (k + 1) x) by rw [ba_append]; rfl)
      have hadd : (ba [UInt8.ofNat (x / 256 ^ k)]).size + (ba (beL k x)).size ≤ 9223372036854775807 := by rw [ba_size, ba_size, beL_len]; simp; omega
      generalize x / 256 ^ k = y at *
      have HB := Lib.hid (fun w => rbyte_calls ((y : Int) % 256) w (by omega) (by omega))
      rw [ofNat_mod] at HB
      generalize ba (beL k x) = t at *
      generalize ba [UInt8.ofNat y] = u at *
      go_wp2_with fail
      refine (HB.out _).mono ?_
      rintro e w1 ⟨rfl, hb1⟩
      have hb2 := Lib.hid (below_up hbw hb1)
      clear hb1
      go_wp2_with fail
      go_roundw
      case rel => exact ⟨k + 1, by omega, by go_num, by rw [← hds.out]; go_num, by rw [hcons.out], hb2.out⟩
      case measure => simp [intOf] <;> omega
    · obtain rfl : k = n := by omega
      go_wp2_with fail
      go_ret
      exact ⟨rfl, hbw⟩
theorem add_step (x b : Nat) (hx : x < 72057594037927936) (hb : b < 256) : IntKind.u64.wrap ((x : Int) * 256 + IntKind.u64.wrap (b : Int)) = ((x * 256 + b : Nat) : Int) := by
  have wu64 : ∀ x : Int, 0 ≤ x → x < 18446744073709551616 → IntKind.u64.wrap x = x := fun x h0 h1 => by rw [IntKind.wrap_u64]; omega
  rw [wu64 (b : Int) (by omega) (by omega), wu64 _ (by omega) (by omega)]
  omega
set_option maxHeartbeats 4000000 in
set_option maxRecDepth 100000 in
theorem rtake_calls (s : ByteArray) (at_ n : Nat) (w : World) (hs : s.size ≤ 9223372036854775807) (h : at_ + n ≤ s.size) (hn : n ≤ 8) :
    Calls Try.prog 89 #[.string s, .int .i64 at_, .int .i64 n] w fun e w' => e = .returned (.int .u64 (beN (((bs s).drop at_).take n))) ∧ w' = w := by
  have Hbs := Lib.hid (bs_len s)
  go_enter Try.func89, Try.ntmps89
  go_wp2_with fail
  go_loop [7, 8] (fun s7 s8 => ∃ k : Nat, k ≤ n ∧ s8 = .int .i64 k ∧ s7 = .int .u64 (beN (((bs s).drop at_).take k))) (fun _ s8 => n - (intOf s8).toNat)
  case atStart => exact ⟨0, by omega, rfl, by simp [beN]⟩
  case round =>
    obtain ⟨k, hk, rfl, rfl⟩ := hrel
    by_cases hkl : k < n
    · have hlt : at_ + k < s.size := by omega
      have hlt2 : at_ + k < (bs s).length := by rw [Hbs.out]; exact hlt
      have hd : k < ((bs s).drop at_).length := by rw [List.length_drop, Hbs.out]; omega
      have hst := beN_take ((bs s).drop at_) k hd
      rw [List.getElem_drop, bs_get s _ hlt hlt2] at hst
      have h8 := beN_lt8 (((bs s).drop at_).take k) (by rw [List.length_take]; omega)
      have hst' : beN (((bs s).drop at_).take (k + 1)) = beN (((bs s).drop at_).take k) * 256 + (s[at_ + k]'hlt).toNat := hst
      have Hst := Lib.hid hst'
      have hb := (s[at_ + k]'hlt).toNat_lt
      clear hst hst' hd hlt2 Hbs
      generalize beN (((bs s).drop at_).take k) = y at *
      go_wp2_with fail
      go_round
      case rel => exact ⟨k + 1, by omega, by go_num, by rw [Hst.out]; first | go_num | rw [add_step _ _ h8 hb]⟩
      case measure => simp [intOf] <;> omega
    · obtain rfl : k = n := by omega
      go_wp2_with fail
      go_ret
      exact ⟨rfl, rfl⟩
/-- k bytes copied, the others 0 -/
def part (x : List UInt8) (k : Nat) : List Value := hc (x.take k) ++ List.replicate (32 - k) (.int .u8 0)
theorem part_len (x : List UInt8) (k : Nat) (hx : x.length = 32) (hk : k ≤ 32) : (part x k).length = 32 := by
  unfold part
  rw [List.length_append, hc_len, List.length_take, List.length_replicate]
  omega
theorem part_set (x : List UInt8) (k : Nat) (hx : x.length = 32) (hk : k < 32) (h : k < x.length) : (part x k).set k (.int .u8 (x[k].toNat : Int)) = part x (k + 1) := by
  unfold part
  have e1 : hc (x.take (k + 1)) = hc (x.take k) ++ [.int .u8 (x[k].toNat : Int)] := by
    rw [List.take_succ_eq_append_getElem h]
    unfold hc
    rw [List.map_append]
    rfl
  have e2 : List.replicate (32 - k) (Value.int .u8 0) = .int .u8 0 :: List.replicate (32 - (k + 1)) (.int .u8 0) := by
    rw [show 32 - k = (32 - (k + 1)) + 1 by omega, List.replicate_succ]
  have e3 : (hc (x.take k)).length = k := by rw [hc_len, List.length_take]; omega
  rw [e1, e2, List.set_append_right _ _ (by omega), e3]
  simp
theorem part_all (x : List UInt8) (hx : x.length = 32) : part x 32 = hc x := by
  unfold part
  rw [List.take_of_length_le (by omega)]
  simp
set_option maxHeartbeats 4000000 in
set_option maxRecDepth 100000 in
theorem raw03_calls (x : List UInt8) (w : World) (hx : x.length = 32) :
    Calls Try.prog 109 #[hv x] w fun e w' => e = .returned (.string (ba x)) ∧ Below w.heap.size w w' := by
  have HX := Lib.hid hx
  have hm : ∀ wx, (Instr.makeSlice 110 (.int .i64 32) (.int .i64 32)).run Try.prog wx = .ok (.slice (some ⟨wx.heap.size, 0, none⟩) 32 32) (wx.alloc (.cells (List.replicate 32 (.int .u8 0)).toArray 5)) := madeN 32 (by decide)
  unfold hv
  clear hx
  go_enter Try.func109, Try.ntmps109
  go_wp2_with fail
  go_loopw [4] (fun s4 wr => ∃ k : Nat, k ≤ 32 ∧ s4 = .int .i64 k ∧ Hid (wr.heap[w.heap.size]? = some (.cells (hc x).toArray 35 (0, 0)) ∧ wr.heap[w.heap.size + 1]? = some (.cells (part x k).toArray 5 (0, 0))) ∧ Below w.heap.size w wr) (fun s4 _ => 32 - (intOf s4).toNat)
  case atStart =>
    refine ⟨0, by omega, rfl, Lib.hid ⟨?_, ?_⟩, ((Below.refl _ _).alloc (Nat.le_refl _) _).alloc (by simp) _⟩
    · exact (Below.heap_alloc _ _ _ (by simp)).trans (heap_new _ _)
    · have := heap_new (w.alloc (.cells (hc x).toArray 35)) (.cells (List.replicate 32 (.int .u8 0)).toArray 5)
      rw [World.size_alloc] at this
      exact this
  case round =>
    obtain ⟨k, hk, rfl, hcs, hbw⟩ := hrel
    by_cases hkl : k < 32
    · have hx := HX.out
      have hcs2 := hcs.out
      have hkx : k < x.length := by omega
      have c1 : wr.cell? ⟨w.heap.size, k, none⟩ = some (.int .u8 (x[k].toNat : Int)) := by
        rw [cell_of_row _ _ _ _ _ _ hcs2.1]
        simp [hc, hkx]
        rfl
      have hpl := part_len x k hx hk
      have c2 : wr.cell? ⟨w.heap.size + 1, k, none⟩ = some (.int .u8 0) := by
        rw [cell_of_row _ _ _ _ _ _ hcs2.2]
        unfold part
        rw [List.getElem?_toArray, List.getElem?_append_right (by rw [hc_len, List.length_take]; omega), List.getElem?_replicate, if_pos (by rw [hc_len, List.length_take]; omega)]
      have f2 : wr.frozen? ⟨w.heap.size + 1, k, none⟩ = false := by simp [World.frozen?, hcs2.2]
      have hnew : Hid ((wr.setCell ⟨w.heap.size + 1, k, none⟩ (.int .u8 (x[k].toNat : Int))).heap[w.heap.size]? = some (.cells (hc x).toArray 35 (0, 0)) ∧ (wr.setCell ⟨w.heap.size + 1, k, none⟩ (.int .u8 (x[k].toNat : Int))).heap[w.heap.size + 1]? = some (.cells (part x (k + 1)).toArray 5 (0, 0))) := Lib.hid ⟨(Below.heap_setCell _ _ _ _ (by simp)).trans hcs2.1, by
        rw [← part_set x k hx hkl hkx]
        simp [World.setCell, Array.getElem?_modify, hcs2.2]⟩
      clear hcs2 hpl hx hcs
      generalize x[k] = c at *
      go_wp2_with fail
      go_roundw
      case rel => exact ⟨k + 1, by omega, by go_num, hnew, hbw.setCell (p := ⟨w.heap.size + 1, k, none⟩) (by simp) _⟩
      case measure => simp [intOf] <;> omega
    · obtain rfl : k = 32 := by omega
      have hs : SB wr (.slice (some ⟨w.heap.size + 1, 0, none⟩) 32 32) x := by
        have h2 := hcs.out.2
        rw [part_all x HX.out] at h2
        exact ⟨by rw [HX.out]; simp [maxLen], some ⟨w.heap.size + 1, 0, none⟩, 32, by rw [HX.out], by rw [HX.out]; exact Nat.le_refl _, by simp [maxLen], fun _ => ⟨w.heap.size + 1, 0, rfl, range_row h2⟩⟩
      have hcv := run_string_bytes (P := Try.prog) UBs UBy USt hs
      clear hs hcs
      go_wp2_with fail
      go_ret
      exact ⟨rfl, hbw⟩
end Go.Proofs.Ytcaocnlchfbeaaa.Wd

/- The walks of a header's bytes. -/
namespace Go.Proofs.Ytcaocnlchfbeaaa.Hd
open Go.RowKit Go.Proofs.Ytcaocnlchfbeaaa.Mk Go.Proofs.Ytcaocnlchfbeaaa.Wd Go.Proofs.Ytcaocnlchfbeaaa.Cur
open Extern.Stop (cell)
def Hd.c (h : Hd) : List Value := .int .u32 h.ht :: (hc h.ln ++ (hc h.tx ++ [.int .u64 h.no]))
def Hd.v (h : Hd) : Value := .agg h.c.toArray
theorem Hd.c_len (h : Hd) (k : h.Ok) : h.c.length = 66 := by
  unfold Hd.c
  simp [hc_len, k.2.1, k.2.2.1]
theorem Hd.c_one (h : Hd) : h.c.toArray.all (·.oneCell') = true := by simp [Hd.c, hc, cell, Value.oneCell']
/-- block g holds a header's cells -/
def HB (g : Nat) (h : Hd) (t : TypeId) (w : World) : Prop := w.heap[g]? = some (.cells h.c.toArray t (0, 0))
theorem HB.c0 {g : Nat} {h : Hd} {t : TypeId} {w : World} (k : HB g h t w) : w.cell? ⟨g, 0, none⟩ = some (.int .u32 h.ht) := by
  rw [cell_of_row w g 0 _ _ _ k]; rfl
theorem HB.c65 {g : Nat} {h : Hd} {t : TypeId} {w : World} (k : HB g h t w) (o : h.Ok) : w.cell? ⟨g, 65, none⟩ = some (.int .u64 h.no) := by
  rw [cell_of_row w g 65 _ _ _ k, List.getElem?_toArray]
  unfold Hd.c
  rw [List.getElem?_cons_succ, List.getElem?_append_right (by rw [hc_len, o.2.1]; decide), hc_len, o.2.1, List.getElem?_append_right (by rw [hc_len, o.2.2.1]; decide), hc_len, o.2.2.1]
  rfl
theorem HB.ln {g : Nat} {h : Hd} {t : TypeId} {w : World} (k : HB g h t w) (o : h.Ok) : w.rangeAt g 1 (hc h.ln) := fun j v hv => by
  have hj : j < 32 := by have := (List.getElem?_eq_some_iff.1 hv).1; rwa [hc_len, o.2.1] at this
  rw [cell_of_row w g (1 + j) _ _ _ k, List.getElem?_toArray]
  unfold Hd.c
  rw [Nat.add_comm, List.getElem?_cons_succ, List.getElem?_append_left (by rw [hc_len, o.2.1]; exact hj)]
  exact hv
theorem HB.tx {g : Nat} {h : Hd} {t : TypeId} {w : World} (k : HB g h t w) (o : h.Ok) : w.rangeAt g 33 (hc h.tx) := fun j v hv => by
  have hj : j < 32 := by have := (List.getElem?_eq_some_iff.1 hv).1; rwa [hc_len, o.2.2.1] at this
  rw [cell_of_row w g (33 + j) _ _ _ k, List.getElem?_toArray]
  unfold Hd.c
  rw [show 33 + j = (32 + j) + 1 by omega, List.getElem?_cons_succ, List.getElem?_append_right (by rw [hc_len, o.2.1]; omega), hc_len, o.2.1, show 32 + j - 32 = j by omega, List.getElem?_append_left (by rw [hc_len, o.2.2.1]; exact hj)]
  exact hv
theorem HB.keep {g : Nat} {h : Hd} {t : TypeId} {w w' : World} (k : HB g h t w) (hb : Below w.heap.size w w') : HB g h t w' := (hb.block g (Array.getElem?_eq_some_iff.1 k).1).trans k
theorem IH : (Try.prog.info? 35).map (·.size) = some 32 := by kernel_rfl
theorem IHi : (Try.prog.info? 35).map (fun i => (i.zero, i.size, i.bytes)) = some (some (hv (List.replicate 32 0)), 32, 32) := by kernel_rfl
theorem UHs : Try.prog.underlying 39 = some (.slice 35) := by kernel_rfl
theorem UH : Try.prog.underlying 35 = some (.array 32 5) := by kernel_rfl
theorem UB : Try.prog.underlying 5 = some (.int .u8) := by kernel_rfl
theorem IHl {h : List UInt8} (hl : h.length = 32) : (Try.prog.info? 35).map (·.size) = some (hc h).length := by rw [IH, hc_len, hl]
theorem IHa {h : List UInt8} (hl : h.length = 32) : (Try.prog.info? 35).map (·.size) = some (hc h).toArray.size := by rw [IH]; simp [hc_len, hl]
theorem eqH {x y : List UInt8} (hx : x.length = 32) (hy : y.length = 32) : ∀ wx, (binOp .eql 35 (.agg (hc x).toArray) (.agg (hc y).toArray)).run Try.prog wx = .ok (.bool (x == y)) wx :=
  fun wx => run_eql_bytes (P := Try.prog) wx 35 5 32 UH UB Try.sizeOf5 x y hx hy
theorem neH {x y : List UInt8} (hx : x.length = 32) (hy : y.length = 32) : ∀ wx, (binOp .neq 35 (.agg (hc x).toArray) (.agg (hc y).toArray)).run Try.prog wx = .ok (.bool (!(x == y))) wx :=
  fun wx => run_neq_bytes (P := Try.prog) wx 35 5 32 UH UB Try.sizeOf5 x y hx hy
theorem run_load_u32 {w : World} {p : Addr} {s : Int} (h : w.cell? p = some (.int .u32 s)) : (Instr.loadAt 33 (.pointer (some p))).run Try.prog w = .ok (.int .u32 s) w := by go_simp
theorem run_load_u64 {w : World} {p : Addr} {s : Int} (h : w.cell? p = some (.int .u64 s)) : (Instr.loadAt 36 (.pointer (some p))).run Try.prog w = .ok (.int .u64 s) w := by go_simp
theorem run_conv {o : Oper} {a : Act} {P : Program} {w : World} {s d : TypeId} {x : Operand} {u r : Value} (ho : o.op = .convert s d x) (hx : a.eval x = u) (hr : (convert s d u).run P w = .ok r w) :
    (execOp a.eval o).run P w = .ok (.value r) w := by
  unfold execOp
  simp only [ho, hx, Sem.run_bind, hr, Result.andThen_ok, Sem.run_pure]
theorem conv_hash {g o : Nat} {l : List UInt8} {w : World} (h : w.rangeAt g o (hc l)) (hl : l.length = 32) : (convert 110 9 (.slice (some ⟨g, o, none⟩) 32 32)).run Try.prog w = .ok (.string (ba l)) w :=
  run_string_bytes (P := Try.prog) UBs UBy USt ⟨by rw [hl]; simp [maxLen], some ⟨g, o, none⟩, 32, by rw [hl], by rw [hl]; exact Nat.le_refl _, by simp [maxLen], fun _ => ⟨g, o, rfl, h⟩⟩
set_option maxHeartbeats 4000000 in
set_option maxRecDepth 100000 in
theorem bytes_calls (h : Hd) (w : World) (k : h.Ok) :
    Calls Try.prog 70 #[h.v] w fun e w' => e = .returned (.string (ba h.b)) ∧ Below w.heap.size w w' := by
  have hk0 : HB w.heap.size h 38 (w.alloc (.cells h.c.toArray 38)) := heap_new _ _
  have hB0 := Lib.hid (show Below w.heap.size w (w.alloc (.cells h.c.toArray 38)) from (Below.refl _ _).alloc (Nat.le_refl _) _)
  have Hfin := Lib.hid (show ba (beL 4 h.ht) ++ ba h.ln ++ ba h.tx ++ ba (beL 8 h.no) = ba h.b by rw [ba_append, ba_append, ba_append]; simp [Hd.b])
  have p1 : (ba (beL 4 h.ht)).size = 4 := by rw [ba_size, beL_len]
  have p2 : (ba h.ln).size = 32 := by rw [ba_size, k.2.1]
  have p3 : (ba h.tx).size = 32 := by rw [ba_size, k.2.2.1]
  have p4 : (ba (beL 8 h.no)).size = 8 := by rw [ba_size, beL_len]
  unfold Hd.v
  go_enter Try.func70, Try.ntmps70
  go_wp2_with fail
  generalize w.alloc (.cells h.c.toArray 38) = W at *
  have L0 : ∀ wx, Below W.heap.size W wx → (Instr.loadAt 33 (.pointer (some ⟨w.heap.size, 0, none⟩))).run Try.prog wx = .ok (.int .u32 h.ht) wx := fun wx hb => run_load_u32 (hk0.keep hb).c0
  have L1 : ∀ wx, Below W.heap.size W wx → (Instr.loadAt 36 (.pointer (some ⟨w.heap.size, 65, none⟩))).run Try.prog wx = .ok (.int .u64 h.no) wx := fun wx hb => run_load_u64 ((hk0.keep hb).c65 k)
  have C1 : ∀ wx, Below W.heap.size W wx → (convert 110 9 (.slice (some ⟨w.heap.size, 1, none⟩) 32 32)).run Try.prog wx = .ok (.string (ba h.ln)) wx := fun wx hb => conv_hash ((hk0.keep hb).ln k) k.2.1
  have C2 : ∀ wx, Below W.heap.size W wx → (convert 110 9 (.slice (some ⟨w.heap.size, 33, none⟩) 32 32)).run Try.prog wx = .ok (.string (ba h.tx)) wx := fun wx hb => conv_hash ((hk0.keep hb).tx k) k.2.2.1
  have P1 : ∀ wx, Below W.heap.size W wx → Calls Try.prog 101 #[.int .u32 h.ht] wx fun e w' => e = .returned (.string (ba (beL 4 h.ht))) ∧ Below wx.heap.size wx w' := fun wx _ => put32_calls h.ht wx k.1
  have P2 : ∀ wx, Below W.heap.size W wx → Calls Try.prog 102 #[.int .u64 h.no] wx fun e w' => e = .returned (.string (ba (beL 8 h.no))) ∧ Below wx.heap.size wx w' := fun wx _ => put64_calls h.no wx k.2.2.2
  generalize ba (beL 4 h.ht) = s1 at *
  generalize ba h.ln = s2 at *
  generalize ba h.tx = s3 at *
  generalize ba (beL 8 h.no) = s4 at *
  have q1 : ¬ 9223372036854775807 < s1.size + s2.size := by omega
  have q2 : ¬ 9223372036854775807 < s1.size + s2.size + s3.size := by omega
  have q3 : ¬ 9223372036854775807 < s1.size + s2.size + s3.size + s4.size := by omega
  clear p1 p2 p3 p4 hk0
  refine wp_region_quiet_below (by kernel_rfl) (by kernel_rfl) ?_
  repeat (first | (refine wpQuiet_load rfl 33 _ rfl _ rfl _ (rg_fact L0) ?_) | (refine wpQuiet_load rfl 36 _ rfl _ rfl _ (rg_fact L1) ?_) | (refine wpQuiet_value rfl _ (rg_fact (fun wx hb => run_conv rfl rfl (C1 wx hb))) ?_) | (refine wpQuiet_value rfl _ (rg_fact (fun wx hb => run_conv rfl rfl (C2 wx hb))) ?_) | ((refine wpQuiet_call rfl 101 _ ?_ _ (rg_of P1) ?_); focus (intro wx; go_simp; done)) | ((refine wpQuiet_call rfl 102 _ ?_ _ (rg_of P2) ?_); focus (intro wx; go_simp; done)) | go_big_quiet_step (fail) | quiet_step (fail))
  refine wpQuiet_nil ?_
  rintro _ ⟨rp, rfl⟩
  have hb3 := below_regrown W rp.d rp.os
  generalize Sort.grow (redrawn W rp.d) rp.os = w3 at *
  have hfin := Lib.hid (below_up hB0.out hb3)
  clear L0 L1 C1 C2 P1 P2 hb3 q1 q2 q3
  go_wp2_with fail
  go_ret
  exact ⟨by rw [← Hfin.out]; rfl, hfin.out⟩
set_option maxHeartbeats 4000000 in
set_option maxRecDepth 100000 in
theorem rbytes_calls (h : Hd) (w : World) (k : h.Ok) :
    Calls Try.prog 105 #[h.v] w fun e w' => e = .returned (.string (ba h.b)) ∧ Below w.heap.size w w' := by
  have hk0 : HB w.heap.size h 38 (w.alloc (.cells h.c.toArray 38)) := heap_new _ _
  have hB0 := Lib.hid (show Below w.heap.size w (w.alloc (.cells h.c.toArray 38)) from (Below.refl _ _).alloc (Nat.le_refl _) _)
  have Hfin := Lib.hid (show ba (beL 4 h.ht) ++ ba h.ln ++ ba h.tx ++ ba (beL 8 h.no) = ba h.b by rw [ba_append, ba_append, ba_append]; simp [Hd.b])
  have p1 : (ba (beL 4 h.ht)).size = 4 := by rw [ba_size, beL_len]
  have p2 : (ba h.ln).size = 32 := by rw [ba_size, k.2.1]
  have p3 : (ba h.tx).size = 32 := by rw [ba_size, k.2.2.1]
  have p4 : (ba (beL 8 h.no)).size = 8 := by rw [ba_size, beL_len]
  have u1 : IntKind.u64.wrap (h.ht : Int) = h.ht := by have := k.1; rw [IntKind.wrap_u64]; omega
  unfold Hd.v
  go_enter Try.func105, Try.ntmps105
  go_wp2_with fail
  generalize w.alloc (.cells h.c.toArray 38) = W at *
  have L0 : ∀ wx, Below W.heap.size W wx → (Instr.loadAt 33 (.pointer (some ⟨w.heap.size, 0, none⟩))).run Try.prog wx = .ok (.int .u32 h.ht) wx := fun wx hb => run_load_u32 (hk0.keep hb).c0
  have L1 : ∀ wx, Below W.heap.size W wx → (Instr.loadAt 36 (.pointer (some ⟨w.heap.size, 65, none⟩))).run Try.prog wx = .ok (.int .u64 h.no) wx := fun wx hb => run_load_u64 ((hk0.keep hb).c65 k)
  have L2 : ∀ wx, Below W.heap.size W wx → (Instr.loadAt 35 (.pointer (some ⟨w.heap.size, 1, none⟩))).run Try.prog wx = .ok (hv h.ln) wx := fun wx hb => run_loadAt_mid wx _ _ 35 (hc h.ln) _ ((hk0.keep hb).ln k) UH rfl (IHl k.2.1)
  have L3 : ∀ wx, Below W.heap.size W wx → (Instr.loadAt 35 (.pointer (some ⟨w.heap.size, 33, none⟩))).run Try.prog wx = .ok (hv h.tx) wx := fun wx hb => run_loadAt_mid wx _ _ 35 (hc h.tx) _ ((hk0.keep hb).tx k) UH rfl (IHl k.2.2.1)
  have P1 : ∀ wx, Below W.heap.size W wx → Calls Try.prog 115 #[.int .u64 h.ht, .int .i64 4] wx fun e w' => e = .returned (.string (ba (beL 4 h.ht))) ∧ Below wx.heap.size wx w' := fun wx _ => rput_calls h.ht 4 wx (by have := k.1; omega) (by decide)
  have P2 : ∀ wx, Below W.heap.size W wx → Calls Try.prog 115 #[.int .u64 h.no, .int .i64 8] wx fun e w' => e = .returned (.string (ba (beL 8 h.no))) ∧ Below wx.heap.size wx w' := fun wx _ => rput_calls h.no 8 wx k.2.2.2 (by decide)
  have P3 : ∀ wx, Below W.heap.size W wx → Calls Try.prog 109 #[hv h.ln] wx fun e w' => e = .returned (.string (ba h.ln)) ∧ Below wx.heap.size wx w' := fun wx _ => raw03_calls h.ln wx k.2.1
  have P4 : ∀ wx, Below W.heap.size W wx → Calls Try.prog 109 #[hv h.tx] wx fun e w' => e = .returned (.string (ba h.tx)) ∧ Below wx.heap.size wx w' := fun wx _ => raw03_calls h.tx wx k.2.2.1
  generalize ba (beL 4 h.ht) = s1 at *
  generalize ba h.ln = s2 at *
  generalize ba h.tx = s3 at *
  generalize ba (beL 8 h.no) = s4 at *
  have q1 : ¬ 9223372036854775807 < s1.size + s2.size := by omega
  have q2 : ¬ 9223372036854775807 < s1.size + s2.size + s3.size := by omega
  have q3 : ¬ 9223372036854775807 < s1.size + s2.size + s3.size + s4.size := by omega
  clear p1 p2 p3 p4 hk0
  refine wp_region_quiet_below (by kernel_rfl) (by kernel_rfl) ?_
  repeat (first | (refine wpQuiet_load rfl 33 _ rfl _ rfl _ (rg_fact L0) ?_) | (refine wpQuiet_load rfl 36 _ rfl _ rfl _ (rg_fact L1) ?_) | (refine wpQuiet_load rfl 35 _ rfl _ rfl _ (rg_fact L2) ?_) | (refine wpQuiet_load rfl 35 _ rfl _ rfl _ (rg_fact L3) ?_) | ((refine wpQuiet_call rfl 115 _ ?_ _ (rg_of P1) ?_); focus (intro wx; go_simp; done)) | ((refine wpQuiet_call rfl 115 _ ?_ _ (rg_of P2) ?_); focus (intro wx; go_simp; done)) | ((refine wpQuiet_call rfl 109 _ ?_ _ (rg_of P3) ?_); focus (intro wx; go_simp; done)) | ((refine wpQuiet_call rfl 109 _ ?_ _ (rg_of P4) ?_); focus (intro wx; go_simp; done)) | go_big_quiet_step (fail) | quiet_step (fail))
  refine wpQuiet_nil ?_
  rintro _ ⟨rp, rfl⟩
  have hb3 := below_regrown W rp.d rp.os
  generalize Sort.grow (redrawn W rp.d) rp.os = w3 at *
  have hfin := Lib.hid (below_up hB0.out hb3)
  clear L0 L1 L2 L3 P1 P2 P3 P4 hb3 q1 q2 q3
  go_wp2_with fail
  go_ret
  exact ⟨by rw [← Hfin.out]; rfl, hfin.out⟩
end Go.Proofs.Ytcaocnlchfbeaaa.Hd
