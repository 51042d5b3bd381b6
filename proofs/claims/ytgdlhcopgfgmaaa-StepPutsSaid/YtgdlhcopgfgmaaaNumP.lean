/- The walks of chapter 7's Put and Size, and of the document's Put. -/
import Derived.Test.YtgdlhcopgfgmaaaMk
import Derived.Test.YtgdlhcopgfgmaaaNumMath
import Derived.Test.YtgdlhcopgfgmaaaProg
namespace Go.Proofs.Ytgdlhcopgfgmaaa.Num
open Go.RowKit Go.Proofs.Ytgdlhcopgfgmaaa.Mk
open Extern.Stop (cell)
theorem Iu8 : (Try.prog.info? 5).map (fun i => (i.zero, i.size, i.bytes)) = some (some (.int .u8 0), 1, 1) := by kernel_rfl
theorem Uu8 : Try.prog.underlying 5 = some (.int .u8) := by kernel_rfl
theorem Ubs : Try.prog.underlying 89 = some (.slice 5) := by kernel_rfl
theorem Ust : Try.prog.underlying 9 = some .string := by kernel_rfl
theorem ret_str {a b : ByteArray} (h : a = b) : Ending.returned (.string a) = .returned (.string b) := by rw [h]
theorem byte_or (y : Nat) : Go.bits .or .u8 ((y : Int) % 256) 128 = ((y % 128 + 128 : Nat) : Int) := by
  rw [show ((y : Int) % 256) = ((y % 256 : Nat) : Int) by omega, show (128 : Int) = ((128 : Nat) : Int) from rfl, u8_or_nat _ _ (Nat.mod_lt _ (by decide)) (by decide)]
  congr 1
  have e : y % 256 = y % 128 ||| (y % 256 / 128 * 128) := by
    rw [Nat.or_comm, nat_join 7 _ _ (by omega) (by omega)]; omega
  have h2 : (y % 256 / 128 * 128) ||| 128 = 128 := by
    have : y % 256 / 128 = 0 ∨ y % 256 / 128 = 1 := by omega
    rcases this with h | h <;> rw [h] <;> rfl
  rw [e, Nat.or_assoc, h2, Nat.or_comm, nat_join 7 _ _ (by decide) (Nat.mod_lt _ (by decide))]
  omega
theorem cell_ofNat (n : Nat) (h : n < 256) : cell (UInt8.ofNat n) = .int .u8 ((n : Nat) : Int) := by
  unfold cell
  rw [UInt8.toNat_ofNat_of_lt' h]
  rfl
set_option maxRecDepth 100000 in
set_option maxHeartbeats 1000000 in
theorem put_calls (x : Nat) (w : World) (hx : x < 18446744073709551616) :
    Calls Try.prog 84 #[.int .u64 x] w fun e w' => e = .returned (.string (ba (putL x))) ∧ Below w.heap.size w w' := by
  obtain ⟨i0, hi, hz0, hz1, hz2⟩ := info_parts Iu8
  have h10 := putL_len10 x hx
  have H10 := Lib.hid h10
  clear h10
  go_enter Try.func84, Try.ntmps84
  go_wp2_with fail
  go_loopw [0, 3] (fun s0 s3 wr => ∃ (y : Nat) (cur : List UInt8), y < 18446744073709551616 ∧ s0 = .int .u64 y ∧ cur.length ≤ 9 ∧ Hid (cur ++ putL y = putL x) ∧ Hid (wr.ownsRow w.heap.size 5 1 s3 cur.length (hc cur)) ∧ Below w.heap.size w wr) (fun i _ _ => (intOf i).toNat)
  case atStart => exact ⟨x, [], hx, rfl, by simp, Lib.hid rfl, Lib.hid (World.ownsRow_nil _ _ _ _), Below.refl _ _⟩
  case round =>
    obtain ⟨y, cur, hy, rfl, hcur, hf, ho, hbw⟩ := hrel
    have hsw := hbw.size
    by_cases hgt : 127 < y
    · have hpl : Hid (cur ++ [UInt8.ofNat (y % 128 + 128)] ++ putL (y / 128) = putL x) := Lib.hid (by rw [← hf.out, putL_more y (by omega)]; simp)
      have hcl : Hid ((cur ++ [UInt8.ofNat (y % 128 + 128)]).length ≤ 9) := Lib.hid (by
        have h1 := congrArg List.length hpl.out
        have h2 := putL_pos (y / 128)
        have h3 := H10.out
        rw [List.length_append] at h1
        omega)
      have HB := Lib.hid (byte_or y)
      go_wp2_with (at_builtin; refine wpList_append_own _ rfl _ _ 89 rfl w.heap.size 5 i0 _ 1 1 Ubs hi hz0 hz1 hz2 rfl (by decide) _ _ _ rfl (ho.out.alloc _) ⟨wr.heap.size, 0, none⟩ 1 1 [.int .u8 (Go.bits .or .u8 ((y : Int) % 256) 128)] rfl ?c1 ?c2 ?c3 ?c4 ?c5 ?c6 ?_)
      case c1 => rfl
      case c2 => exact cell_one_new _ _ _
      case c3 => intro u hu; rw [List.mem_singleton.1 hu]; rfl
      case c4 => simp only [maxLen]; omega
      case c5 => omega
      case c6 => simp; omega
      intro v2 w2 ho2 hg2 _
      have hb5 : Below w.heap.size w w2 := (hbw.alloc (by omega) _).grown hg2 (by simp; omega) (fun k hk => (ho.out.lt k hk).1)
      have Ho2 : Hid (w2.ownsRow w.heap.size 5 1 v2 (cur ++ [UInt8.ofNat (y % 128 + 128)]).length (hc (cur ++ [UInt8.ofNat (y % 128 + 128)]))) := Lib.hid (by
        have e : hc (cur ++ [UInt8.ofNat (y % 128 + 128)]) = hc cur ++ [.int .u8 (Go.bits .or .u8 ((y : Int) % 256) 128)] := by
          rw [HB.out, ← cell_ofNat _ (by omega)]; simp [hc]
        rw [e, List.length_append]
        exact ho2)
      clear ho2 hg2 ho
      go_wp2_with fail
      go_roundw
      case rel => exact ⟨y / 128, _, by omega, by go_num, hcl.out, hpl, Ho2, hb5⟩
      case measure => simp [intOf] <;> omega
    · have hpl : Hid (cur ++ [UInt8.ofNat y] = putL x) := Lib.hid (by rw [← hf.out, putL_one y (by omega)])
      go_wp2_with (at_builtin; refine wpList_append_own _ rfl _ _ 89 rfl w.heap.size 5 i0 _ 1 1 Ubs hi hz0 hz1 hz2 rfl (by decide) _ _ _ rfl (ho.out.alloc _) ⟨wr.heap.size, 0, none⟩ 1 1 [.int .u8 ((y : Int))] rfl ?c1 ?c2 ?c3 ?c4 ?c5 ?c6 ?_)
      case c1 => rfl
      case c2 => exact cell_one_new _ _ _
      case c3 => intro u hu; rw [List.mem_singleton.1 hu]; rfl
      case c4 => simp only [maxLen]; omega
      case c5 => omega
      case c6 => simp; omega
      intro v2 w2 ho2 hg2 _
      have hb5 : Below w.heap.size w w2 := (hbw.alloc (by omega) _).grown hg2 (by simp; omega) (fun k hk => (ho.out.lt k hk).1)
      have Ho2 : w2.ownsRow w.heap.size 5 1 v2 (cur ++ [UInt8.ofNat y]).length (hc (cur ++ [UInt8.ofNat y])) := by
        have e : hc (cur ++ [UInt8.ofNat y]) = hc cur ++ [.int .u8 (y : Int)] := by
          rw [← cell_ofNat _ (by omega)]; simp [hc]
        rw [e, List.length_append]
        exact ho2
      have hcv := run_string_bytes Ubs Uu8 Ust (SB.of_owns Ho2)
      clear ho2 hg2 ho Ho2
      go_wp2_with fail
      go_ret
      exact ⟨ret_str (by rw [hpl.out]), hb5⟩

set_option maxRecDepth 100000 in
set_option maxHeartbeats 1000000 in
theorem byte_calls (m : Int) (w : World) (h0 : 0 ≤ m) (h1 : m < 256) :
    Calls Try.prog 81 #[.int .i64 m] w fun e w' => e = .returned (.string (ba [UInt8.ofNat m.toNat])) ∧ Below w.heap.size w w' := by
  obtain ⟨n, rfl⟩ := Int.eq_ofNat_of_zero_le h0
  have hn : n < 256 := by omega
  rw [Int.toNat_natCast]
  clear h0 h1
  have hSB : SB (w.alloc (.cells #[.int .u8 (n : Int)] 5)) (.slice (some ⟨w.heap.size, 0, none⟩) 1 1) [UInt8.ofNat n] :=
    ⟨by simp [maxLen], some ⟨w.heap.size, 0, none⟩, 1, rfl, Nat.le_refl _, by simp [maxLen], fun _ => ⟨w.heap.size, 0, rfl, fun j u hj => by
      have e : hc [UInt8.ofNat n] = [.int .u8 (n : Int)] := by simp [hc, cell_ofNat n hn]
      rw [e] at hj
      rw [cell_of_row _ _ _ _ _ _ (heap_alloc_last w _)]
      simpa using hj⟩⟩
  have hcv := run_string_bytes (P := Try.prog) Ubs Uu8 Ust hSB
  clear hSB
  go_enter Try.func81, Try.ntmps81
  go_wp2_with fail
  go_ret
  exact ⟨rfl, (Below.refl _ _).alloc (Nat.le_refl _) _⟩

set_option maxRecDepth 100000 in
set_option maxRecDepth 100000 in
set_option maxHeartbeats 1000000 in
theorem rput_calls (x : Nat) : ∀ (w : World), x < 18446744073709551616 →
    Calls Try.prog 69 #[.int .u64 x] w fun e w' => e = .returned (.string (ba (putL x))) ∧ Below w.heap.size w w' := by
  induction x using Nat.strongRecOn with
  | ind x ih =>
    intro w hx
    by_cases h : x < 128
    · have H1 := Lib.hid (putL_one x h)
      clear ih
      go_enter Try.func69, Try.ntmps69
      go_wp2_with fail
      refine (byte_calls x _ (by omega) (by omega)).mono ?_
      rw [Int.toNat_natCast]
      rintro e w1 ⟨rfl, hb1⟩
      go_wp2_with fail
      go_ret
      exact ⟨ret_str (by rw [H1.out]), hb1⟩
    · have H1 := Lib.hid (putL_more x (by omega))
      have Hih := Lib.hid (ih (x / 128) (by omega))
      have h10 := putL_len10 x hx
      rw [H1.out, List.length_cons] at h10
      clear ih
      go_enter Try.func69, Try.ntmps69
      go_wp2_with fail
      refine (byte_calls ((x : Int) % 128 + 128) _ (by omega) (by omega)).mono ?_
      rw [show ((x : Int) % 128 + 128).toNat = x % 128 + 128 by omega]
      generalize hB1 : ba [UInt8.ofNat (x % 128 + 128)] = b1
      have hz1 : b1.size ≤ 1 := by rw [← hB1]; exact Nat.le_refl _
      have HB1 := Lib.hid hB1
      clear hB1
      rintro e w1 ⟨rfl, hb1⟩
      go_wp2_with fail
      refine (Hih.out _ (by omega)).mono ?_
      generalize hB2 : ba (putL (x / 128)) = b2
      have hz2 : b2.size ≤ 9 := by rw [← hB2, ba_size]; omega
      have HB2 := Lib.hid hB2
      clear hB2
      rintro e w2 ⟨rfl, hb2⟩
      go_wp2_with fail
      go_ret
      exact ⟨ret_str (by rw [← HB1.out, ← HB2.out, ba_append, H1.out]; rfl), below_up hb1 hb2⟩
end Go.Proofs.Ytgdlhcopgfgmaaa.Num
