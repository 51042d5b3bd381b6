/- The walks of chapter 1's functions that put and take a number's bytes. -/
import Derived.Test.YtihdeanfcbiflaaDoorMk
import Derived.Test.YtihdeanfcbiflaaDoorWdMath
import Derived.Laws.BitsAllLaws
import Derived.Test.YtihdeanfcbiflaaDoorProg
namespace Go.Proofs.YtihdeanfcbiflaaDoor.Wd
open Go.RowKit Go.Proofs.YtihdeanfcbiflaaDoor.Mk
open Extern.Stop (cell)
theorem UBs : Tryd.prog.underlying 62 = some (.slice 5) := by kernel_rfl
theorem UBy : Tryd.prog.underlying 5 = some (.int .u8) := by kernel_rfl
theorem USt : Tryd.prog.underlying 9 = some .string := by kernel_rfl
theorem infoByte : (Tryd.prog.info? 5).map (fun i => (i.zero, i.size, i.bytes)) = some (some (.int .u8 0), 1, 1) := by kernel_rfl
theorem made_one (z : Value) (n : Nat) : madeCells #[z] n = (List.replicate n z).toArray := by
  apply Array.ext
  · rw [size_madeCells]; simp
  · intro i h1 h2
    simp [madeCells, Nat.mod_one]
theorem madeN (n : Nat) (hn : n ≤ 1000000) (wx : World) : (Instr.makeSlice 62 (.int .i64 n) (.int .i64 n)).run Tryd.prog wx = .ok (.slice (some ⟨wx.heap.size, 0, none⟩) n n) (wx.alloc (.cells (List.replicate n (.int .u8 0)).toArray 5)) := by
  obtain ⟨i, hi, hz0, hz1, hz2⟩ := info_parts infoByte
  have := run_make (P := Tryd.prog) (w := wx) 62 5 i (.int .u8 0) UBs hi hz0 .i64 .i64 n n (by omega) (by omega) (by rw [hz2]; omega) (by omega)
  rw [this, hz1]
  have e : madeCells (Value.int .u8 0).cells (Int.toNat n * 1) = (List.replicate n (.int .u8 0)).toArray := by
    rw [Int.toNat_natCast, Nat.mul_one]
    exact made_one (.int .u8 0) n
  rw [e]
  simp
/-- k bytes put, the others 0 -/
def puts (n k x : Nat) : List Value := List.replicate (n - k) (.int .u8 0) ++ hc (beL k x)
theorem puts_len (n k x : Nat) (h : k ≤ n) : (puts n k x).length = n := by
  unfold puts
  rw [List.length_append, hc_len, beL_len, List.length_replicate]
  omega
theorem puts_get (n k x : Nat) (h : k < n) : (puts n k x)[n - 1 - k]? = some (.int .u8 0) := by
  unfold puts
  rw [List.getElem?_append_left (by rw [List.length_replicate]; omega), List.getElem?_replicate, if_pos (by omega)]
theorem puts_set (n k x : Nat) (h : k < n) : (puts n k x).set (n - 1 - k) (.int .u8 ((x / 256 ^ k % 256 : Nat) : Int)) = puts n (k + 1) x := by
  unfold puts
  have e : List.replicate (n - k) (Value.int .u8 0) = List.replicate (n - (k + 1)) (.int .u8 0) ++ [.int .u8 0] := by
    rw [show n - k = (n - (k + 1)) + 1 by omega, List.replicate_succ']
  have e2 : hc (beL (k + 1) x) = .int .u8 ((x / 256 ^ k % 256 : Nat) : Int) :: hc (beL k x) := by
    rw [beL]
    simp only [hc, List.map_cons, cell, UInt8.toNat_ofNat']
    rfl
  rw [e, e2, List.append_assoc, List.set_append_right _ _ (by rw [List.length_replicate]; omega), List.length_replicate, show n - 1 - k - (n - (k + 1)) = 0 by omega]
  rfl
theorem or_step (x b : Nat) (hx : x < 72057594037927936) (hb : b < 256) : Go.bits .or .u64 ((x : Int) * 256) (IntKind.u64.wrap (b : Int)) = ((x * 256 + b : Nat) : Int) := by
  have wu64 : ∀ x : Int, 0 ≤ x → x < 18446744073709551616 → IntKind.u64.wrap x = x := fun x h0 h1 => by rw [IntKind.wrap_u64]; omega
  rw [wu64 _ (by omega) (by omega)]
  rw [show ((x : Int) * 256) = ((x * 256 : Nat) : Int) by omega, u64_or_nat _ _ (by omega) (by omega), nat_join 8 _ _ (by omega) (by omega)]
theorem ret_u {k : IntKind} {a b : Int} (h : a = b) : Ending.returned (.int k a) = .returned (.int k b) := by rw [h]
theorem beN_lt32 (l : List UInt8) (h : l.length ≤ 4) : beN l < 4294967296 :=
  Nat.lt_of_lt_of_le (beN_lt l) (Nat.le_trans (Nat.pow_le_pow_right (by decide) h) (by decide))
end Go.Proofs.YtihdeanfcbiflaaDoor.Wd
