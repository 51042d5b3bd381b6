/- The walks of the document's numbers without their lowest bits, and of how many bits there are. -/
import Derived.IntWalk
import Derived.Test.YtalfgagcfjddcaaR4
namespace Go.Proofs.Ytalfgagcfjddcaa.R4
open Go.RowKit Go.Proofs.Ytalfgagcfjddcaa.Mk Go.Proofs.Ytalfgagcfjddcaa.Ul Go.Proofs.Ytalfgagcfjddcaa.Wd Go.Proofs.Ytalfgagcfjddcaa.Wi
theorem made_one (z : Value) (n : Nat) : madeCells #[z] n = (List.replicate n z).toArray := by
  apply Array.ext
  · rw [size_madeCells]; simp
  · intro i h1 h2
    simp [madeCells, Nat.mod_one]
theorem madeB (wx : World) : (Instr.makeSlice 30 (.int .i64 256) (.int .i64 256)).run Try.prog wx = .ok (.slice (some ⟨wx.heap.size, 0, none⟩) 256 256) (wx.alloc (.cells (GC Value.bool 256 fun _ => false).toArray 4)) := by
  obtain ⟨i, hi, hz0, hz1, hz2⟩ := info_parts IBo
  have := run_make (P := Try.prog) (w := wx) 30 4 i (.bool false) UBn hi hz0 .i64 .i64 256 256 (by omega) (by omega) (by rw [hz2]; omega) (by omega)
  rw [this, hz1]
  have e : madeCells (Value.bool false).cells (Int.toNat 256 * 1) = (GC Value.bool 256 fun _ => false).toArray := by
    rw [GC, List.map_const', List.length_range]
    exact made_one (.bool false) 256
  rw [e]
  simp
/-- what lies where in the loop of Shr -/
def RSQ (b o X g : Nat) (f : Nat → Bool) (w wr : World) : Prop := BR wr b o X ∧ GK Value.bool g 256 f 4 wr ∧ Below w.heap.size w wr
theorem RSQ.step {b o X g : Nat} {f f4 : Nat → Bool} {w wr : World} (h : RSQ b o X g f w wr) {k : Nat} {v : Bool} (hb : b ≠ g) (h3 : w.heap.size ≤ g) (he : upg f k v = f4) : RSQ b o X g f4 w (wr.setCell ⟨g, k, none⟩ (.bool v)) := by
  rw [← he]
  exact ⟨h.1.eq (Below.heap_setCell _ _ _ _ hb), h.2.1.set v, h.2.2.setCell (p := ⟨g, k, none⟩) h3 _⟩
set_option maxHeartbeats 4000000 in
set_option maxRecDepth 100000 in
theorem rshr_calls (X b1 o1 k1 : Nat) (n : Int) (w : World) (hX : X < 2 ^ 256) (r1 : BR w b1 o1 X) (hn1 : n ≤ 9223372036854775807) :
    Calls Try.prog 22 #[.slice (some ⟨b1, o1, none⟩) 256 k1, .int .i64 n] w fun e w' => ∃ b c, e = .returned (.slice (some ⟨b, 0, none⟩) 256 c) ∧ BR w' b 0 (shrI X n) ∧ w.heap.size ≤ b ∧ Below w.heap.size w w' := by
  have HX := Lib.hid hX
  have HB := Lib.hid r1.lt
  have hm := madeB
  have R1 := Lib.hid r1
  clear hX r1
  go_enter Try.func22, Try.ntmps22
  go_wp2_with fail
  generalize hW : World.alloc w _ = W
  have H0 : Hid (RSQ b1 o1 X w.heap.size (fun _ => false) w W) := Lib.hid (by rw [← hW]; exact ⟨R1.out.below (bl1 _ _), nw1 _ _, bl1 _ _⟩)
  clear hW hm
  go_loopw [6] (fun s6 wr => ∃ k : Nat, k ≤ 256 ∧ s6 = .int .i64 k ∧ Hid (RSQ b1 o1 X w.heap.size (fun i => if i < k then (shrI X n).testBit i else false) w wr)) (fun s6 _ => 256 - (intOf s6).toNat)
  case atStart => exact ⟨0, by omega, rfl, Lib.hid ⟨H0.out.1, H0.out.2.1.ext (fun i _ => by simp), H0.out.2.2⟩⟩
  case round =>
    obtain ⟨k, hk, rfl, hq⟩ := hrel
    by_cases hkl : k < 256
    · have c3 := hq.out.2.1.cell hkl
      have z3 := hq.out.2.1.free k
      have i1 : ¬ (k : Int) < 0 := by omega
      have i2 : (k : Int) < 256 := by omega
      have hb := HB.out
      rcases (by omega : n ≤ 0 ∨ (0 < n ∧ n < 256 - (k : Int)) ∨ (0 < n ∧ 256 - (k : Int) ≤ n)) with hn | ⟨hn, hn2⟩ | ⟨hn, hn2⟩
      · have c1 := hq.out.1 k hkl
        have HS := Lib.hid (hq.out.step (k := k) (v := X.testBit k) (f4 := fun i => if i < k + 1 then (shrI X n).testBit i else false) (by omega) (Nat.le_refl _) (by rw [← shr_bit0 hn]; exact upg_lt (fun i => (shrI X n).testBit i) false k))
        generalize X.testBit k = x at *
        go_wp2_with fail
        go_roundw
        case rel => exact ⟨k + 1, by omega, by go_num, HS⟩
        case measure => simp [intOf] <;> omega
      · have c1 := hq.out.1 ((k : Int) + n).toNat (by omega)
        have hbt : (shrI X n).testBit k = X.testBit ((k : Int) + n).toNat := by rw [shr_bit hn]; congr 1; omega
        have HS := Lib.hid (hq.out.step (k := k) (v := X.testBit ((k : Int) + n).toNat) (f4 := fun i => if i < k + 1 then (shrI X n).testBit i else false) (by omega) (Nat.le_refl _) (by rw [← hbt]; exact upg_lt (fun i => (shrI X n).testBit i) false k))
        clear hbt
        generalize X.testBit ((k : Int) + n).toNat = x at *
        have i3 : ¬ n ≤ 0 := by omega
        have i4 : (k : Int) + n < 256 := by omega
        go_wp2_with fail
        go_roundw
        case rel => exact ⟨k + 1, by omega, by go_num, HS⟩
        case measure => simp [intOf] <;> omega
      · have hf := upg_same (fun i => (shrI X n).testBit i) false k (shr_bit1 HX.out hn hn2)
        have HS := Lib.hid hq.out
        rw [hf] at HS
        have i3 : ¬ n ≤ 0 := by omega
        have i4 : ¬ n < 256 - (k : Int) := by omega
        clear hf
        go_wp2_with fail
        go_roundw
        case rel => exact ⟨k + 1, by omega, by go_num, HS⟩
        case measure => simp [intOf] <;> omega
    · obtain rfl : k = 256 := by omega
      have h2 := hq.out.2.1.ext (f' := fun i => (shrI X n).testBit i) (fun i hi => if_pos hi)
      have Ho : Hid (BR wr w.heap.size 0 (shrI X n)) := Lib.hid (fun q hq => by rw [Nat.zero_add]; exact h2.cell hq)
      have Hb := Lib.hid hq.out.2.2
      clear h2 hq
      go_wp2_with fail
      go_ret
      exact ⟨_, _, rfl, Ho.out, Nat.le_refl _, Hb.out⟩
set_option maxHeartbeats 4000000 in
set_option maxRecDepth 100000 in
theorem rlen_calls (X b1 o1 k1 : Nat) (w : World) (hX : X < 2 ^ 256) (r1 : BR w b1 o1 X) :
    Calls Try.prog 29 #[.slice (some ⟨b1, o1, none⟩) 256 k1] w fun e w' => e = .returned (.int .i64 (bl X : Nat)) ∧ w' = w := by
  have HX := Lib.hid (show X % 2 ^ 256 = X from Nat.mod_eq_of_lt hX)
  have R1 := Lib.hid r1
  clear hX r1
  go_enter Try.func29, Try.ntmps29
  go_wp2_with fail
  go_loop [3, 4] (fun s3 s4 => ∃ k : Nat, k ≤ 256 ∧ s4 = .int .i64 k ∧ s3 = .int .i64 (bl (X % 2 ^ k) : Nat)) (fun _ s4 => 256 - (intOf s4).toNat)
  case atStart => exact ⟨0, by omega, rfl, by rw [show X % 2 ^ 0 = 0 from Nat.mod_one X, bl_zero]; rfl⟩
  case round =>
    obtain ⟨k, hk, rfl, rfl⟩ := hrel
    by_cases hkl : k < 256
    · have c1 := R1.out k hkl
      have hst := bl_mod_succ X k
      have i1 : ¬ (k : Int) < 0 := by omega
      have i2 : (k : Int) < 256 := by omega
      cases hb : X.testBit k
      · rw [hb] at hst c1
        rw [if_neg (by decide)] at hst
        have HS := Lib.hid hst
        clear hst hb
        go_wp2_with fail
        go_round
        case rel => exact ⟨k + 1, by omega, by go_num, by rw [HS.out]⟩
        case measure => simp [intOf] <;> omega
      · rw [hb] at hst c1
        rw [if_pos rfl] at hst
        have HS := Lib.hid hst
        clear hst hb
        go_wp2_with fail
        go_round
        case rel => exact ⟨k + 1, by omega, by go_num, by rw [HS.out]; go_num⟩
        case measure => simp [intOf] <;> omega
    · obtain rfl : k = 256 := by omega
      rw [HX.out]
      go_wp2_with fail
      go_ret
      exact ⟨rfl, rfl⟩
end Go.Proofs.Ytalfgagcfjddcaa.R4
