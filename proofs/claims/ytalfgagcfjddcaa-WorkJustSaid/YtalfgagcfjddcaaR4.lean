/- The walks of the document's numbers, bit by bit. -/
import Derived.Test.YtalfgagcfjddcaaRow1
import Derived.Test.YtalfgagcfjddcaaBitMath
import Derived.Test.YtalfgagcfjddcaaProg
namespace Go.Proofs.Ytalfgagcfjddcaa.R4
open Go.RowKit Go.Proofs.Ytalfgagcfjddcaa.Mk Go.Proofs.Ytalfgagcfjddcaa.Ul Go.Proofs.Ytalfgagcfjddcaa.Wd Go.Proofs.Ytalfgagcfjddcaa.Wi
open Extern.Stop (cell)
theorem UBn : Try.prog.underlying 30 = some (.slice 4) := by kernel_rfl
theorem IBo : (Try.prog.info? 4).map (fun i => (i.zero, i.size, i.bytes)) = some (some (.bool false), 1, 1) := by kernel_rfl
/-- a slice of bits -/
abbrev BV (w : World) (v : Value) (l : List Bool) : Prop := SL (E1 Value.bool) 1 w v l
abbrev BO (B : Nat) (w : World) (v : Value) (l : List Bool) : Prop := w.ownsRow B 4 1 v l.length (l.map Value.bool)
/-- 256 bits lie in block b from o on -/
def BR (w : World) (b o X : Nat) : Prop := ∀ k, k < 256 → w.cell? ⟨b, o + k, none⟩ = some (.bool (X.testBit k))
theorem BR.below {w w' : World} {b o X : Nat} (h : BR w b o X) (hb : Below w.heap.size w w') : BR w' b o X := fun k hk => by
  have h1 := h k hk
  rw [hb.cell (p := ⟨b, o + k, none⟩) (block_lt_of_cell h1)]
  exact h1
theorem BR.eq {w w' : World} {b o X : Nat} (h : BR w b o X) (he : w'.heap[b]? = w.heap[b]?) : BR w' b o X := fun k hk => (World.cell?_of_block (a := ⟨b, o + k, none⟩) he).trans (h k hk)
theorem BR.drewN {w : World} {b o X : Nat} (h : BR w b o X) (n : Nat) : BR (w.drewN n) b o X := h
theorem BR.lt {w : World} {b o X : Nat} (h : BR w b o X) : b < w.heap.size := block_lt_of_cell (h 0 (by decide))
theorem opens {w : World} {v : Value} {X : Nat} (h : BV w v (bitsL X 256)) : ∃ b o c, v = .slice (some ⟨b, o, none⟩) 256 c ∧ BR w b o X := by
  obtain ⟨A, c, h1, h2, h3, h4⟩ := h.cell1
  rw [bitsL_len] at h1 h2 h4
  obtain ⟨b, o, rfl, h5⟩ := h4 (by decide)
  exact ⟨b, o, c, h1, fun k hk => h5 k _ (bitsL_get X 256 k hk)⟩
theorem BR.mod {w : World} {b o X : Nat} (h : BR w b o X) : BR w b o (X % 2 ^ 256) := fun k hk => by
  rw [h k hk, Nat.testBit_mod_two_pow, decide_eq_true hk, Bool.true_and]
theorem own_opens {B X : Nat} {w : World} {v : Value} (h : BO B w v (bitsL X 256)) : ∃ b c, v = .slice (some ⟨b, 0, none⟩) 256 c ∧ BR w b 0 X ∧ B ≤ b := by
  obtain ⟨b, o, c, rfl, h1⟩ := opens (SL.of_owns1 h (by rw [bitsL_len]; omega))
  have h2 := h.2
  rcases h2 with ⟨e, _⟩ | ⟨g, cap, cur, e, hg, _⟩
  · cases e
  · injection e with e1 e2 e3
    injection e1 with e4
    injection e4 with e5 e6
    subst e5 e6
    exact ⟨b, c, rfl, h1, hg⟩
set_option maxHeartbeats 4000000 in
set_option maxRecDepth 100000 in
theorem rof_calls (h : List UInt8) (w : World) (hl : h.length = 32) :
    Calls Try.prog 23 #[hv h] w fun e w' => ∃ b c, e = .returned (.slice (some ⟨b, 0, none⟩) 256 c) ∧ BR w' b 0 (beN h) ∧ w.heap.size ≤ b ∧ Below w.heap.size w w' := by
  obtain ⟨i0, hi, hz0, hz1, hz2⟩ := info_parts IBo
  have HL := Lib.hid hl
  clear hl
  unfold hv
  go_enter Try.func23, Try.ntmps23
  go_wp2_with fail
  generalize hW : World.alloc w _ = W
  have H0 : Hid (W.heap[w.heap.size]? = some (.cells (hc h).toArray 23 (0, 0)) ∧ Below w.heap.size w W) := Lib.hid (by rw [← hW]; exact ⟨nw1 _ _, bl1 _ _⟩)
  clear hW
  go_loopw [3, 4] (fun s3 s4 wr => ∃ j : Nat, j ≤ 32 ∧ s4 = .int .i64 (31 - (j : Int)) ∧ Hid (BO (w.heap.size + 1) wr s3 (bitsL (beN h) (8 * j))) ∧ Hid (wr.heap[w.heap.size]? = some (.cells (hc h).toArray 23 (0, 0)) ∧ Below w.heap.size w wr ∧ w.heap.size + 1 ≤ wr.heap.size)) (fun _ s4 _ => (intOf s4 + 1).toNat)
  case atStart => exact ⟨0, by omega, rfl, Lib.hid (World.ownsRow_nil _ _ _ _), Lib.hid ⟨H0.out.1, H0.out.2, (Array.getElem?_eq_some_iff.1 H0.out.1).1⟩⟩
  case round =>
    obtain ⟨j, hj, rfl, ho, hq⟩ := hrel
    by_cases hjl : j < 32
    · have hlen : h.length = 32 := HL.out
      have c1 : wr.cell? ⟨w.heap.size, 31 - j, none⟩ = some (.int .u8 (dg 256 (beN h) j : Nat)) := by
        rw [cell_of_row _ _ _ _ _ _ hq.out.1, List.getElem?_toArray, hc, List.getElem?_map, List.getElem?_eq_getElem (by omega)]
        simp only [Option.map_some, cell]
        rw [byteAt h j hlen hjl]
        rfl
      clear hlen
      have hd := dg_lt (B := 256) (by decide) (beN h) j
      generalize hdd : dg 256 (beN h) j = d at *
      have i1 : (0 : Int) ≤ 31 - (j : Int) := by omega
      have i2 : (j : Int) ≤ 31 := by omega
      have i3 : decide ((j : Int) ≤ 31) = true := decide_eq_true i2
      have HB := Lib.hid (fun k (hk : k < 8) => by rw [← hdd]; exact bit_of_byte (beN h) j k hk : ∀ k, k < 8 → (((d / 2 ^ k : Nat) : Int) % 2 == 1) = (beN h).testBit (8 * j + k))
      clear hdd
      go_wp2_with fail
      clear c1
      obtain ⟨wo, rfl⟩ : ∃ wo : World, wo = wr := ⟨_, rfl⟩
      go_loopw [3, 5, 6] (fun s3 s5 s6 wr => ∃ k : Nat, k ≤ 8 ∧ s6 = .int .i64 k ∧ s5 = .int .i64 ((d / 2 ^ k : Nat) : Int) ∧ Hid (BO (w.heap.size + 1) wr s3 (bitsL (beN h) (8 * j + k))) ∧ Hid (wr.heap[w.heap.size]? = some (.cells (hc h).toArray 23 (0, 0)) ∧ Below w.heap.size w wr ∧ w.heap.size + 1 ≤ wr.heap.size)) (fun _ _ s6 _ => 8 - (intOf s6).toNat)
      case atStart => exact ⟨0, by omega, rfl, by simp, Lib.hid ho.out, hq⟩
      case round =>
        clear ho hq
        obtain ⟨k, hk, rfl, rfl, ho, hq⟩ := hrel
        by_cases hkl : k < 8
        · have hb := HB.out k hkl
          have hh := Lib.hid (byte_half d k)
          have hle : d / 2 ^ k < 256 := Nat.lt_of_le_of_lt (Nat.div_le_self _ _) hd
          have hlen : (bitsL (beN h) (8 * j + k)).length ≤ 1000 := by rw [bitsL_len]; omega
          generalize d / 2 ^ k = y at *
          have hsz := hq.out.2.2
          go_wp2_with (at_builtin; refine wpList_append_own _ rfl _ _ 30 rfl (w.heap.size + 1) 4 i0 _ 1 1 UBn hi hz0 hz1 hz2 rfl (by decide) _ _ _ rfl (ho.out.alloc _) ⟨wr.heap.size, 0, none⟩ 1 1 [.bool ((beN h).testBit (8 * j + k))] rfl ?c1 ?c2 ?c3 ?c4 ?c5 ?c6 ?_)
          case c1 => rfl
          case c2 => exact cell_one_new _ _ _
          case c3 => intro u hu; rw [List.mem_singleton.1 hu]; rfl
          case c4 => simp only [maxLen]; omega
          case c5 => omega
          case c6 => simp <;> omega
          intro v2 w2 ho2 hg2 _
          have hgn := grown_new hg2 (fun k hk => (ho.out.lt k hk).1) hq.out.2.1 (Nat.le_succ _) (by omega)
          have Ho2 := Lib.hid (SL.append1 ho2)
          rw [← bitsL_succ] at Ho2
          have HQ2 := Lib.hid (And.intro ((hgn.2.2 w.heap.size (by omega) (by omega)).trans hq.out.1) (And.intro hgn.1 (show w.heap.size + 1 ≤ w2.heap.size by omega)))
          clear ho2 hg2 hgn ho hq hb hlen hsz
          go_wp2_with fail
          go_roundw
          case rel => exact ⟨k + 1, by omega, by go_num, by rw [← hh.out]; go_num, Ho2, HQ2⟩
          case measure => simp [intOf] <;> omega
        · obtain rfl : k = 8 := by omega
          have Ho := Lib.hid ho.out
          clear ho
          go_wp2_with fail
          go_roundw
          case rel => exact ⟨j + 1, by omega, by go_num, by rw [show 8 * (j + 1) = 8 * j + 8 by omega]; exact Ho, hq⟩
          case measure => simp [intOf] <;> omega
    · obtain rfl : j = 32 := by omega
      have Ho := Lib.hid ho.out
      clear ho
      obtain ⟨b, c, rfl, hr, hB⟩ := own_opens Ho.out
      have HR := Lib.hid hr
      have HBb := Lib.hid hB
      clear hr hB Ho
      go_wp2_with fail
      go_ret
      exact ⟨b, c, rfl, HR.out, Nat.le_of_succ_le HBb.out, hq.out.2.1⟩
set_option maxHeartbeats 4000000 in
set_option maxRecDepth 100000 in
theorem rcmp_calls (X Y b1 o1 k1 b2 o2 k2 : Nat) (w : World) (hX : X < 2 ^ 256) (hY : Y < 2 ^ 256) (r1 : BR w b1 o1 X) (r2 : BR w b2 o2 Y) :
    Calls Try.prog 54 #[.slice (some ⟨b1, o1, none⟩) 256 k1, .slice (some ⟨b2, o2, none⟩) 256 k2] w fun e w' => e = .returned (.int .i64 (cmpI X Y)) ∧ Below w.heap.size w w' := by
  have HT := Lib.hid (HiB.top hX hY)
  have H0 := Lib.hid (And.intro r1 (And.intro r2 (Below.refl w.heap.size w)))
  clear hX hY r1 r2
  go_enter Try.func54, Try.ntmps54
  go_wp2_with fail
  go_loopw [5] (fun s5 wr => ∃ j : Nat, j ≤ 256 ∧ s5 = .int .i64 (255 - (j : Int)) ∧ Hid (BR wr b1 o1 X ∧ BR wr b2 o2 Y ∧ Below w.heap.size w wr) ∧ Hid (HiB X Y (256 - j))) (fun s5 _ => (intOf s5 + 1).toNat)
  case atStart => exact ⟨0, by omega, rfl, H0, HT⟩
  case round =>
    obtain ⟨j, hj, rfl, hq, hhi⟩ := hrel
    by_cases hjl : j < 256
    · have c1 := hq.out.1 (255 - j) (by omega)
      have c2 := hq.out.2.1 (255 - j) (by omega)
      have hs := hhi.out
      rw [show 256 - j = 255 - j + 1 by omega] at hs
      have HS := Lib.hid hs.step
      have HK := Lib.hid (show 256 - (j + 1) = 255 - j by omega)
      have i1 : (0 : Int) ≤ 255 - (j : Int) := by omega
      have i2 : (j : Int) ≤ 255 := by omega
      have i3 : (255 : Int) - (j : Int) < 256 := by omega
      clear hs hhi
      generalize X.testBit (255 - j) = x at *
      generalize Y.testBit (255 - j) = y at *
      cases x <;> cases y
      · go_wp2_with fail
        go_quiet (fail)
        go_wp2_with fail
        go_roundw
        case rel => exact ⟨j + 1, by omega, by go_num, Lib.hid ⟨(hq.out.1).drewN _, (hq.out.2.1).drewN _, bdN hq.out.2.2 _⟩, Lib.hid (by rw [HK.out]; exact HS.out.2.2 (by trivial))⟩
        case measure => simp [intOf] <;> omega
      · go_wp2_with fail
        go_quiet (fail)
        go_wp2_with fail
        go_ret
        exact ⟨by rw [HS.out.1 (by trivial) (by trivial)]; rfl, bdN hq.out.2.2 _⟩
      · go_wp2_with fail
        go_quiet (fail)
        go_wp2_with fail
        go_ret
        exact ⟨by rw [HS.out.2.1 (by trivial) (by trivial)]; rfl, bdN hq.out.2.2 _⟩
      · go_wp2_with fail
        go_quiet (fail)
        go_wp2_with fail
        go_roundw
        case rel => exact ⟨j + 1, by omega, by go_num, Lib.hid ⟨(hq.out.1).drewN _, (hq.out.2.1).drewN _, bdN hq.out.2.2 _⟩, Lib.hid (by rw [HK.out]; exact HS.out.2.2 (by trivial))⟩
        case measure => simp [intOf] <;> omega
    · obtain rfl : j = 256 := by omega
      go_wp2_with fail
      go_ret
      exact ⟨by rw [cmpI_eq (HiB.zero hhi.out)]; rfl, hq.out.2.2⟩
end Go.Proofs.Ytalfgagcfjddcaa.R4
