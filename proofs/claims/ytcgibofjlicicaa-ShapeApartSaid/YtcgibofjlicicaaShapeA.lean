/- The walk of chapter 11's law ShapeApart: it answers true. -/
import Derived.Test.YtcgibofjlicicaaShapeL
namespace Go.Proofs.Ytcgibofjlicicaa.Shape
open Go.RowKit Go.Proofs.Ytcgibofjlicicaa.Mk
theorem depth_le (n i : Int) (j : Nat) (h0 : 0 ≤ i) (hi : i < n) (h : n.toNat ≤ 2 ^ j) : depthI n i ≤ j := by
  unfold depthI
  rw [if_pos ⟨h0, hi⟩, sidesI_in n i h0 hi, List.length_reverse]
  have := down_len j n.toNat i.toNat h
  omega
theorem depth_len (n i : Int) (h0 : 0 ≤ i) (hi : i < n) : depthI n i = ((sidesI n i).length : Int) := by
  unfold depthI
  rw [if_pos ⟨h0, hi⟩]
theorem sides_apart (n i k : Int) (h0 : 0 ≤ k) (hk : k < i) (hi : i < n) : sidesI n i ≠ sidesI n k := by
  rw [sidesI_in n i (by omega) hi, sidesI_in n k h0 (by omega)]
  intro he
  have := down_apart n.toNat n.toNat i.toNat k.toNat (Nat.le_refl _) (by omega) (by omega) (List.reverse_inj.1 he)
  omega
set_option maxRecDepth 100000 in
set_option maxHeartbeats 4000000 in
theorem lawApart_calls (n : Int) (w : World) (hn : n ≤ 9223372036854775807) (hn0 : -9223372036854775808 ≤ n) :
    Calls Try.prog 16 #[.int .i64 n] w fun e w' => e = .returned (.bool true) ∧ Below w.heap.size w w' := by
  by_cases hlo : n < 1
  · go_enter Try.func16, Try.ntmps16
    go_wp2_with fail
    refine (awake_calls _).mono ?_
    rintro e w1 ⟨rfl, hb1⟩
    go_wp2_with fail
    go_ret
    exact ⟨rfl, hb1⟩
  by_cases hhi : 80 < n
  · go_enter Try.func16, Try.ntmps16
    go_wp2_with fail
    refine (awake_calls _).mono ?_
    rintro e w1 ⟨rfl, hb1⟩
    go_wp2_with fail
    go_ret
    exact ⟨rfl, hb1⟩
  go_enter Try.func16, Try.ntmps16
  go_wp2_with fail
  go_loop [3, 4] (fun s3 s4 => ∃ (j k : Nat), s3 = .int .i64 j ∧ s4 = .int .i64 k ∧ j + k ≤ 80 ∧ Hid (n.toNat ≤ (k + 1) * 2 ^ j)) (fun _ s4 => (intOf s4).toNat)
  case atStart => exact ⟨0, (n - 1).toNat, rfl, by rw [Int.toNat_of_nonneg (by omega)], by omega, Lib.hid (by omega)⟩
  case round =>
    obtain ⟨j, k, rfl, rfl, hjk, hp⟩ := hrel
    by_cases hk : 0 < k
    · have hp2 : Hid (n.toNat ≤ (k / 2 + 1) * 2 ^ (j + 1)) := Lib.hid (by
        have h1 := hp.out
        have h2 : (k + 1) * 2 ^ j ≤ (2 * (k / 2 + 1)) * 2 ^ j := Nat.mul_le_mul_right _ (by omega)
        rw [Nat.pow_succ]
        have h3 : (2 * (k / 2 + 1)) * 2 ^ j = (k / 2 + 1) * (2 ^ j * 2) := by rw [Nat.mul_comm 2, Nat.mul_assoc, Nat.mul_comm 2]
        omega)
      go_wp2_with fail
      go_round
      case rel => exact ⟨j + 1, k / 2, by go_num, by go_num, by omega, hp2⟩
      case measure => simp [intOf] <;> omega
    · obtain rfl : k = 0 := by omega
      have hp2 : Hid (n.toNat ≤ 2 ^ j) := Lib.hid (by have := hp.out; omega)
      clear hp
      go_wp2_with fail
      go_loopw [5, 6] (fun s5 _ wr => ∃ (i : Nat), s5 = .int .i64 i ∧ (i : Int) ≤ n ∧ Below w.heap.size w wr) (fun s5 _ _ => n.toNat - (intOf s5).toNat)
      case atStart => exact ⟨0, rfl, by omega, Below.refl _ _⟩
      case round =>
        obtain ⟨i, rfl, hi, hbw⟩ := hrel
        by_cases hin : (i : Int) < n
        · have Hi := Lib.hid (fun w => sides_calls n i w hn)
          have Hd := Lib.hid (fun w => depth_calls n i w hn hn0 (by omega) (by omega))
          have hdl := depth_le n i j (by omega) hin hp2.out
          have hde := depth_len n i (by omega) hin
          rw [hde] at Hd hdl
          have hl := sidesI_len n i hn
          have hap := Lib.hid (fun (k : Int) h0 hk => sides_apart n i k h0 hk hin)
          clear hde hp2
          generalize sidesI n i = L at *
          have hnd : decide (j < L.length) = false := by simp; omega
          go_wp2_with fail
          refine (Hd.out _).mono ?_
          rintro e w1 ⟨rfl, hb1⟩
          go_wp2_with fail
          refine (Hd.out _).mono ?_
          rintro e w2 ⟨rfl, hb2⟩
          go_wp2_with fail
          refine (Hi.out _).mono ?_
          rintro e w3 ⟨v1, rfl, s1, hb3⟩
          obtain ⟨A1, c1, rfl⟩ := SLB.open s1
          have hb3' := below_up (below_up (below_up hbw hb1) hb2) hb3
          clear s1 hb1 hb2 hb3 hbw
          go_wp2_with fail
          go_loopw [6] (fun s6 wr => ∃ (k : Nat), s6 = .int .i64 k ∧ k ≤ i ∧ Below w.heap.size w wr) (fun s6 _ => i - (intOf s6).toNat)
          case atStart => exact ⟨0, rfl, by omega, hb3'⟩
          case round =>
            obtain ⟨k, rfl, hki, hbk⟩ := hrel
            by_cases hkl : k < i
            · have Hk := Lib.hid (fun w => sides_calls n k w hn)
              have hlk := sidesI_len n k hn
              have hne := hap.out k (by omega) (by omega)
              generalize sidesI n k = M at *
              go_wp2_with fail
              refine (Hi.out _).mono ?_
              rintro e w4 ⟨v4, rfl, s4, hb4⟩
              go_wp2_with fail
              refine (Hk.out _).mono ?_
              rintro e w5 ⟨v5, rfl, s5, hb5⟩
              have HS := Lib.hid (same_calls v4 v5 L M w5 (s4.below hb5) s5 hl hlk)
              rw [show decide (L = M) = false from by simp [hne]] at HS
              go_wp2_with fail
              refine HS.out.mono ?_
              rintro e w6 ⟨rfl, hb6⟩
              go_wp2_with fail
              go_roundw
              case rel => exact ⟨k + 1, by go_num, by omega, below_up (below_up (below_up hbk hb4) hb5) hb6⟩
              case measure => simp [intOf] <;> omega
            · go_wp2_with fail
              go_roundw
              case rel => exact ⟨i + 1, by go_num, by omega, hbk⟩
              case measure => simp [intOf] <;> omega
        · go_wp2_with fail
          refine (awake_calls _).mono ?_
          rintro e w1 ⟨rfl, hb1⟩
          go_wp2_with fail
          go_ret
          exact ⟨rfl, below_up hbw hb1⟩
end Go.Proofs.Ytcgibofjlicicaa.Shape
