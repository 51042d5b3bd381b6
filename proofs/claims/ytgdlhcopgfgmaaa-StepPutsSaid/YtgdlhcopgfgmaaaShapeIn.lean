/- The walk of chapter 11's down, at whatever a round makes of what comes. -/
import Derived.RangeFuncNested
import Derived.RangeFuncBound
import Derived.RangeFuncCalls
import Derived.RangeFuncLeaves
import Derived.Shelf.Abstract
import Derived.Shelf.RegionOpen
import Derived.WalkKit
import Derived.OwnWalkIn
import Derived.TacticsInMore
import Derived.LoopNIn
import Derived.LoopIn
import Derived.Test.YtgdlhcopgfgmaaaShape
namespace Go.Proofs.Ytgdlhcopgfgmaaa.Shape
open Go.RowKit Go.Shelf Go.Proofs.Ytgdlhcopgfgmaaa.Mk
attribute [local go_sem] Oper.semAt_some
theorem room_of_none {F : Fence} (hd : F.depth = none) (k : Nat) : F.room k := fun d h => by rw [hd] at h; cases h
set_option maxRecDepth 100000 in
set_option maxHeartbeats 2000000 in
theorem down_in (l n₀ : Nat) (n0 i0 : Int) (L : List Bool) (J Jx : List Bool → World → Prop) (hL : Hid (downL n0.toNat i0.toNat = L))
    (hY : ∀ pre x W, J pre W → pre.length < L.length → YieldAt Fence.wide 0 Try.prog l #[.bool x] W fun e W' =>
      (e = .returned (.bool true) ∧ J (pre ++ [x]) W' ∧ Below n₀ W W') ∨ (e = .returned (.bool false) ∧ Jx (pre ++ [x]) W'))
    (hn : n0 ≤ 9223372036854775807) (hi0 : 0 ≤ i0) (hi : i0 < n0) (W : World) (h0 : J [] W) :
    CallsIn Fence.wide 0 Try.prog 92 #[.int .i64 n0, .int .i64 i0, .func (.yield l) #[] #[]] W fun e W' => (∃ v, e = .returned v) ∧
      (J L W' ∨ (∃ pre, pre <+: L ∧ Jx pre W')) := by
  refine callsIn_of_wp Try.func92 rfl trivial ?_ rfl
  simp only [Try.ntmps92, List.size_toArray, List.length_cons, List.length_nil, Nat.reduceAdd, Nat.reduceSub, Array.replicate_succ, Array.replicate_zero, List.push_toArray, List.append_toArray, List.nil_append, List.cons_append]
  gi_wp2
  gi_loopw [0, 1] (fun s0 s1 wr => ∃ (n i : Int) (pre : List Bool), s0 = .int .i64 n ∧ s1 = .int .i64 i ∧ Hid (L = pre ++ downL n.toNat i.toNat) ∧ n ≤ 9223372036854775807 ∧ 0 ≤ i ∧ i < n ∧ J pre wr)
    (fun s0 _ _ => (intOf s0).toNat)
  case atStart => exact ⟨n0, i0, [], rfl, rfl, Lib.hid (by rw [hL.out]; rfl), hn, hi0, hi, h0⟩
  case round =>
    obtain ⟨n, i, pre, rfl, rfl, hpre, hnb, hib, hin, hJs⟩ := hrel
    by_cases hc : 1 < n
    · have hsp := left_spec n.toNat (by omega)
      have hp1 : 1 ≤ leftI n := by unfold leftI; omega
      have hp2 : leftI n < n := by unfold leftI; omega
      have hpn : (leftI n).toNat = leftN n.toNat := by unfold leftI; omega
      clear hsp
      by_cases hr : leftI n ≤ i
      · have hd : Hid (L = pre ++ true :: downL (n - leftI n).toNat (i - leftI n).toNat) := Lib.hid (by
          rw [hpre.out, downL_right n.toNat i.toNat (by omega) (by omega), ← hpn]
          congr 4 <;> omega)
        have hlen : pre.length < L.length := by rw [hd.out]; simp
        obtain ⟨fn, tmps, assign, body, hy, hR⟩ := hY pre true wr hJs hlen
        clear hlen
        have HL := Lib.hid (fun w => left_same n w hnb (by omega))
        clear hpn
        generalize leftI n = p at *
        have hdec : decide (p ≤ i) = true := by simpa using hr
        gi_wp2_with (first | (refine ⟨trivial, rfl, (callsIn_wide.2 (HL.out _)).mono ?_⟩; clear HL; rintro e w1 ⟨rfl, rfl⟩) | (refine ⟨rfl, hR.mono ?_⟩; clear hR; rintro e W2 (⟨rfl, hJ2, hb2⟩ | ⟨rfl, hx2⟩)))
        · exact ⟨⟨n - p, i - p, pre ++ [true], rfl, rfl, Lib.hid (by rw [hd.out, List.append_assoc]; rfl), by omega, by omega, by omega, hJ2⟩, by simp [intOf] <;> omega⟩
        · refine bodyPost_ret (results_none rfl _ _ _) rfl ?_
          exact ⟨⟨_, rfl⟩, .inr ⟨pre ++ [true], ⟨downL (n - p).toNat (i - p).toNat, by rw [hd.out, List.append_assoc]; rfl⟩, hx2⟩⟩
      · have hd : Hid (L = pre ++ false :: downL (leftI n).toNat i.toNat) := Lib.hid (by
          rw [hpre.out, downL_left n.toNat i.toNat (by omega) (by omega), ← hpn])
        have hlen : pre.length < L.length := by rw [hd.out]; simp
        obtain ⟨fn, tmps, assign, body, hy, hR⟩ := hY pre false wr hJs hlen
        clear hlen
        have HL := Lib.hid (fun w => left_same n w hnb (by omega))
        clear hpn
        generalize leftI n = p at *
        have hdec : decide (p ≤ i) = false := by simpa using hr
        gi_wp2_with (first | (refine ⟨trivial, rfl, (callsIn_wide.2 (HL.out _)).mono ?_⟩; clear HL; rintro e w1 ⟨rfl, rfl⟩) | (refine ⟨rfl, hR.mono ?_⟩; clear hR; rintro e W2 (⟨rfl, hJ2, hb2⟩ | ⟨rfl, hx2⟩)))
        · exact ⟨⟨p, i, pre ++ [false], rfl, rfl, Lib.hid (by rw [hd.out, List.append_assoc]; rfl), by omega, by omega, by omega, hJ2⟩, by simp [intOf] <;> omega⟩
        · refine bodyPost_ret (results_none rfl _ _ _) rfl ?_
          exact ⟨⟨_, rfl⟩, .inr ⟨pre ++ [false], ⟨downL (p).toNat (i).toNat, by rw [hd.out, List.append_assoc]; rfl⟩, hx2⟩⟩
    · gi_wp2
      go_end0
      refine ⟨⟨_, rfl⟩, .inl ?_⟩
      have he : L = pre := by rw [hpre.out, downL_one n.toNat i.toNat (by omega), List.append_nil]
      rw [he]
      exact hJs
end Go.Proofs.Ytgdlhcopgfgmaaa.Shape
