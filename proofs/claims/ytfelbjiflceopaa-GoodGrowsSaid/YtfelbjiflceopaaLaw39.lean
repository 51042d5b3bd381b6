/- The walks of chapter 39's Good, its example, and its laws GoodLocal, GoodSuper, GoodLong. -/
import Derived.Test.YtfelbjiflceopaaSuR
import Derived.Test.YtfelbjiflceopaaStr
import Derived.Test.YtfelbjiflceopaaSq
namespace Go.Proofs.Ytfelbjiflceopaa.Gd
open Go.RowKit Go.Proofs.Ytfelbjiflceopaa.Mk Go.Proofs.Ytfelbjiflceopaa.Ul Go.Proofs.Ytfelbjiflceopaa.Lg Go.Proofs.Ytfelbjiflceopaa.Up Go.Proofs.Ytfelbjiflceopaa.Rt
theorem i64_and15 (n : Int) : bits .and .i64 n 15 = n % 16 := by
  have h15 : (BitVec.ofInt 64 15).toNat = 2 ^ 4 - 1 := by decide
  have key : (BitVec.ofInt 64 n &&& BitVec.ofInt 64 15).toNat = (n % ((2 ^ 64 : Nat) : Int)).toNat % 2 ^ 4 := by
    rw [BitVec.toNat_and, BitVec.toNat_ofInt, h15, Nat.and_two_pow_sub_one_eq_mod]
  show IntKind.i64.wrap ((BitVec.ofInt 64 n &&& BitVec.ofInt 64 15).toNat : Nat) = n % 16
  rw [key, IntKind.wrap_i64]
  omega
set_option maxHeartbeats 4000000 in
theorem good_calls (v : Value) (zs : List Int) (level m a b : Int) (w : World) (hz : ZS w v zs) (hln : zs.length ≤ 1099511627776) :
    Calls Try.prog 39 #[v, .int .i64 level, .int .i64 m, .int .i64 a, .int .i64 b] w fun e w' => e = .returned (.bool (supS zs level m a b && mulS zs level m a b)) ∧ Below w.heap.size w w' := by
  have A1 := super_calls v zs level m a b w hz hln
  have A2 := Lib.hid (fun wx (hx : Below w.heap.size w wx) => multi_calls v zs level m a b wx (hz.below hx))
  obtain ⟨A, cap, rfl, _⟩ := hz.cell1
  clear hz
  cases hq : supS zs level m a b
  all_goals
    rw [hq] at A1
    have A1 := Lib.hid A1
    clear hq
    go_enter Try.func39, Try.ntmps39
    go_wp2_with fail
    refine A1.out.mono ?_
    rintro e w1 ⟨rfl, hb1⟩
    have S := Lib.hid hb1
    clear hb1
    go_wp2_with fail
  · go_ret
    exact ⟨rfl, S.out⟩
  · refine (A2.out _ S.out).mono ?_
    rintro e w2 ⟨rfl, hb2⟩
    have S2 := Lib.hid (below_up S.out hb2)
    clear hb2
    go_wp2_with fail
    go_ret
    exact ⟨rfl, S2.out⟩
theorem zs3 {w : World} {g : Nat} (h : w.heap[g]? = some (.cells #[.int .i64 0, .int .i64 0, .int .i64 0] 3 (0, 0))) : ZS w (.slice (some ⟨g, 0, none⟩) 3 3) [0, 0, 0] :=
  SL.of_block (enc := E1 zI) (sz := 1) (t := 3) (l := [0, 0, 0]) h (fun x hx => rfl) (by decide) 3 rfl
set_option maxHeartbeats 4000000 in
theorem awake39_calls (w : World) : Calls Try.prog 35 #[] w fun e w' => e = .returned (.bool true) ∧ Below w.heap.size w w' := by
  have A1 := (fun g wx h => good_calls (.slice (some ⟨g, 0, none⟩) 3 3) [0, 0, 0] 0 1 1 2 wx (zs3 h) (by decide))
  have A2 := (fun wx => loc_calls 1 2 0 1 2 wx)
  rw [sup_ex, mul_ex, show (true && true) = true from rfl] at A1
  rw [loc_ex] at A2
  have A1 := Lib.hid A1
  have A2 := Lib.hid A2
  go_enter Try.func35, Try.ntmps35
  go_wp2_with fail
  refine (A1.out _ _ (heap_alloc_last _ _)).mono ?_
  rintro e w1 ⟨rfl, hb1⟩
  have S := Lib.hid ((SQ.new w (.cells #[.int .i64 0, .int .i64 0, .int .i64 0] 3 (0, 0))).keep hb1)
  clear hb1
  go_wp2_with fail
  refine (A2.out _).mono ?_
  rintro e w2 ⟨rfl, hb2⟩
  have S := Lib.hid (S.out.keep hb2)
  clear hb2
  go_wp2_with fail
  go_ret
  exact ⟨rfl, S.out.2⟩
theorem rep_map (z : Int) (n : Nat) : (List.replicate n z).map zI = GC nI n (fun _ => 0) ∨ z ≠ 0 := by
  by_cases h : z = 0
  · subst h
    left
    unfold GC
    rw [List.map_const', List.length_range, List.map_replicate]
    rfl
  · exact .inr h
theorem zs_made {w : World} {g n : Nat} (h : w.heap[g]? = some (.cells (GC nI n fun _ => 0).toArray 3 (0, 0))) (hn : n ≤ 100000) : ZS w (.slice (some ⟨g, 0, none⟩) n n) (List.replicate n 0) := by
  have e : ((List.replicate n (0 : Int)).flatMap (E1 zI)) = GC nI n (fun _ => 0) := by
    rw [flat1]
    exact (rep_map 0 n).resolve_right (fun h => h rfl)
  exact SL.of_block (enc := E1 zI) (sz := 1) (t := 3) (l := List.replicate n 0) (by rw [e]; exact h) (fun x hx => rfl) (by simp; omega) n (by simp)
set_option maxHeartbeats 4000000 in
set_option maxRecDepth 100000 in
theorem goodLong_calls (n level m : Int) (w : World) : Calls Try.prog 12 #[.int .i64 n, .int .i64 level, .int .i64 m] w fun e w' => e = .returned (.bool true) ∧ Below w.heap.size w w' := by
  have hb := i64_and15 n
  obtain ⟨j, hj⟩ := Int.eq_ofNat_of_zero_le (show 0 ≤ n % 16 by omega)
  have hj2 : j ≤ 15 := by omega
  rw [hj] at hb
  have hmk := madeN (1025 + j) (by omega)
  rw [show ((1025 + j : Nat) : Int) = 1025 + (j : Int) by omega] at hmk
  have hln : (List.replicate (1025 + j) (0 : Int)).length = 1025 + j := List.length_replicate
  have hz := Lib.hid (fun g wx h => zs_made (w := wx) (g := g) (n := 1025 + j) h (by omega))
  have A1 := (fun g wx h => super_calls _ _ level m 1 2 wx (hz.out g wx h) (by omega))
  have A2 := (fun g wx h => multi_calls _ _ level m 1 2 wx (hz.out g wx h))
  have A3 := (fun g wx h => good_calls _ _ level m 1 2 wx (hz.out g wx h) (by omega))
  rw [sup_long (by omega)] at A1 A3
  rw [mul_long (by omega)] at A2 A3
  have A1 := Lib.hid A1
  have A2 := Lib.hid A2
  have A3 := Lib.hid A3
  have A0 := Lib.hid (fun w => awake39_calls w)
  clear hz hln hj
  go_enter Try.func12, Try.ntmps12
  go_wp2_with fail
  refine (A1.out _ _ (heap_alloc_last _ _)).mono ?_
  rintro e w1 ⟨rfl, hb1⟩
  have S := Lib.hid ((SQ.new w (.cells (GC nI (1025 + j) fun _ => 0).toArray 3 (0, 0))).keep hb1)
  clear hb1
  go_wp2_with fail
  refine (A2.out _ _ S.out.a0).mono ?_
  rintro e w2 ⟨rfl, hb2⟩
  have S := Lib.hid (S.out.keep hb2)
  clear hb2
  go_wp2_with fail
  refine (A3.out _ _ S.out.a0).mono ?_
  rintro e w3 ⟨rfl, hb3⟩
  have S := Lib.hid (S.out.keep hb3)
  clear hb3
  go_wp2_with fail
  refine (A0.out _).mono ?_
  rintro e w4 ⟨rfl, hb4⟩
  have S := Lib.hid (S.out.keep hb4)
  clear hb4
  go_wp2_with fail
  go_ret
  exact ⟨rfl, S.out.2⟩
end Go.Proofs.Ytfelbjiflceopaa.Gd
