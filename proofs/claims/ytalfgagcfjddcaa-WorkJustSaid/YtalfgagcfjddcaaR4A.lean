/- The walks of the document's sums and differences, bit by bit. -/
import Derived.IntWalk
import Derived.Test.YtalfgagcfjddcaaR4
namespace Go.Proofs.Ytalfgagcfjddcaa.R4
open Go.RowKit Go.Proofs.Ytalfgagcfjddcaa.Mk Go.Proofs.Ytalfgagcfjddcaa.Ul Go.Proofs.Ytalfgagcfjddcaa.Wd Go.Proofs.Ytalfgagcfjddcaa.Wi
set_option maxHeartbeats 1000000 in
theorem one_calls (b : Bool) (w : World) : Calls Try.prog 63 #[.bool b] w fun e w' => e = .returned (.int .i64 (bn b : Nat)) ∧ w' = w := by
  cases b
  · go_enter Try.func63, Try.ntmps63
    go_wp2_with fail
    go_ret
    exact ⟨rfl, rfl⟩
  · go_enter Try.func63, Try.ntmps63
    go_wp2_with fail
    go_ret
    exact ⟨rfl, rfl⟩
set_option maxHeartbeats 4000000 in
set_option maxRecDepth 100000 in
theorem radd_calls (X Y b1 o1 k1 b2 o2 k2 : Nat) (w : World) (r1 : BR w b1 o1 X) (r2 : BR w b2 o2 Y) :
    Calls Try.prog 52 #[.slice (some ⟨b1, o1, none⟩) 256 k1, .slice (some ⟨b2, o2, none⟩) 256 k2] w fun e w' => ∃ b c, e = .returned (.tuple #[.slice (some ⟨b, 0, none⟩) 256 c, .bool (cr2 X Y 256 == 1)]) ∧ BR w' b 0 (X + Y) ∧ w.heap.size ≤ b ∧ Below w.heap.size w w' := by
  obtain ⟨i0, hi, hz0, hz1, hz2⟩ := info_parts IBo
  have H0 := Lib.hid (And.intro r1 (And.intro r2 (Below.refl w.heap.size w)))
  have Hc0 := Lib.hid (cr2_zero X Y)
  have HB := Lib.hid (And.intro r1.lt r2.lt)
  clear r1 r2
  go_enter Try.func52, Try.ntmps52
  go_wp2_with fail
  go_loopw [6, 7, 8] (fun s6 s7 s8 wr => ∃ k : Nat, k ≤ 256 ∧ s8 = .int .i64 k ∧ s7 = .int .i64 (cr2 X Y k : Nat) ∧ Hid (BO w.heap.size wr s6 (bitsL (X + Y) k)) ∧ Hid (BR wr b1 o1 X ∧ BR wr b2 o2 Y ∧ Below w.heap.size w wr)) (fun _ _ s8 _ => 256 - (intOf s8).toNat)
  case atStart => exact ⟨0, by omega, rfl, by rw [Hc0.out]; rfl, Lib.hid (World.ownsRow_nil _ _ _ _), H0⟩
  case round =>
    obtain ⟨k, hk, rfl, rfl, ho, hq⟩ := hrel
    by_cases hkl : k < 256
    · have c1 := hq.out.1 k hkl
      have c2 := hq.out.2.1 k hkl
      have hst := add2_step X Y k
      have hxl := bn_le (X.testBit k)
      have hyl := bn_le (Y.testBit k)
      have hcl := cr2_le X Y k
      have HO := Lib.hid (fun b w => one_calls b w)
      have hlen : (bitsL (X + Y) k).length ≤ 1000 := by rw [bitsL_len]; omega
      have hsz := hq.out.2.2.size
      have i1 : ¬ (k : Int) < 0 := by omega
      have i2 : (k : Int) < 256 := by omega
      generalize X.testBit k = x at *
      generalize Y.testBit k = y at *
      obtain ⟨z, hzz⟩ : ∃ z, z = (X + Y).testBit k := ⟨_, rfl⟩
      rw [← hzz] at hst
      have HZ := Lib.hid hzz
      clear hzz
      generalize hcc : cr2 X Y k = c at *
      have e1 : IntKind.i64.wrap ((bn x : Int) + bn y) = (bn x : Int) + bn y := IntWalk.i64_in _ (by omega)
      obtain ⟨n, hn⟩ : ∃ n, n = bn x + bn y + c := ⟨_, rfl⟩
      rw [← hn] at hst
      have hn4 : n ≤ 3 := by omega
      have e2 : IntKind.i64.wrap ((bn x : Int) + bn y + c) = (n : Int) := by rw [hn]; exact IntWalk.i64_in _ (by omega)
      have hz := hst.1
      have HC := Lib.hid hst.2
      clear hst hcc hn
      go_wp2_with fail
      go_quiet ((go_at_call 63; exact Calls.quiet_of_same (HO.out _ _)))
      have ho : Hid (BO w.heap.size (wr.drewN nq) u6 (bitsL (X + Y) k)) := Lib.hid ho.out
      have hq : Hid (BR (wr.drewN nq) b1 o1 X ∧ BR (wr.drewN nq) b2 o2 Y ∧ Below w.heap.size w (wr.drewN nq)) := Lib.hid ⟨hq.out.1, hq.out.2.1, bdN hq.out.2.2 _⟩
      have hsz := hq.out.2.2.size
      generalize World.drewN wr nq = W at *
      go_wp2_with (at_builtin; refine wpList_append_own _ rfl _ _ 30 rfl w.heap.size 4 i0 _ 1 1 UBn hi hz0 hz1 hz2 rfl (by decide) _ _ _ rfl (ho.out.alloc _) ⟨W.heap.size, 0, none⟩ 1 1 [.bool z] rfl ?c1 ?c2 ?c3 ?c4 ?c5 ?c6 ?_)
      case c1 => rfl
      case c2 => exact cell_one_new _ _ _
      case c3 => intro u hu; rw [List.mem_singleton.1 hu]; rfl
      case c4 => simp only [maxLen]; omega
      case c5 => omega
      case c6 => simp <;> omega
      intro v2 w2 ho2 hg2 _
      have hgn := grown_new hg2 (fun k hk => (ho.out.lt k hk).1) hq.out.2.2 (Nat.le_refl _) hsz
      have Ho2 := Lib.hid (SL.append1 ho2)
      rw [HZ.out, ← bitsL_succ] at Ho2
      have HQ2 := Lib.hid (And.intro (hq.out.1.eq (hgn.2.2 b1 HB.out.1 (by have := HB.out.1; omega))) (And.intro (hq.out.2.1.eq (hgn.2.2 b2 HB.out.2 (by have := HB.out.2; omega))) hgn.1))
      clear ho2 hg2 hgn ho hq hlen hsz e1 e2 hxl hyl
      go_wp2_with fail
      go_roundw
      case rel => exact ⟨k + 1, by omega, by go_num, by rw [HC.out]; go_num, Ho2, HQ2⟩
      case measure => simp [intOf] <;> omega
    · obtain rfl : k = 256 := by omega
      have Ho := Lib.hid ho.out
      have hcl := cr2_le X Y 256
      have hcz := int_one (cr2 X Y 256)
      clear ho
      generalize hcr : cr2 X Y 256 = c at *
      have HC := Lib.hid hcr
      clear hcr
      obtain ⟨b, kc, rfl, hr, hB⟩ := own_opens Ho.out
      have HR := Lib.hid hr
      have HBb := Lib.hid hB
      clear hr hB Ho
      go_wp2_with fail
      go_ret2
      exact ⟨b, kc, by rw [HC.out]; rfl, HR.out, HBb.out, hq.out.2.2⟩
set_option maxHeartbeats 4000000 in
set_option maxRecDepth 100000 in
theorem rsub_calls (X Y b1 o1 k1 b2 o2 k2 : Nat) (w : World) (hY : Y ≤ 2 ^ 256) (r1 : BR w b1 o1 X) (r2 : BR w b2 o2 Y) :
    Calls Try.prog 53 #[.slice (some ⟨b1, o1, none⟩) 256 k1, .slice (some ⟨b2, o2, none⟩) 256 k2] w fun e w' => ∃ b c, e = .returned (.tuple #[.slice (some ⟨b, 0, none⟩) 256 c, .bool (bo2 X Y 256 == 1)]) ∧ BR w' b 0 (df X Y) ∧ w.heap.size ≤ b ∧ Below w.heap.size w w' := by
  obtain ⟨i0, hi, hz0, hz1, hz2⟩ := info_parts IBo
  have H0 := Lib.hid (And.intro r1 (And.intro r2 (Below.refl w.heap.size w)))
  have Hc0 := Lib.hid (bo2_zero X Y)
  have HB := Lib.hid (And.intro r1.lt r2.lt)
  have HY := Lib.hid hY
  clear r1 r2 hY
  go_enter Try.func53, Try.ntmps53
  go_wp2_with fail
  go_loopw [6, 7, 8] (fun s6 s7 s8 wr => ∃ k : Nat, k ≤ 256 ∧ s8 = .int .i64 k ∧ s7 = .int .i64 (bo2 X Y k : Nat) ∧ Hid (BO w.heap.size wr s6 (bitsL (df X Y) k)) ∧ Hid (BR wr b1 o1 X ∧ BR wr b2 o2 Y ∧ Below w.heap.size w wr)) (fun _ _ s8 _ => 256 - (intOf s8).toNat)
  case atStart => exact ⟨0, by omega, rfl, by rw [Hc0.out]; rfl, Lib.hid (World.ownsRow_nil _ _ _ _), H0⟩
  case round =>
    obtain ⟨k, hk, rfl, rfl, ho, hq⟩ := hrel
    by_cases hkl : k < 256
    · have c1 := hq.out.1 k hkl
      have c2 := hq.out.2.1 k hkl
      obtain ⟨d, hd1, hdz, hcase⟩ := sub2_step (X := X) (k := k) HY.out hkl
      have hxl := bn_le (X.testBit k)
      have hyl := bn_le (Y.testBit k)
      have hcl := bo2_le X Y k
      have HO := Lib.hid (fun b w => one_calls b w)
      have hlen : (bitsL (df X Y) k).length ≤ 1000 := by rw [bitsL_len]; omega
      have hsz := hq.out.2.2.size
      have i1 : ¬ (k : Int) < 0 := by omega
      have i2 : (k : Int) < 256 := by omega
      obtain ⟨z, hzz⟩ : ∃ z, z = (df X Y).testBit k := ⟨_, rfl⟩
      rw [← hzz] at hdz
      have HZ := Lib.hid hzz
      clear hzz
      generalize X.testBit k = x at *
      generalize Y.testBit k = y at *
      generalize bo2 X Y k = c at *
      have e1 : IntKind.i64.wrap ((bn x : Int) - bn y) = (bn x : Int) - bn y := IntWalk.i64_in _ (by omega)
      rcases hcase with ⟨hn0, hn1, hcc⟩ | ⟨hn0, hn1, hcc⟩
      · have e2 : IntKind.i64.wrap ((bn x : Int) - bn y - c) = (d : Int) := by rw [hn1]; exact IntWalk.i64_in _ (by omega)
        have HC := Lib.hid hcc
        have i3 : ¬ (d : Int) < 0 := by omega
        clear hcc hn0 hn1 hxl hyl hcl
        go_wp2_with fail
        go_quiet ((go_at_call 63; exact Calls.quiet_of_same (HO.out _ _)))
        clear e1 e2
        have ho : Hid (BO w.heap.size (wr.drewN nq) u6 (bitsL (df X Y) k)) := Lib.hid ho.out
        have hq : Hid (BR (wr.drewN nq) b1 o1 X ∧ BR (wr.drewN nq) b2 o2 Y ∧ Below w.heap.size w (wr.drewN nq)) := Lib.hid ⟨hq.out.1, hq.out.2.1, bdN hq.out.2.2 _⟩
        have hsz := hq.out.2.2.size
        generalize World.drewN wr nq = W at *
        go_wp2_with (at_builtin; refine wpList_append_own _ rfl _ _ 30 rfl w.heap.size 4 i0 _ 1 1 UBn hi hz0 hz1 hz2 rfl (by decide) _ _ _ rfl (ho.out.alloc _) ⟨W.heap.size, 0, none⟩ 1 1 [.bool z] rfl ?c1 ?c2 ?c3 ?c4 ?c5 ?c6 ?_)
        case c1 => rfl
        case c2 => exact cell_one_new _ _ _
        case c3 => intro u hu; rw [List.mem_singleton.1 hu]; rfl
        case c4 => simp only [maxLen]; omega
        case c5 => omega
        case c6 => simp <;> omega
        intro v2 w2 ho2 hg2 _
        have hgn := grown_new hg2 (fun k hk => (ho.out.lt k hk).1) hq.out.2.2 (Nat.le_refl _) hsz
        have Ho2 := Lib.hid (SL.append1 ho2)
        rw [HZ.out, ← bitsL_succ] at Ho2
        have HQ2 := Lib.hid (And.intro (hq.out.1.eq (hgn.2.2 b1 HB.out.1 (by have := HB.out.1; omega))) (And.intro (hq.out.2.1.eq (hgn.2.2 b2 HB.out.2 (by have := HB.out.2; omega))) hgn.1))
        clear ho2 hg2 hgn ho hq hlen hsz
        go_wp2_with fail
        go_roundw
        case rel => exact ⟨k + 1, by omega, by go_num, by rw [HC.out]; go_num, Ho2, HQ2⟩
        case measure => simp [intOf] <;> omega
      · obtain ⟨n, hn⟩ : ∃ n : Int, n = (bn x : Int) - bn y - c := ⟨_, rfl⟩
        rw [← hn] at hn0 hn1
        have e2 : IntKind.i64.wrap ((bn x : Int) - bn y - c) = n := by rw [← hn]; exact IntWalk.i64_in _ (by omega)
        have e3 : n + 2 = (d : Int) := hn1
        have HC := Lib.hid hcc
        have hn4 : -3 ≤ n := by omega
        clear hcc hn1 hxl hyl hcl hn
        go_wp2_with fail
        go_quiet ((go_at_call 63; exact Calls.quiet_of_same (HO.out _ _)))
        clear e1 e2
        have ho : Hid (BO w.heap.size (wr.drewN nq) u6 (bitsL (df X Y) k)) := Lib.hid ho.out
        have hq : Hid (BR (wr.drewN nq) b1 o1 X ∧ BR (wr.drewN nq) b2 o2 Y ∧ Below w.heap.size w (wr.drewN nq)) := Lib.hid ⟨hq.out.1, hq.out.2.1, bdN hq.out.2.2 _⟩
        have hsz := hq.out.2.2.size
        generalize World.drewN wr nq = W at *
        go_wp2_with (at_builtin; refine wpList_append_own _ rfl _ _ 30 rfl w.heap.size 4 i0 _ 1 1 UBn hi hz0 hz1 hz2 rfl (by decide) _ _ _ rfl (ho.out.alloc _) ⟨W.heap.size, 0, none⟩ 1 1 [.bool z] rfl ?c1 ?c2 ?c3 ?c4 ?c5 ?c6 ?_)
        case c1 => rfl
        case c2 => exact cell_one_new _ _ _
        case c3 => intro u hu; rw [List.mem_singleton.1 hu]; rfl
        case c4 => simp only [maxLen]; omega
        case c5 => omega
        case c6 => simp <;> omega
        intro v2 w2 ho2 hg2 _
        have hgn := grown_new hg2 (fun k hk => (ho.out.lt k hk).1) hq.out.2.2 (Nat.le_refl _) hsz
        have Ho2 := Lib.hid (SL.append1 ho2)
        rw [HZ.out, ← bitsL_succ] at Ho2
        have HQ2 := Lib.hid (And.intro (hq.out.1.eq (hgn.2.2 b1 HB.out.1 (by have := HB.out.1; omega))) (And.intro (hq.out.2.1.eq (hgn.2.2 b2 HB.out.2 (by have := HB.out.2; omega))) hgn.1))
        clear ho2 hg2 hgn ho hq hlen hsz
        go_wp2_with fail
        go_roundw
        case rel => exact ⟨k + 1, by omega, by go_num, by rw [HC.out]; go_num, Ho2, HQ2⟩
        case measure => simp [intOf] <;> omega
    · obtain rfl : k = 256 := by omega
      have Ho := Lib.hid ho.out
      have hcl := bo2_le X Y 256
      have hcz := int_one (bo2 X Y 256)
      clear ho
      generalize hcr : bo2 X Y 256 = c at *
      have HC := Lib.hid hcr
      clear hcr
      obtain ⟨b, kc, rfl, hr, hB⟩ := own_opens Ho.out
      have HR := Lib.hid hr
      have HBb := Lib.hid hB
      clear hr hB Ho
      go_wp2_with fail
      go_ret2
      exact ⟨b, kc, by rw [HC.out]; rfl, HR.out, HBb.out, hq.out.2.2⟩
end Go.Proofs.Ytalfgagcfjddcaa.R4
