/- The walks of chapter 39's stretches, Multi and Good. -/
import Derived.Test.YtfelbjiflceopaaCt
namespace Go.Proofs.Ytfelbjiflceopaa.Gd
open Go.RowKit Go.Proofs.Ytfelbjiflceopaa.Mk Go.Proofs.Ytfelbjiflceopaa.Ul Go.Proofs.Ytfelbjiflceopaa.Lg Go.Proofs.Ytfelbjiflceopaa.Up Go.Proofs.Ytfelbjiflceopaa.Rt
set_option maxHeartbeats 8000000 in
set_option maxRecDepth 100000 in
theorem stretches_calls (v1 v2 : Value) (zs : List Int) (level l m mm a b : Int) (w : World) (h1 : CT w v1 zs level) (h2 : CT w v2 zs l) (hl : zs.length ≤ 1024) (hm : max m 1 = mm) :
    Calls Try.prog 49 #[v1, v2, .int .i64 (level - l), .int .i64 mm, .int .i64 a, .int .i64 b] w fun e w' => e = .returned (.bool (strS zs level l m a b)) ∧ Below w.heap.size w w' := by
  obtain ⟨b1, o1, c1, rfl, hx1⟩ := h1
  obtain ⟨b2, o2, c2, rfl, hx2⟩ := h2
  have H1 := Lib.hid (fun i (hi : i ≤ zs.length) wx (hx : Below w.heap.size w wx) => (hx.cell (p := ⟨b1, o1 + i, none⟩) (block_lt_of_cell (hx1 i hi))).trans (hx1 i hi))
  have H2 := Lib.hid (fun i (hi : i ≤ zs.length) wx (hx : Below w.heap.size w wx) => (hx.cell (p := ⟨b2, o2 + i, none⟩) (block_lt_of_cell (hx2 i hi))).trans (hx2 i hi))
  have HE := Lib.hid (@strS_true zs level l m a b)
  have HF := Lib.hid (@strS_false zs level l m a b)
  have HM := Lib.hid hm
  have HL := Lib.hid (fun n d wx hn hd => least_calls n d (level - l) a b wx hn hd)
  clear hx1 hx2 hm
  generalize hby : level - l = by_
  have HBY := Lib.hid hby
  rw [hby] at HL
  clear hby
  go_enter Try.func49, Try.ntmps49
  go_wp2_with fail
  go_loopw [19] (fun s19 wr => ∃ i : Nat, i ≤ zs.length + 1 ∧ s19 = .int .i64 i ∧ Hid (∀ i' k : Nat, i' < i → i' < k → k ≤ zs.length → max m 1 ≤ ((ahd zs l k - ahd zs l i' : Nat) : Int) → leastR (ahd zs level k - ahd zs level i') (ahd zs l k - ahd zs l i') (level - l) a b = true) ∧ Hid (Below w.heap.size w wr)) (fun s19 _ => zs.length + 1 - (intOf s19).toNat)
  case atStart => exact ⟨0, by omega, rfl, Lib.hid (fun i' k h => absurd h (by omega)), Lib.hid (Below.refl _ _)⟩
  case round =>
    obtain ⟨i, hi, rfl, HK, hB⟩ := hrel
    by_cases hlt : i < zs.length + 1
    · have t1 : (i : Int) < (zs.length : Int) + 1 := by omega
      go_wp2_with fail
      obtain ⟨wo, rfl⟩ : ∃ wo : World, wo = wr := ⟨_, rfl⟩
      go_loopw [14] (fun s14 wr => ∃ k : Nat, i < k ∧ k ≤ zs.length + 1 ∧ s14 = .int .i64 k ∧ Hid (∀ k' : Nat, i < k' → k' < k → k' ≤ zs.length → max m 1 ≤ ((ahd zs l k' - ahd zs l i : Nat) : Int) → leastR (ahd zs level k' - ahd zs level i) (ahd zs l k' - ahd zs l i) (level - l) a b = true) ∧ Hid (Below w.heap.size w wr)) (fun s14 _ => zs.length + 1 - (intOf s14).toNat)
      case atStart => exact ⟨i + 1, by omega, by omega, by go_num, Lib.hid (fun k' h h' => absurd h' (by omega)), hB⟩
      case round =>
        clear hB
        obtain ⟨k, hk1, hk2, rfl, HK2, hB⟩ := hrel
        by_cases hkt : k < zs.length + 1
        · have e1 := H1.out k (by omega) wr hB.out
          have e2 := H1.out i (by omega) wr hB.out
          have e3 := H2.out k (by omega) wr hB.out
          have e4 := H2.out i (by omega) wr hB.out
          have m1 := ahd_mono zs level (Nat.le_of_lt hk1)
          have m2 := ahd_mono zs l (Nat.le_of_lt hk1)
          have n1 := ahd_le zs level k
          have n2 := ahd_le zs l k
          obtain ⟨p, hp⟩ : ∃ p, p = ahd zs level k - ahd zs level i := ⟨_, rfl⟩
          obtain ⟨q, hq⟩ : ∃ q, q = ahd zs l k - ahd zs l i := ⟨_, rfl⟩
          have HN := Lib.hid (show ∀ (x : Bool), leastR p q (level - l) a b = x → (mm ≤ (q : Int) → x = false → strS zs level l m a b = false) ∧ ((mm ≤ (q : Int) → x = true) → ∀ k' : Nat, i < k' → k' < k + 1 → k' ≤ zs.length → max m 1 ≤ ((ahd zs l k' - ahd zs l i : Nat) : Int) → leastR (ahd zs level k' - ahd zs level i) (ahd zs l k' - ahd zs l i) (level - l) a b = true) from by
            intro x hx
            refine ⟨fun h1 h2 => HF.out (fun hs => ?_), fun h1 k' h2 h3 h4 h5 => ?_⟩
            · have := hs i k hk1 (by omega) (by rw [← hq, HM.out]; exact h1)
              rw [← hp, ← hq, hx, h2] at this
              cases this
            · rcases Nat.lt_or_ge k' k with h | h
              · exact HK2.out k' h2 h h4 h5
              · obtain rfl : k' = k := by omega
                rw [← hp, ← hq, hx]
                rw [← hq, HM.out] at h5
                exact h1 h5)
          have hL := Lib.hid (fun wx => HL.out p q wx (by omega) (by omega))
          have w1 : IntKind.i64.wrap ((ahd zs level k : Nat) - (ahd zs level i : Nat) : Int) = (p : Int) := by rw [IntWalk.i64_in _ (by omega)]; omega
          have w2 : IntKind.i64.wrap ((ahd zs l k : Nat) - (ahd zs l i : Nat) : Int) = (q : Int) := by rw [IntWalk.i64_in _ (by omega)]; omega
          have x1 : IntKind.u32.wrap (p : Int) = (p : Int) := by rw [IntKind.wrap_u32]; omega
          have x2 : IntKind.u32.wrap (q : Int) = (q : Int) := by rw [IntKind.wrap_u32]; omega
          have i1 : (k : Int) < (zs.length : Int) + 1 := by omega
          have i2 : (i : Int) < (zs.length : Int) + 1 := by omega
          have hx : leastR p q by_ a b = leastR p q (level - l) a b := by rw [HBY.out]
          clear hp hq HF HE H1 H2 HL m1 m2 n1 n2
          generalize ahd zs level k = y1 at *
          generalize ahd zs level i = y2 at *
          generalize ahd zs l k = y3 at *
          generalize ahd zs l i = y4 at *
          have t2 : (k : Int) < (zs.length : Int) + 1 := by omega
          by_cases hmq : mm ≤ (q : Int)
          · have u1 : decide (mm ≤ (q : Int)) = true := decide_eq_true hmq
            cases hc : leastR p q (level - l) a b with
            | false =>
              rw [hx, hc] at hL
              have HQ := Lib.hid ((HN.out _ hc).1 hmq rfl)
              clear hx hc HN hmq HK HK2
              go_wp2_with fail
              go_quiet (fail)
              clear w1 w2
              go_wp2_with fail
              refine (hL.out _).mono ?_
              rintro e w2 ⟨rfl, hb2⟩
              have S2 := Lib.hid (below_up (bdN hB.out _) hb2)
              clear hb2 hB
              go_wp2_with fail
              go_ret
              exact ⟨ret_bool HQ.out.symm, S2.out⟩
            | true =>
              rw [hx, hc] at hL
              have HQ := Lib.hid ((HN.out _ hc).2 (fun _ => rfl))
              clear hx hc HN hmq HK HK2
              go_wp2_with fail
              go_quiet (fail)
              clear w1 w2
              go_wp2_with fail
              refine (hL.out _).mono ?_
              rintro e w2 ⟨rfl, hb2⟩
              have S2 := Lib.hid (below_up (bdN hB.out _) hb2)
              clear hb2 hB
              go_wp2_with fail
              go_roundw
              case rel => exact ⟨k + 1, by omega, by omega, by go_num, HQ, S2⟩
              case measure => simp [intOf] <;> omega
          · have u1 : decide (mm ≤ (q : Int)) = false := decide_eq_false hmq
            have HQ := Lib.hid ((HN.out _ rfl).2 (fun h => absurd h hmq))
            clear hx HN hmq HK HK2 hL
            go_wp2_with fail
            go_quiet (fail)
            clear w1 w2
            have S2 := Lib.hid (bdN hB.out nq)
            go_wp2_with fail
            go_roundw
            case rel => exact ⟨k + 1, by omega, by omega, by go_num, HQ, S2⟩
            case measure => simp [intOf] <;> omega
        · have HQ := Lib.hid (show ∀ i' k' : Nat, i' < i + 1 → i' < k' → k' ≤ zs.length → max m 1 ≤ ((ahd zs l k' - ahd zs l i' : Nat) : Int) → leastR (ahd zs level k' - ahd zs level i') (ahd zs l k' - ahd zs l i') (level - l) a b = true from fun i' k' h1 h2 h3 h4 => by
            rcases Nat.lt_or_ge i' i with h | h
            · exact HK.out i' k' h h2 h3 h4
            · obtain rfl : i' = i := by omega
              exact HK2.out k' h2 (by omega) h3 h4)
          have t2 : decide ((k : Int) < (zs.length : Int) + 1) = false := decide_eq_false (by omega)
          clear HK HK2 HE HF H1 H2 HL
          go_wp2_with fail
          go_roundw
          case rel => exact ⟨i + 1, by omega, by go_num, HQ, hB⟩
          case measure => simp [intOf] <;> omega
    · have HQ := Lib.hid (HE.out (fun i' k h1 h2 h3 => HK.out i' k (by omega) h1 h2 h3))
      have t2 : decide ((i : Int) < (zs.length : Int) + 1) = false := decide_eq_false (by omega)
      clear HK HE HF H1 H2 HL
      go_wp2_with fail
      go_ret
      exact ⟨ret_bool HQ.out.symm, hB.out⟩
/- Multi: the lower levels that are walked -/
set_option maxHeartbeats 8000000 in
set_option maxRecDepth 100000 in
theorem multi_calls (v : Value) (zs : List Int) (level m a b : Int) (w : World) (hz : ZS w v zs) :
    Calls Try.prog 38 #[v, .int .i64 level, .int .i64 m, .int .i64 a, .int .i64 b] w fun e w' => e = .returned (.bool (mulS zs level m a b)) ∧ Below w.heap.size w w' := by
  have hbd := hz.len1
  by_cases hl : 1024 < zs.length
  · have t0 : decide ((1024 : Int) < (zs.length : Int)) = true := decide_eq_true (by omega)
    have HE := Lib.hid (mul_long (level := level) (m := m) (a := a) (b := b) hl)
    obtain ⟨A, cap, rfl, _⟩ := hz.cell1
    clear hl hz
    go_enter Try.func38, Try.ntmps38
    go_wp2_with fail
    go_ret
    exact ⟨ret_bool HE.out.symm, Below.refl _ _⟩
  have t0 : decide ((1024 : Int) < (zs.length : Int)) = false := decide_eq_false (by omega)
  have hl2 : zs.length ≤ 1024 := by omega
  clear hl
  by_cases hlv : 255 < level
  · have t1 : decide (255 < level) = true := decide_eq_true hlv
    have HE := Lib.hid (show mulS zs level m a b = false from mulS_false (fun h => by have := h.2.1; omega))
    obtain ⟨A, cap, rfl, _⟩ := hz.cell1
    clear hlv hz
    go_enter Try.func38, Try.ntmps38
    go_wp2_with fail
    go_ret
    exact ⟨ret_bool HE.out.symm, Below.refl _ _⟩
  have t1 : decide (255 < level) = false := decide_eq_false hlv
  have hlv : level ≤ 255 := by omega
  have HE := Lib.hid (@mulS_true zs level m a b)
  have HF := Lib.hid (@mulS_false zs level m a b)
  have HC := Lib.hid (counts_calls v zs level w hz hl2)
  have HC2 := Lib.hid (fun (l : Nat) wx (hx : Below w.heap.size w wx) => counts_calls v zs (l : Int) wx (hz.below hx) hl2)
  obtain ⟨A, cap, rfl, _⟩ := hz.cell1
  clear hz
  rcases Int.lt_or_le level 0 with h0 | h0
  · have HLv := Lib.hid h0
    rcases Int.lt_or_le m 1 with hm | hm
    · have hm1 := Lib.hid (show max m 1 = 1 by omega)
      have HS : Hid (∀ v2 l wx, CT wx v2 zs ((l : Nat) : Int) → Below w.heap.size w wx → (hv1 : Value) → CT wx hv1 zs level → Calls Try.prog 49 #[hv1, v2, .int .i64 (level - (l : Int)), .int .i64 1, .int .i64 a, .int .i64 b] wx fun e w' => e = .returned (.bool (strS zs level l m a b)) ∧ Below wx.heap.size wx w') := Lib.hid (fun v2 l wx h2 _ hv1 h1 => stretches_calls hv1 v2 zs level l m _ a b wx h1 h2 hl2 hm1.out)
      go_enter Try.func38, Try.ntmps38
      go_wp2_with fail
      refine HC.out.mono ?_
      rintro e w1 ⟨r1, rfl, hct, hb1⟩
      have C1 := Lib.hid (fun wx (hx : Below w1.heap.size w1 wx) => hct.below hx)
      have B1 := Lib.hid hb1
      clear hct hb1
      have t1 : decide ((0 : Int) < 0) = false := rfl
      have HQ := Lib.hid (HE.out ⟨hl2, hlv, fun l h => absurd h (by have := HLv.out; omega)⟩)
      clear HE HF HS HC2
      go_wp2_with fail
      go_loopw [25] (fun s25 wr => s25 = .int .i64 0 ∧ wr = w1) (fun _ _ => 0)
      case atStart => exact ⟨rfl, rfl⟩
      case round =>
        obtain ⟨rfl, rfl⟩ := hrel
        go_wp2_with fail
        go_ret
        exact ⟨ret_bool HQ.out.symm, B1.out⟩
    · have hm1 := Lib.hid (show max m 1 = m by omega)
      have HS : Hid (∀ v2 l wx, CT wx v2 zs ((l : Nat) : Int) → Below w.heap.size w wx → (hv1 : Value) → CT wx hv1 zs level → Calls Try.prog 49 #[hv1, v2, .int .i64 (level - (l : Int)), .int .i64 m, .int .i64 a, .int .i64 b] wx fun e w' => e = .returned (.bool (strS zs level l m a b)) ∧ Below wx.heap.size wx w') := Lib.hid (fun v2 l wx h2 _ hv1 h1 => stretches_calls hv1 v2 zs level l m _ a b wx h1 h2 hl2 hm1.out)
      go_enter Try.func38, Try.ntmps38
      go_wp2_with fail
      refine HC.out.mono ?_
      rintro e w1 ⟨r1, rfl, hct, hb1⟩
      have C1 := Lib.hid (fun wx (hx : Below w1.heap.size w1 wx) => hct.below hx)
      have B1 := Lib.hid hb1
      clear hct hb1
      have t1 : decide ((0 : Int) < 0) = false := rfl
      have HQ := Lib.hid (HE.out ⟨hl2, hlv, fun l h => absurd h (by have := HLv.out; omega)⟩)
      clear HE HF HS HC2
      go_wp2_with fail
      go_loopw [25] (fun s25 wr => s25 = .int .i64 0 ∧ wr = w1) (fun _ _ => 0)
      case atStart => exact ⟨rfl, rfl⟩
      case round =>
        obtain ⟨rfl, rfl⟩ := hrel
        go_wp2_with fail
        go_ret
        exact ⟨ret_bool HQ.out.symm, B1.out⟩
  · obtain ⟨L, hL⟩ := Int.eq_ofNat_of_zero_le h0
    have HLv := Lib.hid hL
    clear hL
    rcases Int.lt_or_le m 1 with hm | hm
    · have hm1 := Lib.hid (show max m 1 = 1 by omega)
      have HS : Hid (∀ v2 l wx, CT wx v2 zs ((l : Nat) : Int) → Below w.heap.size w wx → (hv1 : Value) → CT wx hv1 zs level → Calls Try.prog 49 #[hv1, v2, .int .i64 (level - (l : Int)), .int .i64 1, .int .i64 a, .int .i64 b] wx fun e w' => e = .returned (.bool (strS zs level l m a b)) ∧ Below wx.heap.size wx w') := Lib.hid (fun v2 l wx h2 _ hv1 h1 => stretches_calls hv1 v2 zs level l m _ a b wx h1 h2 hl2 hm1.out)
      go_enter Try.func38, Try.ntmps38
      go_wp2_with fail
      refine HC.out.mono ?_
      rintro e w1 ⟨r1, rfl, hct, hb1⟩
      have C1 := Lib.hid (fun wx (hx : Below w1.heap.size w1 wx) => hct.below hx)
      have B1 := Lib.hid hb1
      clear hct hb1
      go_wp2_with fail
      go_loopw [25] (fun s25 wr => ∃ k : Nat, k ≤ L ∧ s25 = .int .i64 k ∧ Hid (∀ l : Nat, l < k → strP zs level l m a b) ∧ Hid (Below w1.heap.size w1 wr)) (fun s25 _ => L - (intOf s25).toNat)
      case atStart => exact ⟨0, by omega, rfl, Lib.hid (fun l h => absurd h (by omega)), Lib.hid (Below.refl _ _)⟩
      case round =>
        obtain ⟨k, hk, rfl, HK, hB⟩ := hrel
        have B2 := Lib.hid (below_up B1.out hB.out)
        by_cases hlt : k < L
        · have t1 : (k : Int) < level := by have := HLv.out; omega
          have t3 : decide ((k : Int) < level) = true := decide_eq_true t1
          have hc := Lib.hid (HC2.out k wr B2.out)
          clear HC2 HE
          go_wp2_with fail
          refine hc.out.mono ?_
          rintro e w2 ⟨r2, rfl, hct2, hb2⟩
          have hs := HS.out r2 k w2 hct2 (below_up B2.out hb2) r1 (C1.out _ (below_up hB.out hb2))
          have B3 := Lib.hid (below_up hB.out hb2)
          clear hct2 hb2 hc HS B2
          have HN := Lib.hid (show strS zs level k m a b = false → mulS zs level m a b = false from fun h => HF.out (fun hp => by
            have := strS_true (hp.2.2 k (by have := HLv.out; omega)); rw [h] at this; cases this))
          have HY := Lib.hid (show strS zs level k m a b = true → ∀ l : Nat, l < k + 1 → strP zs level l m a b from fun h l hl => by
            rcases Nat.lt_or_ge l k with h2 | h2
            · exact HK.out l h2
            · obtain rfl : l = k := by omega
              exact strS_iff.1 h)
          cases hq : strS zs level k m a b with
          | false =>
            have HQ := Lib.hid (HN.out hq)
            rw [hq] at hs
            have hs := Lib.hid hs
            clear hq HN HY HK HF
            go_wp2_with fail
            refine hs.out.mono ?_
            rintro e w3 ⟨rfl, hb3⟩
            have S3 := Lib.hid (below_up B1.out (below_up B3.out hb3))
            clear hb3
            go_wp2_with fail
            go_ret
            exact ⟨ret_bool HQ.out.symm, S3.out⟩
          | true =>
            have HQ := Lib.hid (HY.out hq)
            rw [hq] at hs
            have hs := Lib.hid hs
            clear hq HN HY HK HF
            go_wp2_with fail
            refine hs.out.mono ?_
            rintro e w3 ⟨rfl, hb3⟩
            have S3 := Lib.hid (below_up B3.out hb3)
            clear hb3
            go_wp2_with fail
            go_roundw
            case rel => exact ⟨k + 1, by omega, by go_num, HQ, S3⟩
            case measure => simp [intOf] <;> omega
        · have HQ := Lib.hid (HE.out ⟨hl2, hlv, fun l h => HK.out l (by have := HLv.out; omega)⟩)
          have t1 : decide ((k : Int) < level) = false := decide_eq_false (by have := HLv.out; omega)
          clear HE HF HK HS HC2
          go_wp2_with fail
          go_ret
          exact ⟨ret_bool HQ.out.symm, B2.out⟩
    · have hm1 := Lib.hid (show max m 1 = m by omega)
      have HS : Hid (∀ v2 l wx, CT wx v2 zs ((l : Nat) : Int) → Below w.heap.size w wx → (hv1 : Value) → CT wx hv1 zs level → Calls Try.prog 49 #[hv1, v2, .int .i64 (level - (l : Int)), .int .i64 m, .int .i64 a, .int .i64 b] wx fun e w' => e = .returned (.bool (strS zs level l m a b)) ∧ Below wx.heap.size wx w') := Lib.hid (fun v2 l wx h2 _ hv1 h1 => stretches_calls hv1 v2 zs level l m _ a b wx h1 h2 hl2 hm1.out)
      go_enter Try.func38, Try.ntmps38
      go_wp2_with fail
      refine HC.out.mono ?_
      rintro e w1 ⟨r1, rfl, hct, hb1⟩
      have C1 := Lib.hid (fun wx (hx : Below w1.heap.size w1 wx) => hct.below hx)
      have B1 := Lib.hid hb1
      clear hct hb1
      go_wp2_with fail
      go_loopw [25] (fun s25 wr => ∃ k : Nat, k ≤ L ∧ s25 = .int .i64 k ∧ Hid (∀ l : Nat, l < k → strP zs level l m a b) ∧ Hid (Below w1.heap.size w1 wr)) (fun s25 _ => L - (intOf s25).toNat)
      case atStart => exact ⟨0, by omega, rfl, Lib.hid (fun l h => absurd h (by omega)), Lib.hid (Below.refl _ _)⟩
      case round =>
        obtain ⟨k, hk, rfl, HK, hB⟩ := hrel
        have B2 := Lib.hid (below_up B1.out hB.out)
        by_cases hlt : k < L
        · have t1 : (k : Int) < level := by have := HLv.out; omega
          have t3 : decide ((k : Int) < level) = true := decide_eq_true t1
          have hc := Lib.hid (HC2.out k wr B2.out)
          clear HC2 HE
          go_wp2_with fail
          refine hc.out.mono ?_
          rintro e w2 ⟨r2, rfl, hct2, hb2⟩
          have hs := HS.out r2 k w2 hct2 (below_up B2.out hb2) r1 (C1.out _ (below_up hB.out hb2))
          have B3 := Lib.hid (below_up hB.out hb2)
          clear hct2 hb2 hc HS B2
          have HN := Lib.hid (show strS zs level k m a b = false → mulS zs level m a b = false from fun h => HF.out (fun hp => by
            have := strS_true (hp.2.2 k (by have := HLv.out; omega)); rw [h] at this; cases this))
          have HY := Lib.hid (show strS zs level k m a b = true → ∀ l : Nat, l < k + 1 → strP zs level l m a b from fun h l hl => by
            rcases Nat.lt_or_ge l k with h2 | h2
            · exact HK.out l h2
            · obtain rfl : l = k := by omega
              exact strS_iff.1 h)
          cases hq : strS zs level k m a b with
          | false =>
            have HQ := Lib.hid (HN.out hq)
            rw [hq] at hs
            have hs := Lib.hid hs
            clear hq HN HY HK HF
            go_wp2_with fail
            refine hs.out.mono ?_
            rintro e w3 ⟨rfl, hb3⟩
            have S3 := Lib.hid (below_up B1.out (below_up B3.out hb3))
            clear hb3
            go_wp2_with fail
            go_ret
            exact ⟨ret_bool HQ.out.symm, S3.out⟩
          | true =>
            have HQ := Lib.hid (HY.out hq)
            rw [hq] at hs
            have hs := Lib.hid hs
            clear hq HN HY HK HF
            go_wp2_with fail
            refine hs.out.mono ?_
            rintro e w3 ⟨rfl, hb3⟩
            have S3 := Lib.hid (below_up B3.out hb3)
            clear hb3
            go_wp2_with fail
            go_roundw
            case rel => exact ⟨k + 1, by omega, by go_num, HQ, S3⟩
            case measure => simp [intOf] <;> omega
        · have HQ := Lib.hid (HE.out ⟨hl2, hlv, fun l h => HK.out l (by have := HLv.out; omega)⟩)
          have t1 : decide ((k : Int) < level) = false := decide_eq_false (by have := HLv.out; omega)
          clear HE HF HK HS HC2
          go_wp2_with fail
          go_ret
          exact ⟨ret_bool HQ.out.symm, B2.out⟩
end Go.Proofs.Ytfelbjiflceopaa.Gd
