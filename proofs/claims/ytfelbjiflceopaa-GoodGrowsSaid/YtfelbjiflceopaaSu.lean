/- The walks of chapter 39's Super, and of the document's. -/
import Derived.Test.YtfelbjiflceopaaGd
import Derived.Test.YtfelbjiflceopaaPl
import Derived.Test.YtfelbjiflceopaaSc
namespace Go.Proofs.Ytfelbjiflceopaa.Gd
open Go.RowKit Go.Proofs.Ytfelbjiflceopaa.Mk Go.Proofs.Ytfelbjiflceopaa.Ul Go.Proofs.Ytfelbjiflceopaa.Lg Go.Proofs.Ytfelbjiflceopaa.Up Go.Proofs.Ytfelbjiflceopaa.Rt
set_option maxHeartbeats 4000000 in
set_option maxRecDepth 100000 in
theorem super_calls (v : Value) (zs : List Int) (level m a b : Int) (w : World) (hz : ZS w v zs) (hln : zs.length ≤ 1099511627776) :
    Calls Try.prog 36 #[v, .int .i64 level, .int .i64 m, .int .i64 a, .int .i64 b] w fun e w' => e = .returned (.bool (supS zs level m a b)) ∧ Below w.heap.size w w' := by
  have hbd := hz.len1
  have HP := Lib.hid (places_calls v zs level w hz hln)
  have HL := Lib.hid (fun n d wx => loc_calls n d level a b wx)
  have hcl := cnt_le zs level
  obtain ⟨A, cap, rfl, _⟩ := hz.cell1
  clear hz
  by_cases hl : 1024 < zs.length
  · have t0 : decide ((1024 : Int) < (zs.length : Int)) = true := decide_eq_true (by omega)
    have HE := Lib.hid (sup_long (level := level) (m := m) (a := a) (b := b) hl)
    clear hl
    go_enter Try.func36, Try.ntmps36
    go_wp2_with fail
    refine HP.out.mono ?_
    rintro e w1 ⟨v1, rfl, hn, hb1⟩
    have S := Lib.hid hb1
    clear hb1 hn
    go_wp2_with fail
    go_ret
    exact ⟨ret_bool HE.out.symm, S.out⟩
  · have t0 : decide ((1024 : Int) < (zs.length : Int)) = false := decide_eq_false (by omega)
    have hl2 : zs.length ≤ 1024 := by omega
    have HE := Lib.hid (@supS_true zs level m a b)
    have HF := Lib.hid (@supS_false zs level m a b)
    have HPL := Lib.hid (fun n h1 h => @plcE_lt zs level n h1 h)
    clear hl
    rcases Int.lt_or_le m 1 with hm | hm
    · have HS : Hid (∃ k : Nat, max m 1 = (k : Int) ∧ 1 ≤ k ∧ (1 : Int) = k) := Lib.hid ⟨1, by omega, by omega, rfl⟩
      go_enter Try.func36, Try.ntmps36
      go_wp2_with fail
      refine HP.out.mono ?_
      rintro e w1 ⟨v1, rfl, hn, hb1⟩
      obtain ⟨A1, c1, rfl, _⟩ := hn.cell1
      have hcc : (plc zs level zs.length).length = cnt zs level := rfl
      have hcn : ∀ n : Nat, 1 ≤ n → n ≤ cnt zs level → ∃ b o, A1 = some ⟨b, o, none⟩ ∧ ∀ wx, Below w1.heap.size w1 wx → wx.cell? ⟨b, o + (cnt zs level - n), none⟩ = some (.int .i64 (plcE zs level n : Nat)) := by
        intro n h1 h2
        obtain ⟨A2, c2, he, _, _, hx⟩ := hn.cell1
        cases he
        obtain ⟨b, o, rfl, hq⟩ := hx (by rw [hcc]; omega)
        obtain ⟨i, _, _, _, hp⟩ := plc_at zs level zs.length (cnt zs level - n) (by rw [← cnt_ahd]; omega)
        refine ⟨b, o, rfl, fun wx hwx => ?_⟩
        have h3 := hq _ _ hp
        rw [show plcE zs level n = i from by unfold plcE; rw [hp]; rfl]
        exact (hwx.cell (block_lt_of_cell h3)).trans h3
      rw [hcc]
      have HC := Lib.hid hcn
      have S := Lib.hid hb1
      clear hb1 hn hcc hcn
      go_wp2_with fail
      go_loopw [12] (fun s12 wr => ∃ k : Nat, s12 = .int .i64 k ∧ 1 ≤ k ∧ Hid (max m 1 ≤ (k : Int) ∧ ∀ n : Nat, max m 1 ≤ (n : Int) → n < k → n ≤ cnt zs level → locS (n : Int) (((zs.length - plcE zs level n : Nat)) : Int) level a b = true) ∧ Hid (Below w1.heap.size w1 wr)) (fun s12 _ => cnt zs level + 1 - (intOf s12).toNat)
      case atStart =>
        obtain ⟨k, h1, h2, h3⟩ := HS.out
        exact ⟨k, by rw [h3], h2, Lib.hid ⟨by omega, fun n h4 h5 => absurd h5 (by omega)⟩, Lib.hid (Below.refl _ _)⟩
      case round =>
        obtain ⟨k, rfl, hk1, HK, hB⟩ := hrel
        by_cases hlt : k ≤ cnt zs level
        · obtain ⟨b1, o1, rfl, hcell⟩ := HC.out k hk1 hlt
          have c := hcell _ hB.out
          have hpl := HPL.out k hk1 hlt
          have HN := Lib.hid (show ∀ (q : Bool), locS (k : Int) (((zs.length - plcE zs level k : Nat)) : Int) level a b = q → (q = false → supS zs level m a b = false) ∧ (q = true → (max m 1 ≤ ((k + 1 : Nat) : Int) ∧ ∀ n : Nat, max m 1 ≤ (n : Int) → n < k + 1 → n ≤ cnt zs level → locS (n : Int) (((zs.length - plcE zs level n : Nat)) : Int) level a b = true)) from fun q hq => ⟨fun e => HF.out (fun hp => by have := hp.2 k HK.out.1 hlt; rw [hq, e] at this; cases this), fun e => ⟨by have := HK.out.1; omega, fun n h1 h2 h3 => by
            rcases Nat.lt_or_ge n k with h | h
            · exact HK.out.2 n h1 h h3
            · obtain rfl : n = k := by omega
              rw [hq, e]⟩⟩)
          have hL := Lib.hid (HL.out k (((zs.length - plcE zs level k : Nat)) : Int))
          clear hcell HC HF HPL HK HE HS
          obtain ⟨j, hj⟩ : ∃ j, j = cnt zs level - k := ⟨_, rfl⟩
          obtain ⟨d, hd⟩ : ∃ d, d = zs.length - plcE zs level k := ⟨_, rfl⟩
          rw [← hj] at c
          rw [← hd] at hL HN
          have q1 : ((cnt zs level : Nat) : Int) - (k : Int) = (j : Int) := by omega
          have q2 : ((zs.length : Nat) : Int) - ((plcE zs level k : Nat) : Int) = (d : Int) := by omega
          have i1 : (j : Int) < ((cnt zs level : Nat) : Int) := by omega
          clear hj hd
          generalize plcE zs level k = p at *
          cases hq : locS (k : Int) (d : Int) level a b with
          | false =>
            have HQ := Lib.hid ((HN.out _ hq).1 rfl)
            rw [hq] at hL
            clear hq HN
            go_wp2_with fail
            refine (hL.out _).mono ?_
            rintro e w2 ⟨rfl, hb2⟩
            have S2 := Lib.hid (below_up S.out (below_up hB.out hb2))
            clear hb2 hB
            go_wp2_with fail
            go_ret
            exact ⟨ret_bool HQ.out.symm, S2.out⟩
          | true =>
            have HQ := Lib.hid ((HN.out _ hq).2 rfl)
            rw [hq] at hL
            clear hq HN
            go_wp2_with fail
            refine (hL.out _).mono ?_
            rintro e w2 ⟨rfl, hb2⟩
            have S2 := Lib.hid (below_up hB.out hb2)
            clear hb2 hB
            go_wp2_with fail
            go_roundw
            case rel => exact ⟨k + 1, by go_num, by omega, HQ, S2⟩
            case measure => simp [intOf] <;> omega
        · have HQ := Lib.hid (HE.out ⟨hl2, fun n h1 h2 => HK.out.2 n h1 (by omega) h2⟩)
          have S2 := Lib.hid (below_up S.out hB.out)
          clear HE HF HK HC HPL hB
          go_wp2_with fail
          go_ret
          exact ⟨ret_bool HQ.out.symm, S2.out⟩
    · have HS : Hid (∃ k : Nat, max m 1 = (k : Int) ∧ 1 ≤ k ∧ m = k) := by
        obtain ⟨k, rfl⟩ := Int.eq_ofNat_of_zero_le (show 0 ≤ m by omega)
        exact Lib.hid ⟨k, by omega, by omega, rfl⟩
      go_enter Try.func36, Try.ntmps36
      go_wp2_with fail
      refine HP.out.mono ?_
      rintro e w1 ⟨v1, rfl, hn, hb1⟩
      obtain ⟨A1, c1, rfl, _⟩ := hn.cell1
      have hcc : (plc zs level zs.length).length = cnt zs level := rfl
      have hcn : ∀ n : Nat, 1 ≤ n → n ≤ cnt zs level → ∃ b o, A1 = some ⟨b, o, none⟩ ∧ ∀ wx, Below w1.heap.size w1 wx → wx.cell? ⟨b, o + (cnt zs level - n), none⟩ = some (.int .i64 (plcE zs level n : Nat)) := by
        intro n h1 h2
        obtain ⟨A2, c2, he, _, _, hx⟩ := hn.cell1
        cases he
        obtain ⟨b, o, rfl, hq⟩ := hx (by rw [hcc]; omega)
        obtain ⟨i, _, _, _, hp⟩ := plc_at zs level zs.length (cnt zs level - n) (by rw [← cnt_ahd]; omega)
        refine ⟨b, o, rfl, fun wx hwx => ?_⟩
        have h3 := hq _ _ hp
        rw [show plcE zs level n = i from by unfold plcE; rw [hp]; rfl]
        exact (hwx.cell (block_lt_of_cell h3)).trans h3
      rw [hcc]
      have HC := Lib.hid hcn
      have S := Lib.hid hb1
      clear hb1 hn hcc hcn
      go_wp2_with fail
      go_loopw [12] (fun s12 wr => ∃ k : Nat, s12 = .int .i64 k ∧ 1 ≤ k ∧ Hid (max m 1 ≤ (k : Int) ∧ ∀ n : Nat, max m 1 ≤ (n : Int) → n < k → n ≤ cnt zs level → locS (n : Int) (((zs.length - plcE zs level n : Nat)) : Int) level a b = true) ∧ Hid (Below w1.heap.size w1 wr)) (fun s12 _ => cnt zs level + 1 - (intOf s12).toNat)
      case atStart =>
        obtain ⟨k, h1, h2, h3⟩ := HS.out
        exact ⟨k, by rw [h3], h2, Lib.hid ⟨by omega, fun n h4 h5 => absurd h5 (by omega)⟩, Lib.hid (Below.refl _ _)⟩
      case round =>
        obtain ⟨k, rfl, hk1, HK, hB⟩ := hrel
        by_cases hlt : k ≤ cnt zs level
        · obtain ⟨b1, o1, rfl, hcell⟩ := HC.out k hk1 hlt
          have c := hcell _ hB.out
          have hpl := HPL.out k hk1 hlt
          have HN := Lib.hid (show ∀ (q : Bool), locS (k : Int) (((zs.length - plcE zs level k : Nat)) : Int) level a b = q → (q = false → supS zs level m a b = false) ∧ (q = true → (max m 1 ≤ ((k + 1 : Nat) : Int) ∧ ∀ n : Nat, max m 1 ≤ (n : Int) → n < k + 1 → n ≤ cnt zs level → locS (n : Int) (((zs.length - plcE zs level n : Nat)) : Int) level a b = true)) from fun q hq => ⟨fun e => HF.out (fun hp => by have := hp.2 k HK.out.1 hlt; rw [hq, e] at this; cases this), fun e => ⟨by have := HK.out.1; omega, fun n h1 h2 h3 => by
            rcases Nat.lt_or_ge n k with h | h
            · exact HK.out.2 n h1 h h3
            · obtain rfl : n = k := by omega
              rw [hq, e]⟩⟩)
          have hL := Lib.hid (HL.out k (((zs.length - plcE zs level k : Nat)) : Int))
          clear hcell HC HF HPL HK HE HS
          obtain ⟨j, hj⟩ : ∃ j, j = cnt zs level - k := ⟨_, rfl⟩
          obtain ⟨d, hd⟩ : ∃ d, d = zs.length - plcE zs level k := ⟨_, rfl⟩
          rw [← hj] at c
          rw [← hd] at hL HN
          have q1 : ((cnt zs level : Nat) : Int) - (k : Int) = (j : Int) := by omega
          have q2 : ((zs.length : Nat) : Int) - ((plcE zs level k : Nat) : Int) = (d : Int) := by omega
          have i1 : (j : Int) < ((cnt zs level : Nat) : Int) := by omega
          clear hj hd
          generalize plcE zs level k = p at *
          cases hq : locS (k : Int) (d : Int) level a b with
          | false =>
            have HQ := Lib.hid ((HN.out _ hq).1 rfl)
            rw [hq] at hL
            clear hq HN
            go_wp2_with fail
            refine (hL.out _).mono ?_
            rintro e w2 ⟨rfl, hb2⟩
            have S2 := Lib.hid (below_up S.out (below_up hB.out hb2))
            clear hb2 hB
            go_wp2_with fail
            go_ret
            exact ⟨ret_bool HQ.out.symm, S2.out⟩
          | true =>
            have HQ := Lib.hid ((HN.out _ hq).2 rfl)
            rw [hq] at hL
            clear hq HN
            go_wp2_with fail
            refine (hL.out _).mono ?_
            rintro e w2 ⟨rfl, hb2⟩
            have S2 := Lib.hid (below_up hB.out hb2)
            clear hb2 hB
            go_wp2_with fail
            go_roundw
            case rel => exact ⟨k + 1, by go_num, by omega, HQ, S2⟩
            case measure => simp [intOf] <;> omega
        · have HQ := Lib.hid (HE.out ⟨hl2, fun n h1 h2 => HK.out.2 n h1 (by omega) h2⟩)
          have S2 := Lib.hid (below_up S.out hB.out)
          clear HE HF HK HC HPL hB
          go_wp2_with fail
          go_ret
          exact ⟨ret_bool HQ.out.symm, S2.out⟩
end Go.Proofs.Ytfelbjiflceopaa.Gd
