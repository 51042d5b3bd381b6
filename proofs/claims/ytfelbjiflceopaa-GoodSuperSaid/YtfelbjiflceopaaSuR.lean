/- The walk of chapter 39's Super by the document. -/
import Derived.Test.YtfelbjiflceopaaSu
namespace Go.Proofs.Ytfelbjiflceopaa.Gd
open Go.RowKit Go.Proofs.Ytfelbjiflceopaa.Mk Go.Proofs.Ytfelbjiflceopaa.Ul Go.Proofs.Ytfelbjiflceopaa.Lg Go.Proofs.Ytfelbjiflceopaa.Up Go.Proofs.Ytfelbjiflceopaa.Rt
theorem ZS.drop {A : Option Addr} {n c i : Nat} {zs : List Int} {w : World} (h : ZS w (.slice A n c) zs) (hi : i < zs.length) :
    ∃ A', (∀ wx, (Instr.slice 22 (.slice A n c) (some (.int .i64 i)) none none).run Try.prog wx = .ok (.slice A' (zs.drop i).length (c - i)) wx) ∧ ZS w (.slice A' (zs.drop i).length (c - i)) (zs.drop i) := by
  obtain ⟨h1, h2, A1, c1, e, h3, h4, h5⟩ := h
  cases e
  obtain ⟨b, o, rfl, hx⟩ := h5 (by omega)
  refine ⟨some ((⟨b, o, none⟩ : Addr).add (i * 1)), fun wx => ?_, ⟨fun _ _ => rfl, by rw [List.length_drop]; omega, _, _, rfl, by rw [List.length_drop]; omega, by omega, fun _ => ⟨b, o + i, ?_, fun k x hk => ?_⟩⟩⟩
  · rw [run_slice_l wx 22 _ _ _ (by kernel_rfl) .i64 i (by omega) (by omega)]
    have hs : (sizeOf (Try.prog.elem 22)).run Try.prog wx = .ok 1 wx := by kernel_rfl
    rw [hs, Result.andThen_ok]
    unfold sliced
    rw [Int.toNat_natCast, if_neg (by omega), List.length_drop]
    rfl
  · unfold Addr.add
    split
    · obtain rfl : i = 0 := by omega
      rfl
    · simp
  · have := hx (i + k) x (by rw [← hk, List.getElem?_drop])
    rw [show o + i + k * 1 = o + (i + k) * 1 by omega]
    exact this
set_option maxHeartbeats 8000000 in
set_option maxRecDepth 100000 in
theorem rsuper_calls (v : Value) (zs : List Int) (level m a b : Int) (w : World) (hz : ZS w v zs) :
    Calls Try.prog 37 #[v, .int .i64 level, .int .i64 m, .int .i64 a, .int .i64 b] w fun e w' => e = .returned (.bool (supS zs level m a b)) ∧ Below w.heap.size w w' := by
  have hbd := hz.len1
  have HL := Lib.hid (fun n d wx => rloc_calls n d level a b wx)
  have HZ := Lib.hid (fun wx (hx : Below w.heap.size w wx) => hz.below hx)
  obtain ⟨A, cap, rfl, _⟩ := hz.cell1
  clear hz
  by_cases hl : 1024 < zs.length
  · have t0 : decide ((1024 : Int) < (zs.length : Int)) = true := decide_eq_true (by omega)
    have HE := Lib.hid (sup_long (level := level) (m := m) (a := a) (b := b) hl)
    clear hl
    go_enter Try.func37, Try.ntmps37
    go_wp2_with fail
    go_ret
    exact ⟨ret_bool HE.out.symm, Below.refl _ _⟩
  · have t0 : decide ((1024 : Int) < (zs.length : Int)) = false := decide_eq_false (by omega)
    have hl2 : zs.length ≤ 1024 := by omega
    have HE := Lib.hid (fun h => @supS_true zs level m a b (sup_iff.2 h))
    have HF := Lib.hid (fun (h : ¬ supR zs level m a b) => @supS_false zs level m a b (fun k => h (sup_iff.1 k)))
    clear hl
    rcases Int.lt_or_le m 1 with hm | hm
    · have t1 : decide (m < 1) = true := decide_eq_true hm
      have HM1 := Lib.hid (show max m 1 = 1 by omega)
      clear hm
      go_enter Try.func37, Try.ntmps37
      go_wp2_with fail
      go_loopw [11] (fun s11 wr => ∃ k : Nat, s11 = .int .i64 k ∧ k ≤ zs.length ∧ Hid (∀ i : Nat, i < k → level ≤ zs[i]?.getD 0 → 1 ≤ (cnt (zs.drop i) level : Int) → locS (cnt (zs.drop i) level : Int) (((zs.length - i : Nat)) : Int) level a b = true) ∧ Hid (Below w.heap.size w wr)) (fun s11 _ => zs.length - (intOf s11).toNat)
      case atStart => exact ⟨0, rfl, Nat.zero_le _, Lib.hid (fun i h => absurd h (by omega)), Lib.hid (Below.refl _ _)⟩
      case round =>
        obtain ⟨k, rfl, hk, HK, hB⟩ := hrel
        by_cases hlt : k < zs.length
        · obtain ⟨A', hsl, hd⟩ := ZS.drop (HZ.out _ hB.out) hlt
          obtain ⟨_, _, he, _, _, hx⟩ := (HZ.out _ hB.out).cell1
          cases he
          obtain ⟨b1, o1, rfl, hx2⟩ := hx (by omega)
          have c := hx2 k zs[k] (List.getElem?_eq_getElem hlt)
          unfold zI at c
          have hC := Lib.hid (fun wx (hx : Below _ _ wx) => Sc.rcount_calls _ _ level wx (hd.below hx))
          have hdl : (zs.drop k).length = zs.length - k := List.length_drop
          rw [hdl] at hsl hC
          have HN := Lib.hid (show ∀ (q : Bool), (q = true → level ≤ zs[k] → 1 ≤ (cnt (zs.drop k) level : Int) → locS (cnt (zs.drop k) level : Int) (((zs.length - k : Nat)) : Int) level a b = true) → q = true → (∀ i : Nat, i < k + 1 → level ≤ zs[i]?.getD 0 → 1 ≤ (cnt (zs.drop i) level : Int) → locS (cnt (zs.drop i) level : Int) (((zs.length - i : Nat)) : Int) level a b = true) from fun q hq hq2 i h1 h2 h3 => by
            rcases Nat.lt_or_ge i k with h | h
            · exact HK.out i h h2 h3
            · obtain rfl : i = k := by omega
              rw [List.getElem?_eq_getElem hlt] at h2
              exact hq hq2 h2 h3)
          have HM := Lib.hid (show level ≤ zs[k] → 1 ≤ (cnt (zs.drop k) level : Int) → locS (cnt (zs.drop k) level : Int) (((zs.length - k : Nat)) : Int) level a b = false → supS zs level m a b = false from fun h1 h2 h3 => HF.out (fun hp => by
            have := hp.2 k hlt (by rw [List.getElem?_eq_getElem hlt]; exact h1) (by rw [HM1.out]; exact h2)
            rw [h3] at this; cases this))
          have hL := Lib.hid (HL.out (cnt (zs.drop k) level) (((zs.length - k : Nat)) : Int))
          have hcl := cnt_le (zs.drop k) level
          rw [hdl] at hcl
          clear hx hx2 hd HZ HF HE HK hdl
          obtain ⟨d, hd⟩ : ∃ d, d = zs.length - k := ⟨_, rfl⟩
          rw [← hd] at hL HM hC hsl hcl
          have HD := Lib.hid hd
          have hdp : d < zs.length + 1 := by omega
          clear hd
          have HNN := Lib.hid (show (level ≤ zs[k] → 1 ≤ (cnt (zs.drop k) level : Int) → locS (cnt (zs.drop k) level : Int) (d : Int) level a b = true) → _ from fun h => HN.out true (fun _ h1 h2 => by rw [← HD.out]; exact h h1 h2) rfl)
          clear HN
          generalize cnt (zs.drop k) level = n at *
          generalize zs[k] = z at *
          by_cases t1 : level ≤ z
          · by_cases t2 : 1 ≤ (n : Int)
            · cases hq : locS (n : Int) (d : Int) level a b with
              | false =>
                have HQ := Lib.hid (HM.out t1 t2 hq)
                rw [hq] at hL
                have u1 : decide (level ≤ z) = true := decide_eq_true t1
                have u2 : decide (1 ≤ (n : Int)) = true := decide_eq_true t2
                clear hq HNN HM t1 t2
                go_wp2_with fail
                refine (hC.out _ (Below.refl _ _)).mono ?_
                rintro e w2 ⟨rfl, rfl⟩
                go_wp2_with fail
                refine (hL.out _).mono ?_
                rintro e w2 ⟨rfl, hb2⟩
                have S2 := Lib.hid (below_up hB.out hb2)
                clear hb2 hB
                go_wp2_with fail
                go_ret
                exact ⟨ret_bool HQ.out.symm, S2.out⟩
              | true =>
                have HQ := Lib.hid (HNN.out (fun _ _ => hq))
                rw [hq] at hL
                have u1 : decide (level ≤ z) = true := decide_eq_true t1
                have u2 : decide (1 ≤ (n : Int)) = true := decide_eq_true t2
                clear hq HNN HM t1 t2
                go_wp2_with fail
                refine (hC.out _ (Below.refl _ _)).mono ?_
                rintro e w2 ⟨rfl, rfl⟩
                go_wp2_with fail
                refine (hL.out _).mono ?_
                rintro e w2 ⟨rfl, hb2⟩
                have S2 := Lib.hid (below_up hB.out hb2)
                clear hb2 hB
                go_wp2_with fail
                go_roundw
                case rel => exact ⟨k + 1, by go_num, by omega, HQ, S2⟩
                case measure => simp [intOf] <;> omega
            · have HQ := Lib.hid (HNN.out (fun _ h => absurd h t2))
              have u1 : decide (level ≤ z) = true := decide_eq_true t1
              have u2 : decide (1 ≤ (n : Int)) = false := decide_eq_false t2
              clear HNN HM t1 t2
              go_wp2_with fail
              refine (hC.out _ (Below.refl _ _)).mono ?_
              rintro e w2 ⟨rfl, rfl⟩
              go_wp2_with fail
              go_roundw
              case rel => exact ⟨k + 1, by go_num, by omega, HQ, hB⟩
              case measure => simp [intOf] <;> omega
          · have HQ := Lib.hid (HNN.out (fun h => absurd h t1))
            have u1 : decide (level ≤ z) = false := decide_eq_false t1
            clear HNN HM t1
            go_wp2_with fail
            refine (hC.out _ (Below.refl _ _)).mono ?_
            rintro e w2 ⟨rfl, rfl⟩
            go_wp2_with fail
            go_roundw
            case rel => exact ⟨k + 1, by go_num, by omega, HQ, hB⟩
            case measure => simp [intOf] <;> omega
        · have HQ := Lib.hid (HE.out ⟨hl2, fun i h1 h2 h3 => HK.out i (by omega) h2 (by rw [← HM1.out]; exact h3)⟩)
          clear HE HF HK HZ
          go_wp2_with fail
          go_ret
          exact ⟨ret_bool HQ.out.symm, hB.out⟩
    · have t1 : decide (m < 1) = false := decide_eq_false (by omega)
      have HM1 := Lib.hid (show max m 1 = m by omega)
      clear hm
      go_enter Try.func37, Try.ntmps37
      go_wp2_with fail
      go_loopw [11] (fun s11 wr => ∃ k : Nat, s11 = .int .i64 k ∧ k ≤ zs.length ∧ Hid (∀ i : Nat, i < k → level ≤ zs[i]?.getD 0 → m ≤ (cnt (zs.drop i) level : Int) → locS (cnt (zs.drop i) level : Int) (((zs.length - i : Nat)) : Int) level a b = true) ∧ Hid (Below w.heap.size w wr)) (fun s11 _ => zs.length - (intOf s11).toNat)
      case atStart => exact ⟨0, rfl, Nat.zero_le _, Lib.hid (fun i h => absurd h (by omega)), Lib.hid (Below.refl _ _)⟩
      case round =>
        obtain ⟨k, rfl, hk, HK, hB⟩ := hrel
        by_cases hlt : k < zs.length
        · obtain ⟨A', hsl, hd⟩ := ZS.drop (HZ.out _ hB.out) hlt
          obtain ⟨_, _, he, _, _, hx⟩ := (HZ.out _ hB.out).cell1
          cases he
          obtain ⟨b1, o1, rfl, hx2⟩ := hx (by omega)
          have c := hx2 k zs[k] (List.getElem?_eq_getElem hlt)
          unfold zI at c
          have hC := Lib.hid (fun wx (hx : Below _ _ wx) => Sc.rcount_calls _ _ level wx (hd.below hx))
          have hdl : (zs.drop k).length = zs.length - k := List.length_drop
          rw [hdl] at hsl hC
          have HN := Lib.hid (show ∀ (q : Bool), (q = true → level ≤ zs[k] → m ≤ (cnt (zs.drop k) level : Int) → locS (cnt (zs.drop k) level : Int) (((zs.length - k : Nat)) : Int) level a b = true) → q = true → (∀ i : Nat, i < k + 1 → level ≤ zs[i]?.getD 0 → m ≤ (cnt (zs.drop i) level : Int) → locS (cnt (zs.drop i) level : Int) (((zs.length - i : Nat)) : Int) level a b = true) from fun q hq hq2 i h1 h2 h3 => by
            rcases Nat.lt_or_ge i k with h | h
            · exact HK.out i h h2 h3
            · obtain rfl : i = k := by omega
              rw [List.getElem?_eq_getElem hlt] at h2
              exact hq hq2 h2 h3)
          have HM := Lib.hid (show level ≤ zs[k] → m ≤ (cnt (zs.drop k) level : Int) → locS (cnt (zs.drop k) level : Int) (((zs.length - k : Nat)) : Int) level a b = false → supS zs level m a b = false from fun h1 h2 h3 => HF.out (fun hp => by
            have := hp.2 k hlt (by rw [List.getElem?_eq_getElem hlt]; exact h1) (by rw [HM1.out]; exact h2)
            rw [h3] at this; cases this))
          have hL := Lib.hid (HL.out (cnt (zs.drop k) level) (((zs.length - k : Nat)) : Int))
          have hcl := cnt_le (zs.drop k) level
          rw [hdl] at hcl
          clear hx hx2 hd HZ HF HE HK hdl
          obtain ⟨d, hd⟩ : ∃ d, d = zs.length - k := ⟨_, rfl⟩
          rw [← hd] at hL HM hC hsl hcl
          have HD := Lib.hid hd
          have hdp : d < zs.length + 1 := by omega
          clear hd
          have HNN := Lib.hid (show (level ≤ zs[k] → m ≤ (cnt (zs.drop k) level : Int) → locS (cnt (zs.drop k) level : Int) (d : Int) level a b = true) → _ from fun h => HN.out true (fun _ h1 h2 => by rw [← HD.out]; exact h h1 h2) rfl)
          clear HN
          generalize cnt (zs.drop k) level = n at *
          generalize zs[k] = z at *
          by_cases t1 : level ≤ z
          · by_cases t2 : m ≤ (n : Int)
            · cases hq : locS (n : Int) (d : Int) level a b with
              | false =>
                have HQ := Lib.hid (HM.out t1 t2 hq)
                rw [hq] at hL
                have u1 : decide (level ≤ z) = true := decide_eq_true t1
                have u2 : decide (m ≤ (n : Int)) = true := decide_eq_true t2
                clear hq HNN HM t1 t2
                go_wp2_with fail
                refine (hC.out _ (Below.refl _ _)).mono ?_
                rintro e w2 ⟨rfl, rfl⟩
                go_wp2_with fail
                refine (hL.out _).mono ?_
                rintro e w2 ⟨rfl, hb2⟩
                have S2 := Lib.hid (below_up hB.out hb2)
                clear hb2 hB
                go_wp2_with fail
                go_ret
                exact ⟨ret_bool HQ.out.symm, S2.out⟩
              | true =>
                have HQ := Lib.hid (HNN.out (fun _ _ => hq))
                rw [hq] at hL
                have u1 : decide (level ≤ z) = true := decide_eq_true t1
                have u2 : decide (m ≤ (n : Int)) = true := decide_eq_true t2
                clear hq HNN HM t1 t2
                go_wp2_with fail
                refine (hC.out _ (Below.refl _ _)).mono ?_
                rintro e w2 ⟨rfl, rfl⟩
                go_wp2_with fail
                refine (hL.out _).mono ?_
                rintro e w2 ⟨rfl, hb2⟩
                have S2 := Lib.hid (below_up hB.out hb2)
                clear hb2 hB
                go_wp2_with fail
                go_roundw
                case rel => exact ⟨k + 1, by go_num, by omega, HQ, S2⟩
                case measure => simp [intOf] <;> omega
            · have HQ := Lib.hid (HNN.out (fun _ h => absurd h t2))
              have u1 : decide (level ≤ z) = true := decide_eq_true t1
              have u2 : decide (m ≤ (n : Int)) = false := decide_eq_false t2
              clear HNN HM t1 t2
              go_wp2_with fail
              refine (hC.out _ (Below.refl _ _)).mono ?_
              rintro e w2 ⟨rfl, rfl⟩
              go_wp2_with fail
              go_roundw
              case rel => exact ⟨k + 1, by go_num, by omega, HQ, hB⟩
              case measure => simp [intOf] <;> omega
          · have HQ := Lib.hid (HNN.out (fun h => absurd h t1))
            have u1 : decide (level ≤ z) = false := decide_eq_false t1
            clear HNN HM t1
            go_wp2_with fail
            refine (hC.out _ (Below.refl _ _)).mono ?_
            rintro e w2 ⟨rfl, rfl⟩
            go_wp2_with fail
            go_roundw
            case rel => exact ⟨k + 1, by go_num, by omega, HQ, hB⟩
            case measure => simp [intOf] <;> omega
        · have HQ := Lib.hid (HE.out ⟨hl2, fun i h1 h2 h3 => HK.out i (by omega) h2 (by rw [← HM1.out]; exact h3)⟩)
          clear HE HF HK HZ
          go_wp2_with fail
          go_ret
          exact ⟨ret_bool HQ.out.symm, hB.out⟩
end Go.Proofs.Ytfelbjiflceopaa.Gd
