/- The walks of chapter 7's functions: the number with which bytes begin. -/
import Derived.Test.YtgdlhcopgfgmaaaMk
import Derived.Test.YtgdlhcopgfgmaaaNumR
import Derived.ScopeJumps
namespace Go.Proofs.Ytgdlhcopgfgmaaa.Num
open Go.RowKit Go.Proofs.Ytgdlhcopgfgmaaa.Mk
set_option maxRecDepth 100000 in
set_option maxHeartbeats 4000000 in
theorem take_calls (s : ByteArray) (w : World) (hs : s.size ≤ 9223372036854775807) :
    Calls Try.prog 64 #[.string s] w fun e w' => e = .returned (takeV (takeR (bs s))) ∧ Below w.heap.size w w' := by
  go_enter Try.func64, Try.ntmps64
  go_wp2_with fail
  refine wp_scope_jumps 0 (fun a' w' => w' = w ∧ ∃ (x n : Nat) (_ : Hid (n < 10 → x = val ((bs s).take n))) (u7 u8 u9 u10 u11 u12 u13 u14 u15 u16 u17 u18 u19 u20 u21 u22 u23 u24 u25 u26 u27 u28 u29 u30 u31 u32 u33 u34 u35 u36 u37 u38 u39 u40 u41 u42 u43 u44 u45 u46 u47 u48 u49 u50 u51 : Value), a' = { tmps := #[.string s, undef, .int .u64 0, .int .i64 0, .int .i64 0, .int .u64 x, .int .i64 n, u7, u8, u9, u10, u11, u12, u13, u14, u15, u16, u17, u18, u19, u20, u21, u22, u23, u24, u25, u26, u27, u28, u29, u30, u31, u32, u33, u34, u35, u36, u37, u38, u39, u40, u41, u42, u43, u44, u45, u46, u47, u48, u49, u50, u51], defers := [] } ∧ n ≤ 10 ∧ n ≤ s.size ∧ Hid (takeR (bs s) = takeG (bs s) (10 - n) n)) (fun a' _ => 10 - (intOf (a'.tmps.getD 6 undef)).toNat) rfl ?_ ?_
  · by_cases h2 : s.size = 0
    · have t2 : ((0 : Int) == (s.size : Int)) = true := by simp; omega
      have hl2 : Hid (takeR (bs s) = (0, 0, 1)) := Lib.hid (takeG_short (bs s) 0 (by decide) (by rw [bs_len]; omega))
      clear h2
      go_wp2_with fail
      go_step3
      go_wp2_with fail
      simp only [Exit.jump]
      go_ret3
      exact ⟨ret3 (by rw [hl2.out]; rfl) (by rw [hl2.out]; rfl) (by rw [hl2.out]; rfl), Below.refl _ _⟩
    · have t2 : ((0 : Int) == (s.size : Int)) = false := by simp; omega
      have hlt : 0 < s.size := by omega
      obtain ⟨c, hcs⟩ : ∃ c, s[0]'hlt = c := ⟨_, rfl⟩
      have hlt2 : 0 < (bs s).length := by rw [bs_len]; exact hlt
      have hget : (bs s)[0]'hlt2 = c := (bs_get s 0 hlt hlt2).trans hcs
      have hvs := val_take_succ (bs s) 0 hlt2
      have hmore := takeG_more (bs s) 0 (by decide) hlt2
      have hlast := takeG_last (bs s) 0 (by decide) hlt2
      rw [hget] at hvs hmore hlast
      have Hvs : Hid (val ((bs s).take 1) = c.toNat % 128) := Lib.hid (by simpa [val] using hvs)
      have Hmore : Hid (128 ≤ c.toNat → takeR (bs s) = takeG (bs s) (10 - 1) 1) := Lib.hid hmore
      have hl2 : Hid (c.toNat < 128 → takeR (bs s) = (val ((bs s).take 1), 1, 0)) := Lib.hid (fun h => by
        have h9 := hlast h
        rw [if_neg (by omega), if_neg (by omega)] at h9
        exact h9)
      have HOR := Lib.hid (or_first c.toNat c.toNat_lt)
      clear hget hvs hmore hlast hlt2
      by_cases h5 : 128 ≤ c.toNat
      · have h5b : (128 : Int) ≤ ((c.toNat : Nat) : Int) := by omega
        clear h2
        go_wp2_with fail
        go_step3
        go_wp2_with fail
        go_step3
        rw [HOR.out]
        exact ⟨rfl, rfl, _, 1, Lib.hid (fun _ => by rw [Hvs.out]), _, _, _, _, _, _, _, _, _, _, _, _, _, _, _, _, _, _, _, _, _, _, _, _, _, _, _, _, _, _, _, _, _, _, _, _, _, _, _, _, _, _, _, _, _, rfl, by omega, by omega, Lib.hid (Hmore.out h5)⟩
      · have h5b : ((c.toNat : Nat) : Int) < 128 := by omega
        clear h2
        go_wp2_with fail
        go_step3
        go_wp2_with fail
        simp only [Exit.jump]
        go_ret3
        have hl3 := hl2.out (by omega)
        exact ⟨ret3 (by rw [hl3]; exact HOR.out.trans (by rw [Hvs.out])) (by rw [hl3]; rfl) (by rw [hl3]; rfl), Below.refl _ _⟩
  · rintro a' w' ⟨rfl, x, n, hx, u7, u8, u9, u10, u11, u12, u13, u14, u15, u16, u17, u18, u19, u20, u21, u22, u23, u24, u25, u26, u27, u28, u29, u30, u31, u32, u33, u34, u35, u36, u37, u38, u39, u40, u41, u42, u43, u44, u45, u46, u47, u48, u49, u50, u51, rfl, hn, hns, hG⟩
    by_cases h1 : n = 10
    · have hres := Lib.hid (hG.out.trans (takeG_end (bs s) n h1))
      have t1 : ((n : Int) == 10) = true := by simp; omega
      clear h1
      go_wp2_with fail
      simp only [Exit.jump]
      go_ret3
      exact ⟨ret3 (by rw [hres.out]; rfl) (by rw [hres.out]; rfl) (by rw [hres.out]; rfl), Below.refl _ _⟩
    · have t1 : ((n : Int) == 10) = false := by simp; omega
      by_cases h2 : s.size ≤ n
      · have hres := Lib.hid (hG.out.trans (takeG_short (bs s) n (by omega) (by rw [bs_len]; exact h2)))
        have t2 : ((n : Int) == (s.size : Int)) = true := by simp; omega
        clear h1 h2
        go_wp2_with fail
        simp only [Exit.jump]
        go_ret3
        exact ⟨ret3 (by rw [hres.out]; rfl) (by rw [hres.out]; rfl) (by rw [hres.out]; rfl), Below.refl _ _⟩
      · have t2 : ((n : Int) == (s.size : Int)) = false := by simp; omega
        have hlt : n < s.size := by omega
        obtain ⟨c, hcs⟩ : ∃ c, s[n]'hlt = c := ⟨_, rfl⟩
        have hlt2 : n < (bs s).length := by rw [bs_len]; exact hlt
        have hget : (bs s)[n]'hlt2 = c := (bs_get s n hlt hlt2).trans hcs
        have hc256 : c.toNat < 256 := c.toNat_lt
        have hvs := val_take_succ (bs s) n hlt2
        have hmore := takeG_more (bs s) n (by omega) hlt2
        have hlast := takeG_last (bs s) n (by omega) hlt2
        rw [hget] at hvs hmore hlast
        have Hvs := Lib.hid hvs
        have Hmore := Lib.hid hmore
        have Hlast := Lib.hid hlast
        have hvl : val ((bs s).take n) < 128 ^ n := by
          refine Nat.lt_of_lt_of_le (val_lt _) (Nat.pow_le_pow_right (by decide) (List.length_take_le _ _))
        have Hor := Lib.hid (fun (h9 : n = 9 → c.toNat % 128 ≤ 1) => or_next x n c.toNat (by omega) (by rw [hx.out (by omega)]; exact hvl) hc256 h9)
        have hxb : x < 9223372036854775808 := by rw [hx.out (by omega)]; exact val_take_lt _ _ (by omega)
        clear hget hvs hmore hlast hvl hlt2
        by_cases h5 : 128 ≤ c.toNat
        · have h5b : (128 : Int) ≤ ((c.toNat : Nat) : Int) := by omega
          by_cases h4 : n < 9
          · have HOR := Lib.hid (Hor.out (by omega))
            clear Hor h2
            go_wp2_with fail
            go_step3
            rw [HOR.out]
            exact ⟨rfl, ⟨rfl, _, n + 1, Lib.hid (fun _ => by rw [Hvs.out, ← hx.out (by omega)]), _, _, _, _, _, _, _, _, _, _, _, _, _, _, _, _, _, _, _, _, _, _, _, _, _, _, _, _, _, _, _, _, _, _, _, _, _, _, _, _, _, _, _, _, _, rfl, by omega, by omega, Lib.hid (by rw [hG.out, Hmore.out h5])⟩, by simp [intOf]; omega⟩
          · clear Hor h2
            go_wp2_with fail
            go_step3
            exact ⟨rfl, ⟨rfl, _, n + 1, Lib.hid (fun h => by omega), _, _, _, _, _, _, _, _, _, _, _, _, _, _, _, _, _, _, _, _, _, _, _, _, _, _, _, _, _, _, _, _, _, _, _, _, _, _, _, _, _, _, _, _, _, rfl, by omega, by omega, Lib.hid (by rw [hG.out, Hmore.out h5])⟩, by simp [intOf]; omega⟩
        · have h5b : ((c.toNat : Nat) : Int) < 128 := by omega
          have hl := Lib.hid (hG.out.trans (Hlast.out (by omega)))
          by_cases h6 : 0 < n ∧ c.toNat = 0
          · have hl2 : Hid (takeR (bs s) = (0, 0, 2)) := Lib.hid (by rw [hl.out, if_pos h6])
            have t3 : ((c.toNat : Int) == 0) = true := by simp; omega
            have h60 := h6.1
            clear Hor h2 h6
            by_cases h49 : n < 9
            all_goals
              go_wp2_with fail
              simp only [Exit.jump]
              go_ret3
              exact ⟨ret3 (by rw [hl2.out]; rfl) (by rw [hl2.out]; rfl) (by rw [hl2.out]; rfl), Below.refl _ _⟩
          · by_cases h7 : n = 9 ∧ 1 < c.toNat
            · have hl2 : Hid (takeR (bs s) = (0, 0, 3)) := Lib.hid (by rw [hl.out, if_neg h6, if_pos h7])
              have t3 : ((c.toNat : Int) == 0) = false := by simp; omega
              have t4 : ((n : Int) + 1 == 10) = true := by simp; omega
              have h70 := h7.2
              have h71 : 8 < n := by omega
              clear Hor h2 h6 h7
              go_wp2_with fail
              simp only [Exit.jump]
              go_ret3
              exact ⟨ret3 (by rw [hl2.out]; rfl) (by rw [hl2.out]; rfl) (by rw [hl2.out]; rfl), Below.refl _ _⟩
            · have hl2 : Hid (takeR (bs s) = (val ((bs s).take (n + 1)), n + 1, 0)) := Lib.hid (by rw [hl.out, if_neg h6, if_neg h7])
              have HOR := Lib.hid (Hor.out (by omega))
              clear Hor h2
              by_cases h8 : n = 9
              · have t4 : ((n : Int) + 1 == 10) = true := by simp; omega
                have t3 : ((c.toNat : Int) == 0) = false := by simp; omega
                have h70 : c.toNat ≤ 1 := by omega
                have h80 : 8 < n := by omega
                clear h6 h7 h8
                go_wp2_with fail
                simp only [Exit.jump]
                go_ret3
                exact ⟨ret3 (by rw [HOR.out, hl2.out, Hvs.out, ← hx.out (by omega)]) (by rw [hl2.out]; rfl) (by rw [hl2.out]; rfl), Below.refl _ _⟩
              · have t4 : ((n : Int) + 1 == 10) = false := by simp; omega
                have h70 : n < 9 := by omega
                by_cases h10 : 0 < n
                · have t3 : ((c.toNat : Int) == 0) = false := by simp; omega
                  clear h6 h7 h8
                  go_wp2_with fail
                  simp only [Exit.jump]
                  go_ret3
                  exact ⟨ret3 (by rw [HOR.out, hl2.out, Hvs.out, ← hx.out (by omega)]) (by rw [hl2.out]; rfl) (by rw [hl2.out]; rfl), Below.refl _ _⟩
                · clear h6 h7 h8
                  go_wp2_with fail
                  simp only [Exit.jump]
                  go_ret3
                  exact ⟨ret3 (by rw [HOR.out, hl2.out, Hvs.out, ← hx.out (by omega)]) (by rw [hl2.out]; rfl) (by rw [hl2.out]; rfl), Below.refl _ _⟩
end Go.Proofs.Ytgdlhcopgfgmaaa.Num
