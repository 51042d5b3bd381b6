import Derived.Test.YtcaocnlchfbeaaaBa
import Derived.Test.YtcaocnlchfbeaaaBb
import Derived.Test.YtcaocnlchfbeaaaProg
import Derived.ScopeJumps
import Derived.Deep.AppendLies
import Derived.Deep.RegionLaw
import Derived.Lib.BufferWrite
/- The walk of the document's Take. -/
namespace Go.Proofs.Ytcaocnlchfbeaaa.Num
open Go.RowKit Go.Proofs.Ytcaocnlchfbeaaa.Mk
/-- what Take hands back -/
def takeV (r : Nat × Nat × Nat) : Value := .tuple #[.int .u64 r.1, .int .i64 r.2.1, .int .i64 r.2.2]
theorem ret3 {r : Nat × Nat × Nat} {x n e : Int} (hx : x = r.1) (hn : n = r.2.1) (he : e = r.2.2) : Ending.returned (.tuple #[.int .u64 x, .int .i64 n, .int .i64 e]) = .returned (takeV r) := by
  rw [hx, hn, he]; rfl
set_option maxRecDepth 100000 in
set_option maxHeartbeats 4000000 in
theorem rtake_calls (s : ByteArray) (w : World) (hs : s.size ≤ 9223372036854775807) :
    Calls Try.prog 90 #[.string s] w fun e w' => e = .returned (takeV (takeR (bs s))) ∧ Below w.heap.size w w' := by
  go_enter Try.func90, Try.ntmps90
  go_wp2_with fail
  go_loop [5] (fun s5 => ∃ n : Nat, n ≤ 10 ∧ n ≤ s.size ∧ s5 = .int .i64 n ∧ Hid (takeR (bs s) = takeG (bs s) (10 - n) n)) (fun i => 10 - (intOf i).toNat)
  case atStart => exact ⟨0, Nat.zero_le _, Nat.zero_le _, rfl, Lib.hid rfl⟩
  case round =>
    obtain ⟨n, hn, hns, rfl, hG⟩ := hrel
    by_cases hlt : n < s.size
    · obtain ⟨c, hcs⟩ : ∃ c, s[n]'hlt = c := ⟨_, rfl⟩
      have hlt2 : n < (bs s).length := by rw [bs_len]; exact hlt
      have hget : (bs s)[n]'hlt2 = c := (bs_get s n hlt hlt2).trans hcs
      have hc256 : c.toNat < 256 := c.toNat_lt
      by_cases h10 : n < 10
      · have hmore := takeG_more (bs s) n h10 hlt2
        have hlast := takeG_last (bs s) n h10 hlt2
        rw [hget] at hmore hlast
        have Hmore := Lib.hid hmore
        have Hlast := Lib.hid hlast
        clear hmore hlast hget hlt2
        by_cases h5 : 128 ≤ c.toNat
        · have h5b : (128 : Int) ≤ ((c.toNat : Nat) : Int) := by omega
          go_wp2_with fail
          go_round
          case rel => exact ⟨n + 1, by omega, by omega, by go_num, Lib.hid (hG.out.trans (Hmore.out h5))⟩
          case measure => simp [intOf] <;> omega
        · have h5b : ((c.toNat : Nat) : Int) < 128 := by omega
          have t1 : ((n : Int) == 10) = false := by simp; omega
          have t2 : ((n : Int) == (s.size : Int)) = false := by simp; omega
          have hl := Lib.hid (hG.out.trans (Hlast.out (by omega)))
          by_cases h6 : 0 < n ∧ c.toNat = 0
          · have hl2 : Hid (takeR (bs s) = (0, 0, 2)) := Lib.hid (by rw [hl.out, if_pos h6])
            have t3 : ((c.toNat : Int) == 0) = true := by simp; omega
            have h60 := h6.1
            clear h6
            go_wp2_with fail
            go_ret3
            exact ⟨ret3 (by rw [hl2.out]; rfl) (by rw [hl2.out]; rfl) (by rw [hl2.out]; rfl), Below.refl _ _⟩
          · by_cases h7 : n = 9 ∧ 1 < c.toNat
            · have hl2 : Hid (takeR (bs s) = (0, 0, 3)) := Lib.hid (by rw [hl.out, if_neg h6, if_pos h7])
              have t3 : ((c.toNat : Int) == 0) = false := by simp; omega
              have t4 : ((n : Int) == 9) = true := by simp; omega
              have h70 := h7.2
              have h71 : 8 < n := by omega
              clear h6 h7
              go_wp2_with fail
              go_ret3
              exact ⟨ret3 (by rw [hl2.out]; rfl) (by rw [hl2.out]; rfl) (by rw [hl2.out]; rfl), Below.refl _ _⟩
            · have hl2 : Hid (takeR (bs s) = (val ((bs s).take (n + 1)), n + 1, 0)) := Lib.hid (by rw [hl.out, if_neg h6, if_neg h7])
              have hvb := (takeR_lt (bs s)).1
              rw [hl2.out] at hvb
              simp only at hvb
              have Hvb := Lib.hid hvb
              clear hvb
              by_cases h9 : n = 9
              · have t3 : ((c.toNat : Int) == 0) = false := by simp; omega
                have t4 : ((n : Int) == 9) = true := by simp; omega
                have h70 : ((c.toNat : Nat) : Int) ≤ 1 := by omega
                have h71 : 8 < n := by omega
                clear h6 h7 h9
                have hcl : ((bs s).take (n + 1)).length = n + 1 := by rw [List.length_take, bs_len]; omega
                have Hst : Hid (∀ m (h : m < s.size), m ≤ n → val (((bs s).take (n + 1)).drop m) = (s[m]'h).toNat % 128 + 128 * val (((bs s).take (n + 1)).drop (m + 1))) := Lib.hid (fun m h hm => by
                  have h1 := val_drop ((bs s).take (n + 1)) m (by omega)
                  rw [h1, List.getElem_take, bs_get s m h])
                have Hb : Hid (∀ m, val (((bs s).take (n + 1)).drop m) < 18446744073709551616) := Lib.hid (fun m => Nat.lt_of_le_of_lt (val_drop_le _ m) Hvb.out)
                have He : Hid (val (((bs s).take (n + 1)).drop (n + 1)) = 0) := Lib.hid (by rw [List.drop_eq_nil_of_le (by omega)]; rfl)
                clear hcl
                go_wp2_with fail
                go_loop [6, 7] (fun s6 s7 => ∃ (m : Nat) (i : Int) (x : Nat), m ≤ n + 1 ∧ i = (m : Int) - 1 ∧ s7 = .int .i64 i ∧ s6 = .int .u64 x ∧ Hid (x = val (((bs s).take (n + 1)).drop m))) (fun _ i => (intOf i + 1).toNat)
                case atStart => exact ⟨n + 1, _, 0, Nat.le_refl _, rfl, by congr 1; omega, rfl, Lib.hid He.out.symm⟩
                case round =>
                  obtain ⟨m, i, x, hm, him, rfl, rfl, hx⟩ := hrel
                  cases m with
                  | zero =>
                    obtain rfl : i = -1 := by omega
                    clear him
                    have hx2 : Hid (x = (takeR (bs s)).1) := Lib.hid (by rw [hx.out, hl2.out]; rfl)
                    clear hx
                    go_wp2_with fail
                    go_ret3
                    exact ⟨ret3 (by rw [hx2.out]) (by rw [hl2.out]; go_num) (by rw [hl2.out]; rfl), Below.refl _ _⟩
                  | succ m =>
                    obtain rfl : i = (m : Int) := by omega
                    clear him
                    have hmlt : m < s.size := by omega
                    obtain ⟨d, hds⟩ : ∃ d, s[m]'hmlt = d := ⟨_, rfl⟩
                    have hst := Hst.out m hmlt (by omega)
                    rw [hds, ← hx.out] at hst
                    have hbb := Hb.out m
                    rw [hst] at hbb
                    have hd256 : d.toNat < 256 := d.toNat_lt
                    have hx1 : x * 128 ≤ 18446744073709551615 := by omega
                    have hx2 : x * 128 + d.toNat % 128 ≤ 18446744073709551615 := by omega
                    have HST := Lib.hid hst
                    clear hst hbb
                    go_wp2_with fail
                    go_round
                    case rel => exact ⟨m, _, x * 128 + d.toNat % 128, by omega, rfl, rfl, by go_num, Lib.hid (by rw [HST.out]; omega)⟩
                    case measure => simp [intOf] <;> omega
              · have t4 : ((n : Int) == 9) = false := by simp; omega
                by_cases hz : 0 < n
                · have t3 : ((c.toNat : Int) == 0) = false := by simp; omega
                  clear h6 h7 h9
                  have hcl : ((bs s).take (n + 1)).length = n + 1 := by rw [List.length_take, bs_len]; omega
                  have Hst : Hid (∀ m (h : m < s.size), m ≤ n → val (((bs s).take (n + 1)).drop m) = (s[m]'h).toNat % 128 + 128 * val (((bs s).take (n + 1)).drop (m + 1))) := Lib.hid (fun m h hm => by
                    have h1 := val_drop ((bs s).take (n + 1)) m (by omega)
                    rw [h1, List.getElem_take, bs_get s m h])
                  have Hb : Hid (∀ m, val (((bs s).take (n + 1)).drop m) < 18446744073709551616) := Lib.hid (fun m => Nat.lt_of_le_of_lt (val_drop_le _ m) Hvb.out)
                  have He : Hid (val (((bs s).take (n + 1)).drop (n + 1)) = 0) := Lib.hid (by rw [List.drop_eq_nil_of_le (by omega)]; rfl)
                  clear hcl
                  go_wp2_with fail
                  go_loop [6, 7] (fun s6 s7 => ∃ (m : Nat) (i : Int) (x : Nat), m ≤ n + 1 ∧ i = (m : Int) - 1 ∧ s7 = .int .i64 i ∧ s6 = .int .u64 x ∧ Hid (x = val (((bs s).take (n + 1)).drop m))) (fun _ i => (intOf i + 1).toNat)
                  case atStart => exact ⟨n + 1, _, 0, Nat.le_refl _, rfl, by congr 1; omega, rfl, Lib.hid He.out.symm⟩
                  case round =>
                    obtain ⟨m, i, x, hm, him, rfl, rfl, hx⟩ := hrel
                    cases m with
                    | zero =>
                      obtain rfl : i = -1 := by omega
                      clear him
                      have hx2 : Hid (x = (takeR (bs s)).1) := Lib.hid (by rw [hx.out, hl2.out]; rfl)
                      clear hx
                      go_wp2_with fail
                      go_ret3
                      exact ⟨ret3 (by rw [hx2.out]) (by rw [hl2.out]; go_num) (by rw [hl2.out]; rfl), Below.refl _ _⟩
                    | succ m =>
                      obtain rfl : i = (m : Int) := by omega
                      clear him
                      have hmlt : m < s.size := by omega
                      obtain ⟨d, hds⟩ : ∃ d, s[m]'hmlt = d := ⟨_, rfl⟩
                      have hst := Hst.out m hmlt (by omega)
                      rw [hds, ← hx.out] at hst
                      have hbb := Hb.out m
                      rw [hst] at hbb
                      have hd256 : d.toNat < 256 := d.toNat_lt
                      have hx1 : x * 128 ≤ 18446744073709551615 := by omega
                      have hx2 : x * 128 + d.toNat % 128 ≤ 18446744073709551615 := by omega
                      have HST := Lib.hid hst
                      clear hst hbb
                      go_wp2_with fail
                      go_round
                      case rel => exact ⟨m, _, x * 128 + d.toNat % 128, by omega, rfl, rfl, by go_num, Lib.hid (by rw [HST.out]; omega)⟩
                      case measure => simp [intOf] <;> omega
                · clear h6 h7 h9
                  have hcl : ((bs s).take (n + 1)).length = n + 1 := by rw [List.length_take, bs_len]; omega
                  have Hst : Hid (∀ m (h : m < s.size), m ≤ n → val (((bs s).take (n + 1)).drop m) = (s[m]'h).toNat % 128 + 128 * val (((bs s).take (n + 1)).drop (m + 1))) := Lib.hid (fun m h hm => by
                    have h1 := val_drop ((bs s).take (n + 1)) m (by omega)
                    rw [h1, List.getElem_take, bs_get s m h])
                  have Hb : Hid (∀ m, val (((bs s).take (n + 1)).drop m) < 18446744073709551616) := Lib.hid (fun m => Nat.lt_of_le_of_lt (val_drop_le _ m) Hvb.out)
                  have He : Hid (val (((bs s).take (n + 1)).drop (n + 1)) = 0) := Lib.hid (by rw [List.drop_eq_nil_of_le (by omega)]; rfl)
                  clear hcl
                  go_wp2_with fail
                  go_loop [6, 7] (fun s6 s7 => ∃ (m : Nat) (i : Int) (x : Nat), m ≤ n + 1 ∧ i = (m : Int) - 1 ∧ s7 = .int .i64 i ∧ s6 = .int .u64 x ∧ Hid (x = val (((bs s).take (n + 1)).drop m))) (fun _ i => (intOf i + 1).toNat)
                  case atStart => exact ⟨n + 1, _, 0, Nat.le_refl _, rfl, by congr 1; omega, rfl, Lib.hid He.out.symm⟩
                  case round =>
                    obtain ⟨m, i, x, hm, him, rfl, rfl, hx⟩ := hrel
                    cases m with
                    | zero =>
                      obtain rfl : i = -1 := by omega
                      clear him
                      have hx2 : Hid (x = (takeR (bs s)).1) := Lib.hid (by rw [hx.out, hl2.out]; rfl)
                      clear hx
                      go_wp2_with fail
                      go_ret3
                      exact ⟨ret3 (by rw [hx2.out]) (by rw [hl2.out]; go_num) (by rw [hl2.out]; rfl), Below.refl _ _⟩
                    | succ m =>
                      obtain rfl : i = (m : Int) := by omega
                      clear him
                      have hmlt : m < s.size := by omega
                      obtain ⟨d, hds⟩ : ∃ d, s[m]'hmlt = d := ⟨_, rfl⟩
                      have hst := Hst.out m hmlt (by omega)
                      rw [hds, ← hx.out] at hst
                      have hbb := Hb.out m
                      rw [hst] at hbb
                      have hd256 : d.toNat < 256 := d.toNat_lt
                      have hx1 : x * 128 ≤ 18446744073709551615 := by omega
                      have hx2 : x * 128 + d.toNat % 128 ≤ 18446744073709551615 := by omega
                      have HST := Lib.hid hst
                      clear hst hbb
                      go_wp2_with fail
                      go_round
                      case rel => exact ⟨m, _, x * 128 + d.toNat % 128, by omega, rfl, rfl, by go_num, Lib.hid (by rw [HST.out]; omega)⟩
                      case measure => simp [intOf] <;> omega
      · have hres := Lib.hid (hG.out.trans (takeG_end (bs s) n (by omega)))
        have t1 : ((n : Int) == 10) = true := by simp; omega
        clear hlt2 hget
        go_wp2_with fail
        go_ret3
        exact ⟨ret3 (by rw [hres.out]; rfl) (by rw [hres.out]; rfl) (by rw [hres.out]; rfl), Below.refl _ _⟩
    · by_cases h10 : n = 10
      · have hres := Lib.hid (hG.out.trans (takeG_end (bs s) n h10))
        have t1 : ((n : Int) == 10) = true := by simp; omega
        clear h10
        go_wp2_with fail
        go_ret3
        exact ⟨ret3 (by rw [hres.out]; rfl) (by rw [hres.out]; rfl) (by rw [hres.out]; rfl), Below.refl _ _⟩
      · have hres := Lib.hid (hG.out.trans (takeG_short (bs s) n (by omega) (by rw [bs_len]; omega)))
        have t1 : ((n : Int) == 10) = false := by simp; omega
        have t2 : ((n : Int) == (s.size : Int)) = true := by simp; omega
        clear h10
        go_wp2_with fail
        go_ret3
        exact ⟨ret3 (by rw [hres.out]; rfl) (by rw [hres.out]; rfl) (by rw [hres.out]; rfl), Below.refl _ _⟩
end Go.Proofs.Ytcaocnlchfbeaaa.Num

/- The walks of chapter 7's functions: the number with which bytes begin. -/
namespace Go.Proofs.Ytcaocnlchfbeaaa.Num
open Go.RowKit Go.Proofs.Ytcaocnlchfbeaaa.Mk
set_option maxRecDepth 100000 in
set_option maxHeartbeats 4000000 in
theorem take_calls (s : ByteArray) (w : World) (hs : s.size ≤ 9223372036854775807) :
    Calls Try.prog 95 #[.string s] w fun e w' => e = .returned (takeV (takeR (bs s))) ∧ Below w.heap.size w w' := by
  go_enter Try.func95, Try.ntmps95
  go_wp2_with fail
  refine wp_scope_jumps 0 (fun a' w' => w' = w ∧ ∃ (x n : Nat) (_ : Hid (n < 10 → x = val ((bs s).take n))) (u7 u8 u9 u10 u11 u12 u13 u14 u15 u16 u17 u18 u19 u20 u21 u22 u23 u24 u25 u26 u27 u28 u29 u30 u31 u32 u33 u34 u35 u36 u37 u38 u39 u40 u41 u42 u43 u44 u45 u46 u47 u48 u49 u50 u51 : Value), a' = { tmps := #[.string s, undef, .int .u64 0, .int .i64 0, .int .i64 0, .int .u64 x, .int .i64 n, u7, u8, u9, u10, u11, u12, u13, u14, u15, u16, u17, u18, u19, u20, u21, u22, u23, u24, u25, u26, u27, u28, u29, u30, u31, u32, u33, u34, u35, u36, u37, u38, u39, u40, u41, u42, u43, u44, u45, u46, u47, u48, u49, u50, u51], defers := [] } ∧ n ≤ 10 ∧ n ≤ s.size ∧ Hid (takeR (bs s) = takeG (bs s) (10 - n) n)) (fun a' _ => 10 - (intOf (a'.tmps.getD 6 undef)).toNat) rfl ?_ ?_
  · by_cases h2 : s.size = 0
    · have t2 : ((0 : Int) == (s.size : Int)) = true := by simp; omega
      have hl2 : Hid (takeR (bs s) = (0, 0, 1)) := Lib.hid (takeG_short (bs s) 0 (by decide) (by rw [bs_len]; omega))
      clear h2
      go_wp2_with fail
      go_step3
      go_wp2_with fail
      simp only [Exit.jump]
      go_ret3
      exact ⟨ret3 (by rw [hl2.out]; rfl) (by rw [hl2.out]; rfl) (by rw [hl2.out]; rfl), Below.refl _ _⟩
    · have t2 : ((0 : Int) == (s.size : Int)) = false := by simp; omega
      have hlt : 0 < s.size := by omega
      obtain ⟨c, hcs⟩ : ∃ c, s[0]'hlt = c := ⟨_, rfl⟩
      have hlt2 : 0 < (bs s).length := by rw [bs_len]; exact hlt
      have hget : (bs s)[0]'hlt2 = c := (bs_get s 0 hlt hlt2).trans hcs
      have hvs := val_take_succ (bs s) 0 hlt2
      have hmore := takeG_more (bs s) 0 (by decide) hlt2
      have hlast := takeG_last (bs s) 0 (by decide) hlt2
      rw [hget] at hvs hmore hlast
      have Hvs : Hid (val ((bs s).take 1) = c.toNat % 128) := Lib.hid (by simpa [val] using hvs)
      have Hmore : Hid (128 ≤ c.toNat → takeR (bs s) = takeG (bs s) (10 - 1) 1) := Lib.hid hmore
      have hl2 : Hid (c.toNat < 128 → takeR (bs s) = (val ((bs s).take 1), 1, 0)) := Lib.hid (fun h => by
        have h9 := hlast h
        rw [if_neg (by omega), if_neg (by omega)] at h9
        exact h9)
      have HOR := Lib.hid (or_first c.toNat c.toNat_lt)
      clear hget hvs hmore hlast hlt2
      by_cases h5 : 128 ≤ c.toNat
      · have h5b : (128 : Int) ≤ ((c.toNat : Nat) : Int) := by omega
        clear h2
        go_wp2_with fail
        go_step3
        go_wp2_with fail
        go_step3
        rw [HOR.out]
        exact ⟨rfl, rfl, _, 1, Lib.hid (fun _ => by rw [Hvs.out]), _, _, _, _, _, _, _, _, _, _, _, _, _, _, _, _, _, _, _, _, _, _, _, _, _, _, _, _, _, _, _, _, _, _, _, _, _, _, _, _, _, _, _, _, _, rfl, by omega, by omega, Lib.hid (Hmore.out h5)⟩
      · have h5b : ((c.toNat : Nat) : Int) < 128 := by omega
        clear h2
        go_wp2_with fail
        go_step3
        go_wp2_with fail
        simp only [Exit.jump]
        go_ret3
        have hl3 := hl2.out (by omega)
        exact ⟨ret3 (by rw [hl3]; exact HOR.out.trans (by rw [Hvs.out])) (by rw [hl3]; rfl) (by rw [hl3]; rfl), Below.refl _ _⟩
  · rintro a' w' ⟨rfl, x, n, hx, u7, u8, u9, u10, u11, u12, u13, u14, u15, u16, u17, u18, u19, u20, u21, u22, u23, u24, u25, u26, u27, u28, u29, u30, u31, u32, u33, u34, u35, u36, u37, u38, u39, u40, u41, u42, u43, u44, u45, u46, u47, u48, u49, u50, u51, rfl, hn, hns, hG⟩
    by_cases h1 : n = 10
    · have hres := Lib.hid (hG.out.trans (takeG_end (bs s) n h1))
      have t1 : ((n : Int) == 10) = true := by simp; omega
      clear h1
      go_wp2_with fail
      simp only [Exit.jump]
      go_ret3
      exact ⟨ret3 (by rw [hres.out]; rfl) (by rw [hres.out]; rfl) (by rw [hres.out]; rfl), Below.refl _ _⟩
    · have t1 : ((n : Int) == 10) = false := by simp; omega
      by_cases h2 : s.size ≤ n
      · have hres := Lib.hid (hG.out.trans (takeG_short (bs s) n (by omega) (by rw [bs_len]; exact h2)))
        have t2 : ((n : Int) == (s.size : Int)) = true := by simp; omega
        clear h1 h2
        go_wp2_with fail
        simp only [Exit.jump]
        go_ret3
        exact ⟨ret3 (by rw [hres.out]; rfl) (by rw [hres.out]; rfl) (by rw [hres.out]; rfl), Below.refl _ _⟩
      · have t2 : ((n : Int) == (s.size : Int)) = false := by simp; omega
        have hlt : n < s.size := by omega
        obtain ⟨c, hcs⟩ : ∃ c, s[n]'hlt = c := ⟨_, rfl⟩
        have hlt2 : n < (bs s).length := by rw [bs_len]; exact hlt
        have hget : (bs s)[n]'hlt2 = c := (bs_get s n hlt hlt2).trans hcs
        have hc256 : c.toNat < 256 := c.toNat_lt
        have hvs := val_take_succ (bs s) n hlt2
        have hmore := takeG_more (bs s) n (by omega) hlt2
        have hlast := takeG_last (bs s) n (by omega) hlt2
        rw [hget] at hvs hmore hlast
        have Hvs := Lib.hid hvs
        have Hmore := Lib.hid hmore
        have Hlast := Lib.hid hlast
        have hvl : val ((bs s).take n) < 128 ^ n := by
          refine Nat.lt_of_lt_of_le (val_lt _) (Nat.pow_le_pow_right (by decide) (List.length_take_le _ _))
        have Hor := Lib.hid (fun (h9 : n = 9 → c.toNat % 128 ≤ 1) => or_next x n c.toNat (by omega) (by rw [hx.out (by omega)]; exact hvl) hc256 h9)
        have hxb : x < 9223372036854775808 := by rw [hx.out (by omega)]; exact val_take_lt _ _ (by omega)
        clear hget hvs hmore hlast hvl hlt2
        by_cases h5 : 128 ≤ c.toNat
        · have h5b : (128 : Int) ≤ ((c.toNat : Nat) : Int) := by omega
          by_cases h4 : n < 9
          · have HOR := Lib.hid (Hor.out (by omega))
            clear Hor h2
            go_wp2_with fail
            go_step3
            rw [HOR.out]
            exact ⟨rfl, ⟨rfl, _, n + 1, Lib.hid (fun _ => by rw [Hvs.out, ← hx.out (by omega)]), _, _, _, _, _, _, _, _, _, _, _, _, _, _, _, _, _, _, _, _, _, _, _, _, _, _, _, _, _, _, _, _, _, _, _, _, _, _, _, _, _, _, _, _, _, rfl, by omega, by omega, Lib.hid (by rw [hG.out, Hmore.out h5])⟩, by simp [intOf]; omega⟩
          · clear Hor h2
            go_wp2_with fail
            go_step3
            exact ⟨rfl, ⟨rfl, _, n + 1, Lib.hid (fun h => by omega), _, _, _, _, _, _, _, _, _, _, _, _, _, _, _, _, _, _, _, _, _, _, _, _, _, _, _, _, _, _, _, _, _, _, _, _, _, _, _, _, _, _, _, _, _, rfl, by omega, by omega, Lib.hid (by rw [hG.out, Hmore.out h5])⟩, by simp [intOf]; omega⟩
        · have h5b : ((c.toNat : Nat) : Int) < 128 := by omega
          have hl := Lib.hid (hG.out.trans (Hlast.out (by omega)))
          by_cases h6 : 0 < n ∧ c.toNat = 0
          · have hl2 : Hid (takeR (bs s) = (0, 0, 2)) := Lib.hid (by rw [hl.out, if_pos h6])
            have t3 : ((c.toNat : Int) == 0) = true := by simp; omega
            have h60 := h6.1
            clear Hor h2 h6
            by_cases h49 : n < 9
            all_goals
              go_wp2_with fail
              simp only [Exit.jump]
              go_ret3
              exact ⟨ret3 (by rw [hl2.out]; rfl) (by rw [hl2.out]; rfl) (by rw [hl2.out]; rfl), Below.refl _ _⟩
          · by_cases h7 : n = 9 ∧ 1 < c.toNat
            · have hl2 : Hid (takeR (bs s) = (0, 0, 3)) := Lib.hid (by rw [hl.out, if_neg h6, if_pos h7])
              have t3 : ((c.toNat : Int) == 0) = false := by simp; omega
              have t4 : ((n : Int) + 1 == 10) = true := by simp; omega
              have h70 := h7.2
              have h71 : 8 < n := by omega
              clear Hor h2 h6 h7
              go_wp2_with fail
              simp only [Exit.jump]
              go_ret3
              exact ⟨ret3 (by rw [hl2.out]; rfl) (by rw [hl2.out]; rfl) (by rw [hl2.out]; rfl), Below.refl _ _⟩
            · have hl2 : Hid (takeR (bs s) = (val ((bs s).take (n + 1)), n + 1, 0)) := Lib.hid (by rw [hl.out, if_neg h6, if_neg h7])
              have HOR := Lib.hid (Hor.out (by omega))
              clear Hor h2
              by_cases h8 : n = 9
              · have t4 : ((n : Int) + 1 == 10) = true := by simp; omega
                have t3 : ((c.toNat : Int) == 0) = false := by simp; omega
                have h70 : c.toNat ≤ 1 := by omega
                have h80 : 8 < n := by omega
                clear h6 h7 h8
                go_wp2_with fail
                simp only [Exit.jump]
                go_ret3
                exact ⟨ret3 (by rw [HOR.out, hl2.out, Hvs.out, ← hx.out (by omega)]) (by rw [hl2.out]; rfl) (by rw [hl2.out]; rfl), Below.refl _ _⟩
              · have t4 : ((n : Int) + 1 == 10) = false := by simp; omega
                have h70 : n < 9 := by omega
                by_cases h10 : 0 < n
                · have t3 : ((c.toNat : Int) == 0) = false := by simp; omega
                  clear h6 h7 h8
                  go_wp2_with fail
                  simp only [Exit.jump]
                  go_ret3
                  exact ⟨ret3 (by rw [HOR.out, hl2.out, Hvs.out, ← hx.out (by omega)]) (by rw [hl2.out]; rfl) (by rw [hl2.out]; rfl), Below.refl _ _⟩
                · clear h6 h7 h8
                  go_wp2_with fail
                  simp only [Exit.jump]
                  go_ret3
                  exact ⟨ret3 (by rw [HOR.out, hl2.out, Hvs.out, ← hx.out (by omega)]) (by rw [hl2.out]; rfl) (by rw [hl2.out]; rfl), Below.refl _ _⟩
end Go.Proofs.Ytcaocnlchfbeaaa.Num

/- The walks of a cursor's own functions, at a cursor that lies in a block. -/
namespace Go.Proofs.Ytcaocnlchfbeaaa.Cur
open Go.RowKit Go.Proofs.Ytcaocnlchfbeaaa.Mk
/-- block b holds a cursor -/
def CU (b : Nat) (c : C) (w : World) : Prop := w.heap[b]? = some (.cells #[.string (ba c.b), .int .i64 c.e] 92 (0, 0))
/-- what a take may turn -/
abbrev CW (b : Nat) (w w' : World) : Prop := But (fun k => k = b) w w'
theorem CU.lt {b : Nat} {c : C} {w : World} (h : CU b c w) : b < w.heap.size := (Array.getElem?_eq_some_iff.1 h).1
theorem CU.c0 {b : Nat} {c : C} {w : World} (h : CU b c w) : w.cell? ⟨b, 0, none⟩ = some (.string (ba c.b)) := by
  rw [cell_of_row w b 0 _ _ _ h]; rfl
theorem CU.c1 {b : Nat} {c : C} {w : World} (h : CU b c w) : w.cell? ⟨b, 1, none⟩ = some (.int .i64 c.e) := by
  rw [cell_of_row w b 1 _ _ _ h]; rfl
theorem CU.fz {b : Nat} {c : C} {w : World} (h : CU b c w) (o : Nat) : w.frozen? ⟨b, o, none⟩ = false := by
  simp [World.frozen?, show w.heap[b]? = _ from h]
theorem CU.set0 {b : Nat} {c : C} {w : World} (h : CU b c w) (l : List UInt8) : CU b ⟨l, c.e⟩ (w.setCell ⟨b, 0, none⟩ (.string (ba l))) := by
  have hb : w.heap[b]? = _ := h
  unfold CU
  simp [World.setCell, Array.getElem?_modify, hb]
theorem CU.set1 {b : Nat} {c : C} {w : World} (h : CU b c w) (e : Int) : CU b ⟨c.b, e⟩ (w.setCell ⟨b, 1, none⟩ (.int .i64 e)) := by
  have hb : w.heap[b]? = _ := h
  unfold CU
  simp [World.setCell, Array.getElem?_modify, hb]
theorem CU.keep {b : Nat} {c : C} {w w' : World} (h : CU b c w) (hb : Below w.heap.size w w') : CU b c w' := (hb.block b h.lt).trans h
theorem CU.other {b b2 : Nat} {c : C} {w w' : World} (h : CU b c w) (hb : CW b2 w w') (hne : b ≠ b2) : CU b c w' := (hb.block b h.lt hne).trans h
theorem CW.below {B b : Nat} {w w' : World} (h : CW b w w') (hB : B ≤ w.heap.size) (hb : B ≤ b) : Below B w w' := But.below h hB (fun i hi => by rw [hi]; exact hb)
theorem ret_str {a b : ByteArray} (h : a = b) : Ending.returned (.string a) = .returned (.string b) := by rw [h]
theorem ba_nil : ba [] = ⟨#[]⟩ := rfl
set_option maxHeartbeats 2000000 in
theorem sfail_calls (b : Nat) (c : C) (e : Int) (w : World) (h : CU b c w) :
    Calls Try.prog 103 #[.pointer (some ⟨b, 0, none⟩), .int .i64 e] w fun r w' => r = .returned (.tuple #[]) ∧ CU b (failC c e) w' ∧ CW b w w' := by
  obtain ⟨l, ce⟩ := c
  have c0 := h.c0
  have c1 := h.c1
  have f0 := h.fz 0
  have f1 := h.fz 1
  have H := Lib.hid h
  clear h
  by_cases h0 : ce = 0
  · by_cases he : e = 0
    · subst h0 he
      go_enter Try.func103, Try.ntmps103
      go_wp2_with fail
      go_end0
      exact ⟨rfl, by simpa [failC] using H.out, But.refl _ _⟩
    · subst h0
      have t1 : (e == 0) = false := by simpa using he
      have t2 : (e != 0) = true := by simpa using he
      have hs1 := H.out.set1 e
      have d0 := hs1.c0
      have g0 := hs1.fz 0
      have H2 := Lib.hid (hs1.set0 [])
      rw [ba_nil] at H2
      clear hs1
      go_enter Try.func103, Try.ntmps103
      go_wp2_with fail
      go_end0
      refine ⟨rfl, ?_, ((But.refl (fun k => k = b) w).setCell (p := ⟨b, 1, none⟩) rfl _).setCell (p := ⟨b, 0, none⟩) rfl _⟩
      have : failC ⟨l, 0⟩ e = ⟨[], e⟩ := by simp [failC, he]
      rw [this]
      exact H2.out
  · have t1 : (ce == 0) = false := by simpa using h0
    go_enter Try.func103, Try.ntmps103
    go_wp2_with fail
    go_end0
    exact ⟨rfl, by simpa [failC, h0] using H.out, But.refl _ _⟩
theorem take_extract (l : List UInt8) (n : Nat) : (ba l).extract 0 n = ba (l.take n) := by
  apply ByteArray.ext
  simp [ba]
theorem drop_extract (l : List UInt8) (n m : Nat) (h : m = l.length) : (ba l).extract n m = ba (l.drop n) := by
  subst h
  apply ByteArray.ext
  simp [ba]
  rw [List.take_of_length_le (by simp)]
set_option maxHeartbeats 2000000 in
theorem cut_calls (b : Nat) (c : C) (n : Nat) (w : World) (h : CU b c w) (hl : c.b.length ≤ 9223372036854775807) (_hn : n ≤ 9223372036854775807) :
    Calls Try.prog 96 #[.pointer (some ⟨b, 0, none⟩), .int .i64 n] w fun r w' => r = .returned (.string (ba (rawC c n).1)) ∧ CU b (rawC c n).2 w' ∧ CW b w w' := by
  obtain ⟨l, ce⟩ := c
  have c0 := h.c0
  have c1 := h.c1
  have f0 := h.fz 0
  have f1 := h.fz 1
  simp only at c0 c1 hl
  have hsz : (ba l).size = l.length := rfl
  by_cases h0 : ce = 0
  · subst h0
    by_cases hlen : n ≤ l.length
    · have H1 := Lib.hid (h.set0 (l.drop n))
      have hr := raw_ok l n hlen
      rw [hr]
      clear h hr
      have t1 : decide (((ba l).size : Int) < (n : Int)) = false := by rw [hsz]; simp; omega
      have t2 : decide ((ba l).size < n) = false := by rw [hsz]; simp; omega
      have t3 : n ≤ (ba l).size := by rw [hsz]; exact hlen
      have HT := Lib.hid (take_extract l n)
      rw [← drop_extract l n (ba l).size rfl] at H1
      clear hsz hlen
      generalize ba l = s at *
      go_enter Try.func96, Try.ntmps96
      go_wp2_with fail
      go_ret
      exact ⟨ret_str HT.out, H1.out, (But.refl (fun k => k = b) w).setCell (p := ⟨b, 0, none⟩) rfl _⟩
    · have HF := Lib.hid (sfail_calls b ⟨l, 0⟩ 1 w h)
      rw [raw_short l n (by omega)]
      rw [fail_some l 1 (by decide)] at HF
      have t1 : decide (((ba l).size : Int) < (n : Int)) = true := by rw [hsz]; simp; omega
      have t2 : decide ((ba l).size < n) = true := by rw [hsz]; simp; omega
      clear h hsz
      generalize ba l = s at *
      go_enter Try.func96, Try.ntmps96
      go_wp2_with fail
      refine HF.out.mono ?_
      rintro e w1 ⟨rfl, h1, hw1⟩
      have d1 := h1.c1
      have H1 := Lib.hid (And.intro h1 hw1)
      clear h1 hw1
      go_wp2_with fail
      go_ret
      exact ⟨rfl, H1.out⟩
  · have t1 : (ce == 0) = false := by simpa using h0
    have t2 : (ce != 0) = true := by simpa using h0
    have H := Lib.hid h
    rw [raw_err l ce n h0]
    clear h
    go_enter Try.func96, Try.ntmps96
    go_wp2_with fail
    go_ret
    exact ⟨rfl, H.out, But.refl _ _⟩
set_option maxHeartbeats 2000000 in
theorem read_calls (s : ByteArray) (w : World) : Calls Try.prog 18 #[.string s] w fun r w' => r = .returned (.pointer (some ⟨w.heap.size, 0, none⟩)) ∧ CU w.heap.size ⟨bs s, 0⟩ w' ∧ Below w.heap.size w w' := by
  go_enter Try.func18, Try.ntmps18
  go_wp2_with fail
  go_ret
  exact ⟨rfl, heap_new _ _, (Below.refl _ _).alloc (Nat.le_refl _) _⟩
set_option maxHeartbeats 1000000 in
theorem err_calls (b : Nat) (c : C) (w : World) (h : CU b c w) : Calls Try.prog 24 #[.pointer (some ⟨b, 0, none⟩)] w fun r w' => r = .returned (.int .i64 c.e) ∧ w' = w := by
  have c1 := h.c1
  clear h
  go_enter Try.func24, Try.ntmps24
  go_wp2_with fail
  go_ret
  exact ⟨rfl, rfl⟩
set_option maxHeartbeats 1000000 in
theorem left_calls (b : Nat) (c : C) (w : World) (h : CU b c w) : Calls Try.prog 23 #[.pointer (some ⟨b, 0, none⟩)] w fun r w' => r = .returned (.int .i64 c.b.length) ∧ w' = w := by
  have c0 := h.c0
  have hs : (ba c.b).size = c.b.length := rfl
  clear h
  rw [← hs]
  generalize ba c.b = s at *
  clear hs
  go_enter Try.func23, Try.ntmps23
  go_wp2_with fail
  go_ret
  exact ⟨rfl, rfl⟩
set_option maxHeartbeats 1000000 in
theorem fail_calls (b : Nat) (c : C) (e : Int) (w : World) (h : CU b c w) :
    Calls Try.prog 74 #[.pointer (some ⟨b, 0, none⟩), .int .i64 e] w fun r w' => r = .returned (.tuple #[]) ∧ CU b (failC c e) w' ∧ CW b w w' := by
  have HF := Lib.hid (sfail_calls b c e w h)
  clear h
  go_enter Try.func74, Try.ntmps74
  go_wp2_with fail
  refine HF.out.mono ?_
  rintro r w1 ⟨rfl, h1⟩
  have H1 := Lib.hid h1
  clear h1
  go_wp2_with fail
  go_end0
  exact ⟨rfl, H1.out⟩
set_option maxHeartbeats 1000000 in
theorem raw_calls (b : Nat) (c : C) (n : Int) (w : World) (h : CU b c w) (hl : c.b.length ≤ 9223372036854775807) (hn : n ≤ 9223372036854775807) :
    Calls Try.prog 92 #[.pointer (some ⟨b, 0, none⟩), .int .i64 n] w fun r w' => r = .returned (.string (ba (rawC c n).1)) ∧ CU b (rawC c n).2 w' ∧ CW b w w' := by
  by_cases h0 : n < 0
  · have HF := Lib.hid (fail_calls b c 3 w h)
    rw [raw_neg c n h0]
    clear h
    go_enter Try.func92, Try.ntmps92
    go_wp2_with fail
    refine HF.out.mono ?_
    rintro r w1 ⟨rfl, h1⟩
    have H1 := Lib.hid h1
    clear h1
    go_wp2_with fail
    go_ret
    exact ⟨rfl, H1.out⟩
  · obtain ⟨m, rfl⟩ := Int.eq_ofNat_of_zero_le (Int.not_lt.1 h0)
    have HF := Lib.hid (cut_calls b c m w h hl (by omega))
    clear h h0
    generalize rawC c m = x at *
    go_enter Try.func92, Try.ntmps92
    go_wp2_with fail
    refine HF.out.mono ?_
    rintro r w1 ⟨rfl, h1⟩
    have H1 := Lib.hid h1
    clear h1
    go_wp2_with fail
    go_ret
    exact ⟨rfl, H1.out⟩
set_option maxHeartbeats 1000000 in
theorem done_calls (b : Nat) (c : C) (w : World) (h : CU b c w) (hl : c.b.length ≤ 9223372036854775807) : Calls Try.prog 72 #[.pointer (some ⟨b, 0, none⟩)] w fun r w' => r = .returned (.int .i64 (doneC c)) ∧ w' = w := by
  have HE := Lib.hid (err_calls b c w h)
  have HL := Lib.hid (left_calls b c w h)
  clear h
  by_cases h0 : c.e = 0
  · rw [h0] at HE
    by_cases h1 : 0 < c.b.length
    · have hd : doneC c = 2 := by
        unfold doneC
        rw [if_pos ⟨h0, fun e => by rw [e] at h1; simp at h1⟩]
      rw [hd]
      clear hd h0
      go_enter Try.func72, Try.ntmps72
      go_wp2_with fail
      refine HE.out.mono ?_
      rintro r w1 ⟨rfl, rfl⟩
      go_wp2_with fail
      refine HL.out.mono ?_
      rintro r w1 ⟨rfl, rfl⟩
      go_wp2_with fail
      go_ret
      exact ⟨rfl, rfl⟩
    · have hd : doneC c = 0 := by
        unfold doneC
        rw [if_neg (fun e => e.2 (List.eq_nil_of_length_eq_zero (by omega))), h0]
      rw [hd]
      clear hd h0
      go_enter Try.func72, Try.ntmps72
      go_wp2_with fail
      refine HE.out.mono ?_
      rintro r w1 ⟨rfl, rfl⟩
      go_wp2_with fail
      refine HL.out.mono ?_
      rintro r w1 ⟨rfl, rfl⟩
      go_wp2_with fail
      refine HE.out.mono ?_
      rintro r w1 ⟨rfl, rfl⟩
      go_wp2_with fail
      go_ret
      exact ⟨rfl, rfl⟩
  · have hd : doneC c = c.e := by unfold doneC; rw [if_neg (fun e => h0 e.1)]
    rw [hd]
    have t1 : (c.e == 0) = false := by simpa using h0
    clear hd h0
    generalize c.e = ce at *
    go_enter Try.func72, Try.ntmps72
    go_wp2_with fail
    refine HE.out.mono ?_
    rintro r w1 ⟨rfl, rfl⟩
    go_wp2_with fail
    refine HE.out.mono ?_
    rintro r w1 ⟨rfl, rfl⟩
    go_wp2_with fail
    go_ret
    exact ⟨rfl, rfl⟩
end Go.Proofs.Ytcaocnlchfbeaaa.Cur

/- The walks of what a cursor takes: a byte, a number, a sum, a text. -/
namespace Go.Proofs.Ytcaocnlchfbeaaa.Cur
open Go.RowKit Go.Proofs.Ytcaocnlchfbeaaa.Mk
theorem IH : (Try.prog.info? 35).map (·.size) = some 32 := by kernel_rfl
theorem IHi : (Try.prog.info? 35).map (fun i => (i.zero, i.size, i.bytes)) = some (some (hv (List.replicate 32 0)), 32, 32) := by kernel_rfl
theorem UHs : Try.prog.underlying 39 = some (.slice 35) := by kernel_rfl
theorem UH : Try.prog.underlying 35 = some (.array 32 5) := by kernel_rfl
theorem UB : Try.prog.underlying 5 = some (.int .u8) := by kernel_rfl
theorem IHl {h : List UInt8} (hl : h.length = 32) : (Try.prog.info? 35).map (·.size) = some (hc h).length := by rw [IH, hc_len, hl]
theorem IHa {h : List UInt8} (hl : h.length = 32) : (Try.prog.info? 35).map (·.size) = some (hc h).toArray.size := by rw [IH]; simp [hc_len, hl]
theorem eqH {x y : List UInt8} (hx : x.length = 32) (hy : y.length = 32) : ∀ wx, (binOp .eql 35 (.agg (hc x).toArray) (.agg (hc y).toArray)).run Try.prog wx = .ok (.bool (x == y)) wx :=
  fun wx => run_eql_bytes (P := Try.prog) wx 35 5 32 UH UB Try.sizeOf5 x y hx hy
theorem neH {x y : List UInt8} (hx : x.length = 32) (hy : y.length = 32) : ∀ wx, (binOp .neq 35 (.agg (hc x).toArray) (.agg (hc y).toArray)).run Try.prog wx = .ok (.bool (!(x == y))) wx :=
  fun wx => run_neq_bytes (P := Try.prog) wx 35 5 32 UH UB Try.sizeOf5 x y hx hy
theorem wpList_copy_run {P : Program} {ops : Array Oper} {rest : List Oper} {o : Oper} {a : Act} {w : World} {Q : Exit → Act → World → Prop} (hgd : o.guard = none) (d s : Operand) (t t' : TypeId)
    (ho : o.op = .call { callee := .builtin .copy, args := #[d, s], argTypes := #[t, t'] }) (v u : Value) (hd : a.eval d = v) (hs : a.eval s = u) {v' : Value} {w' : World}
    (hr : (Builtin.copy_ #[t, t'] o.type #[v, u]).run P w = .ok v' w') (h : wpList P ops Q rest (a.put o.dst v') w') : wpList P ops Q (o :: rest) a w := by
  refine wpList_plain hgd fun K hK => ?_
  unfold Oper.wp execOp
  simp only [ho, resolve, invoke, builtin, Sem.run_bind, Sem.run_pure, Result.andThen_ok, List.map_toArray, List.map_cons, List.map_nil, hd, hs, hr]
  exact hK _ _ h
theorem step_copy_run {P : Program} {ops : Array Oper} {o : Oper} {a : Act} {w : World} {K : Act → World → Prop} {Q : Exit → Act → World → Prop} {E : Prop} (hg : o.guard = none) (d s : Operand) (t t' : TypeId)
    (ho : o.op = .call { callee := .builtin .copy, args := #[d, s], argTypes := #[t, t'] }) (v u : Value) (hd : a.eval d = v) (hs : a.eval s = u) {v' : Value} {w' : World}
    (hr : (Builtin.copy_ #[t, t'] o.type #[v, u]).run P w = .ok v' w') (hK : K (a.put o.dst v') w') : if Region.wanted o (yielded ops a.tmps) = true then Oper.wp P o a w K Q else E := by
  rw [if_pos (by simp [Region.wanted, hg])]
  unfold Oper.wp execOp
  simp only [ho, resolve, invoke, builtin, Sem.run_bind, Sem.run_pure, Result.andThen_ok, List.map_toArray, List.map_cons, List.map_nil, hd, hs, hr]
  exact hK
theorem ret_num {a b : Int} {k : IntKind} (h : a = b) : Ending.returned (.int k a) = .returned (.int k b) := by rw [h]
theorem raw1_len (c : C) : (rawC c 1).1.length ≤ 1 := by
  unfold rawC
  split
  · simp
  split
  · simp
  split
  · simp
  · simp
    omega
set_option maxHeartbeats 2000000 in
theorem num_calls (b : Nat) (c : C) (m : Nat) (w : World) (h : CU b c w) (hl : c.b.length ≤ 9223372036854775807) :
    Calls Try.prog 66 #[.pointer (some ⟨b, 0, none⟩), .int .u64 m] w fun r w' => r = .returned (.int .u64 (numC c m).1) ∧ CU b (numC c m).2 w' ∧ CW b w w' := by
  obtain ⟨l, ce⟩ := c
  simp only at hl
  have c0 := h.c0
  have c1 := h.c1
  simp only at c0 c1
  have H := Lib.hid h
  clear h
  by_cases h0 : ce = 0
  · subst h0
    have HT := Lib.hid (fun w => Num.take_calls (ba l) w hl)
    rw [bs_ba] at HT
    have hlt := Num.takeR_lt l
    have hbad := num_bad l m
    have hbig := num_big l m
    have hok := num_ok l m
    have herr := Num.takeR_err l
    generalize Num.takeR l = x at *
    obtain ⟨x, n, e⟩ := x
    simp only at hlt hbad hbig hok
    unfold Num.takeV at HT
    simp only at HT
    by_cases he : e = 0
    · subst he
      by_cases hm : m < x
      · rw [hbig rfl hm]
        have t1 : decide ((m : Int) < (x : Int)) = true := by simpa using hm
        have t2 : decide (m < x) = true := by simpa using hm
        clear hbad hbig hok herr hlt hm
        go_enter Try.func66, Try.ntmps66
        go_wp2_with fail
        refine (HT.out _).mono ?_
        rintro r w1 ⟨rfl, hb1⟩
        have HF := Lib.hid (fail_calls b ⟨l, 0⟩ 3 w1 (H.out.keep hb1))
        rw [fail_some l 3 (by decide)] at HF
        have Hb1 := Lib.hid hb1
        clear hb1
        go_wp2_with fail
        refine HF.out.mono ?_
        rintro r w2 ⟨rfl, h2⟩
        have H2 := Lib.hid h2
        clear h2
        go_wp2_with fail
        go_ret
        exact ⟨rfl, H2.out.1, (But.of_below Hb1.out).trans H2.out.2 (fun _ _ e => e)⟩
      · rw [hok rfl hm]
        have t1 : decide ((m : Int) < (x : Int)) = false := by simpa using hm
        have t2 : decide (m < x) = false := by simpa using hm
        have hn : n ≤ l.length := hlt.2.2.1
        clear hbad hbig hok herr hlt hm
        go_enter Try.func66, Try.ntmps66
        go_wp2_with fail
        refine (HT.out _).mono ?_
        rintro r w1 ⟨rfl, hb1⟩
        have HF := Lib.hid (cut_calls b ⟨l, 0⟩ n w1 (H.out.keep hb1) hl (by omega))
        rw [raw_ok l n hn] at HF
        have Hb1 := Lib.hid hb1
        clear hb1
        go_wp2_with fail
        refine HF.out.mono ?_
        rintro r w2 ⟨rfl, h2⟩
        have H2 := Lib.hid h2
        clear h2
        go_wp2_with fail
        go_ret
        exact ⟨rfl, H2.out.1, (But.of_below Hb1.out).trans H2.out.2 (fun _ _ e => e)⟩
    · rw [hbad he]
      have t1 : ((e : Int) != 0) = true := by simpa using he
      have t2 : ((e : Int) == 0) = false := by simpa using he
      have he2 : (e : Int) ≠ 0 := by omega
      have HE := Lib.hid he2
      clear hbad hbig hok herr he he2
      go_enter Try.func66, Try.ntmps66
      go_wp2_with fail
      refine (HT.out _).mono ?_
      rintro r w1 ⟨rfl, hb1⟩
      have HF := Lib.hid (fail_calls b ⟨l, 0⟩ e w1 (H.out.keep hb1))
      rw [fail_some l e HE.out] at HF
      have Hb1 := Lib.hid hb1
      clear hb1
      go_wp2_with fail
      refine HF.out.mono ?_
      rintro r w2 ⟨rfl, h2⟩
      have H2 := Lib.hid h2
      clear h2
      go_wp2_with fail
      go_ret
      exact ⟨rfl, H2.out.1, (But.of_below Hb1.out).trans H2.out.2 (fun _ _ e => e)⟩
  · have t1 : (ce != 0) = true := by simpa using h0
    rw [num_err ⟨l, ce⟩ m h0]
    go_enter Try.func66, Try.ntmps66
    go_wp2_with fail
    go_ret
    exact ⟨rfl, H.out, But.refl _ _⟩
theorem num_u64 (c : C) (m : Nat) (hm : m ≤ 9223372036854775807) : (numC c m).1 ≤ 9223372036854775807 := Nat.le_trans (num_le c m) hm
set_option maxHeartbeats 2000000 in
theorem text_calls (b : Nat) (c : C) (n : Int) (w : World) (h : CU b c w) (hl : c.b.length ≤ 9223372036854775807) (hn : n ≤ 9223372036854775807) (hn0 : -9223372036854775808 ≤ n) :
    Calls Try.prog 86 #[.pointer (some ⟨b, 0, none⟩), .int .i64 n] w fun r w' => r = .returned (.string (ba (textC c n).1)) ∧ CU b (textC c n).2 w' ∧ CW b w w' := by
  have HN := Lib.hid (num_calls b c (max n 0).toNat w h hl)
  have hm : ((max n 0).toNat : Int) = max n 0 := Int.toNat_of_nonneg (by omega)
  rw [hm] at HN
  have hle := num_u64 c (max n 0).toNat (by omega)
  have hlen := num_len c (max n 0).toNat
  unfold textC
  clear h hm
  generalize numC c (max n 0).toNat = x at *
  obtain ⟨k, d⟩ := x
  simp only at HN hle hlen ⊢
  by_cases h0 : n < 0
  · have e : max n 0 = 0 := by omega
    rw [e] at HN
    clear e
    go_enter Try.func86, Try.ntmps86
    go_wp2_with fail
    refine HN.out.mono ?_
    rintro r w1 ⟨rfl, h1, hwa⟩
    have HC := Lib.hid (cut_calls b d k w1 h1 (by omega) hle)
    have HA := Lib.hid hwa
    clear h1 hwa
    go_wp2_with fail
    refine HC.out.mono ?_
    rintro r w2 ⟨rfl, h2, hw2⟩
    have H2 := Lib.hid (And.intro h2 hw2)
    clear h2 hw2
    go_wp2_with fail
    go_ret
    exact ⟨rfl, H2.out.1, HA.out.trans H2.out.2 (fun _ _ e => e)⟩
  · have e : max n 0 = n := by omega
    rw [e] at HN
    clear e
    go_enter Try.func86, Try.ntmps86
    go_wp2_with fail
    refine HN.out.mono ?_
    rintro r w1 ⟨rfl, h1, hwa⟩
    have HC := Lib.hid (cut_calls b d k w1 h1 (by omega) hle)
    have HA := Lib.hid hwa
    clear h1 hwa
    go_wp2_with fail
    refine HC.out.mono ?_
    rintro r w2 ⟨rfl, h2, hw2⟩
    have H2 := Lib.hid (And.intro h2 hw2)
    clear h2 hw2
    go_wp2_with fail
    go_ret
    exact ⟨rfl, H2.out.1, HA.out.trans H2.out.2 (fun _ _ e => e)⟩
theorem raw32_len (c : C) : (rawC c 32).1.length ≤ 32 := by
  unfold rawC
  split
  · simp
  split
  · simp
  split
  · simp
  · simp
    omega
theorem hash_len (c : C) : (hashC c).1.length = 32 := by
  have := raw32_len c
  unfold hashC
  simp
  omega
theorem rowByte : (Try.prog.info? 5).map (·.size) = some 1 := by kernel_rfl
theorem zeroH : hc (List.replicate 32 0) = List.replicate 32 (.int .u8 0) := by simp [hc]; rfl
set_option maxHeartbeats 4000000 in
set_option maxRecDepth 100000 in
theorem hash_calls (b : Nat) (c : C) (w : World) (h : CU b c w) (hl : c.b.length ≤ 9223372036854775807) :
    Calls Try.prog 68 #[.pointer (some ⟨b, 0, none⟩)] w fun r w' => r = .returned (hv (hashC c).1) ∧ CU b (hashC c).2 w' ∧ CW b w w' := by
  have hb := h.lt
  have hne : w.heap.size ≠ b := by omega
  have hne1 : w.heap.size + 1 ≠ b := by omega
  have H := Lib.hid h
  have HRa := Lib.hid (fun W (hW : CU b c W) => raw_calls b c 32 W hW hl (by omega))
  have hrl := raw32_len c
  have hlen2 : (hashC c).1.length = 32 := hash_len c
  have hh : hashC c = ((rawC c 32).1 ++ List.replicate (32 - (rawC c 32).1.length) 0, (rawC c 32).2) := rfl
  rw [hh] at hlen2 ⊢
  generalize rawC c 32 = x at *
  obtain ⟨s, d⟩ := x
  clear h hh
  go_enter Try.func68, Try.ntmps68
  go_wp2_with fail
  generalize hW : World.alloc (World.alloc w _) _ = W0
  have z0 : W0.heap[w.heap.size]? = some (.cells (hc (List.replicate 32 0)).toArray 35 (0, 0)) := by
    rw [← hW]
    exact (Below.heap_alloc _ _ _ (by simp)).trans (heap_new w _)
  have z1 : W0.heap[w.heap.size + 1]? = some (.cells (hc (List.replicate 32 0)).toArray 35 (0, 0)) := by
    rw [← hW]
    have := heap_new (w.alloc (.cells (hc (List.replicate 32 0)).toArray 35)) (.cells (hc (List.replicate 32 0)).toArray 35)
    rw [World.size_alloc] at this
    exact this
  have hB0 : Below w.heap.size w W0 := by
    rw [← hW]
    exact ((Below.refl _ _).alloc (Nat.le_refl _) _).alloc (by simp) _
  have hsz : W0.heap.size = w.heap.size + 2 := by rw [← hW]; simp
  clear hW
  have HR := Lib.hid (HRa.out W0.drew (H.out.keep hB0.drew))
  have Z0 := Lib.hid z0
  have Z1 := Lib.hid z1
  have HB0 := Lib.hid hB0
  have Hsz := Lib.hid hsz
  have Hlen2 := Lib.hid hlen2
  clear z0 z1 hB0 hsz hlen2
  have hrow : (((hc (List.replicate 32 0)).toArray.toList.take 0 ++ Lib.byteCells (ba s).data.toList ++ (hc (List.replicate 32 0)).toArray.toList.drop (0 + (ba s).size)).toArray) = (hc (s ++ List.replicate (32 - s.length) 0)).toArray := by
    rw [ba_size, Nat.zero_add, List.take_zero, List.nil_append]
    congr 1
    unfold hc
    rw [List.map_append, List.map_replicate, List.map_replicate, List.drop_replicate]
    rfl
  have HR2 := Lib.hid (HR.out.mono (R' := fun r w1 => r = .returned (.string (ba s)) ∧ Hid (CU b d w1 ∧ CW b W0.drew w1 ∧ w1.heap[w.heap.size]? = some (.cells (hc (List.replicate 32 0)).toArray 35 (0, 0)) ∧ w1.heap[w.heap.size + 1]? = some (.cells (hc (List.replicate 32 0)).toArray 35 (0, 0))) ∧
      Hid ((Builtin.copy_ #[110, 9] 3 #[.slice (some ⟨w.heap.size + 1, 0, none⟩) 32 32, .string (ba s)]).run Try.prog w1 = .ok (goInt (ba s).size) (w1.setRow (w.heap.size + 1) (hc (s ++ List.replicate (32 - s.length) 0)).toArray))) (fun r w1 hx => by
    obtain ⟨he, h1, hw1⟩ := hx
    have y0 : w1.heap[w.heap.size]? = some (.cells (hc (List.replicate 32 0)).toArray 35 (0, 0)) := (hw1.block _ (by show _ < W0.heap.size; rw [Hsz.out]; omega) hne).trans Z0.out
    have y1 : w1.heap[w.heap.size + 1]? = some (.cells (hc (List.replicate 32 0)).toArray 35 (0, 0)) := (hw1.block _ (by show _ < W0.heap.size; rw [Hsz.out]; omega) hne1).trans Z1.out
    have hcp := Lib.run_copy_row_string (P := Try.prog) w1 110 9 3 5 (w.heap.size + 1) 0 32 32 (ba s) _ 35 Try.underlying110 rowByte y1 hrl (by simp [hc_len]; exact hrl)
    rw [hrow] at hcp
    exact ⟨he, Lib.hid ⟨h1, hw1, y0, y1⟩, Lib.hid hcp⟩))
  clear hrow HR
  go_region_law (first | (refine step_copy_run rfl (.tmp 4) (.tmp 6) 110 9 rfl _ _ rfl rfl hcp.out ?_) | (go_simp; go_at_call 92; refine HR2.out.mono ?_; rintro r w1 ⟨rfl, hy, hcp⟩))
  have hx1 : (s ++ List.replicate (32 - s.length) 0).length = 32 := Hlen2.out
  generalize hX : s ++ List.replicate (32 - s.length) 0 = x at *
  have HX := Lib.hid hX
  clear hX
  have i3 := IHa hx1
  have g1 : (w1.setRow (w.heap.size + 1) (hc x).toArray).heap[w.heap.size + 1]? = some (.cells (hc x).toArray 35 (0, 0)) := setRow_heap _ _ _ _ _ _ hy.out.2.2.2
  have g0 : (w1.setRow (w.heap.size + 1) (hc x).toArray).heap[w.heap.size]? = some (.cells (hc (List.replicate 32 0)).toArray 35 (0, 0)) := (setRow_other _ _ _ _ (by omega)).trans hy.out.2.2.1
  have hk1 : ∀ k, k ≠ w.heap.size + 1 → (w1.setRow (w.heap.size + 1) (hc x).toArray).heap[k]? = w1.heap[k]? := fun k hk => setRow_other _ _ _ _ hk
  have hs1 : (w1.setRow (w.heap.size + 1) (hc x).toArray).heap.size = w1.heap.size := by simp [World.setRow]
  have hos : (w1.setRow (w.heap.size + 1) (hc x).toArray).os = w1.os ∧ (w1.setRow (w.heap.size + 1) (hc x).toArray).tape = w1.tape ∧ (w1.setRow (w.heap.size + 1) (hc x).toArray).output = w1.output := ⟨rfl, rfl, rfl⟩
  generalize w1.setRow (w.heap.size + 1) (hc x).toArray = W1 at *
  have G1 := Lib.hid g1
  have G0 := Lib.hid g0
  have HK1 := Lib.hid hk1
  have HS1 := Lib.hid hs1
  have HOS := Lib.hid hos
  have Hx1 := Lib.hid hx1
  clear g1 g0 hk1 hs1 hos hx1 hcp
  go_wp2_with (first | (refine wpList_load_row rfl 35 _ rfl _ rfl _ _ _ _ G1.out UH rfl i3 ?_) | (refine wpList_store_row rfl 35 _ _ rfl w.heap.size (hc x).toArray rfl rfl _ _ G0.out i3 (by simp [hc_len, Hx1.out]) (hc_one _) ?_))
  have r2 : (W1.setRow w.heap.size (hc x).toArray).heap[w.heap.size]? = some (.cells (hc x).toArray 35 (0, 0)) := setRow_heap _ _ _ _ _ _ G0.out
  have hload := run_loadVar_row (P := Try.prog) _ _ 35 35 _ _ _ r2 UH rfl i3
  refine bodyPost_ret (results_cell 2 35 ⟨w.heap.size, 0, none⟩ (hv x) rfl rfl hload) rfl ?_
  obtain ⟨h1, hw1, _, _⟩ := hy.out
  have hk2 : ∀ k, k < w.heap.size → (W1.setRow w.heap.size (hc x).toArray).heap[k]? = w1.heap[k]? := fun k hk => (setRow_other _ _ _ _ (by omega)).trans (HK1.out k (by omega))
  refine ⟨by rw [HX.out], (hk2 b hb).trans h1, ?_⟩
  have hB := HB0.out
  refine ⟨HOS.out.1.trans (hw1.os.trans hB.os), HOS.out.2.1.trans (hw1.tape.trans hB.tape), HOS.out.2.2.trans (hw1.output.trans hB.output), ?_, fun k hk hkb => ?_⟩
  · have e1 : (W1.setRow w.heap.size (hc x).toArray).heap.size = W1.heap.size := by simp [World.setRow]
    have e2 : W0.heap.size ≤ w1.heap.size := hw1.size
    rw [e1, HS1.out]
    have := hB.size
    omega
  · have e3 : w1.heap[k]? = W0.heap[k]? := hw1.block k (by show _ < W0.heap.size; rw [Hsz.out]; omega) hkb
    exact (hk2 k hk).trans (e3.trans (hB.block k hk))
end Go.Proofs.Ytcaocnlchfbeaaa.Cur

/- The walks of the document's cursor (a value). -/
namespace Go.Proofs.Ytcaocnlchfbeaaa.Cur
open Go.RowKit Go.Proofs.Ytcaocnlchfbeaaa.Mk
def cC (c : C) : Array Value := #[.string (ba c.b), .int .i64 c.e]
def cV (c : C) : Value := .agg (cC c)
theorem UC : (Try.prog.underlying 45).map (fun d => match d with | .struct _ | .array _ _ => true | _ => false) = some true := by kernel_rfl
theorem IC : (Try.prog.info? 45).map (·.size) = some 2 := by kernel_rfl
theorem load_C {w : World} {g : Nat} {a b : Value} {fr : Nat × Nat} {t : TypeId} (h : w.heap[g]? = some (.cells #[a, b] t fr)) : (loadVar 45 ⟨g, 0, none⟩).run Try.prog w = .ok (.agg #[a, b]) w := by
  obtain ⟨d, hd, hr⟩ := Option.map_eq_some_iff.1 UC
  exact run_loadVar_row (P := Try.prog) w g t _ _ _ d h hd (by cases d <;> simp_all) (by rw [IC]; rfl)
theorem heap_new2 (w : World) (o1 o2 : Obj) : ((w.alloc o1).alloc o2).heap[w.heap.size + 1]? = some o2 := by
  have := heap_new (w.alloc o1) o2
  rwa [World.size_alloc] at this
theorem heap_new1 (w : World) (o1 o2 : Obj) : ((w.alloc o1).alloc o2).heap[w.heap.size]? = some o1 := (Below.heap_alloc _ _ _ (by simp)).trans (heap_new w o1)
theorem below2 (w : World) (o1 o2 : Obj) : Below w.heap.size w ((w.alloc o1).alloc o2) := ((Below.refl _ _).alloc (Nat.le_refl _) _).alloc (by simp) _
set_option maxHeartbeats 2000000 in
theorem rfail_calls (c : C) (e : Int) (w : World) :
    Calls Try.prog 75 #[cV c, .int .i64 e] w fun r w' => r = .returned (cV (failC c e)) ∧ Below w.heap.size w w' := by
  obtain ⟨l, ce⟩ := c
  by_cases h0 : ce = 0
  · by_cases he : e = 0
    · subst h0 he
      rw [show failC ⟨l, 0⟩ 0 = ⟨l, 0⟩ from by simp [failC]]
      unfold cV cC
      go_enter Try.func75, Try.ntmps75
      go_wp2_with fail
      exact bodyPost_ret (results_cell 4 45 ⟨w.heap.size + 1, 0, none⟩ _ rfl rfl (load_C (heap_new2 _ _ _))) rfl ⟨rfl, below2 _ _ _⟩
    · subst h0
      rw [fail_some l e he]
      have t1 : (e != 0) = true := by simpa using he
      unfold cV cC
      rw [ba_nil]
      go_enter Try.func75, Try.ntmps75
      go_wp2_with fail
      exact bodyPost_ret (results_cell 4 45 ⟨w.heap.size + 1, 0, none⟩ _ rfl rfl (load_C (heap_new2 _ _ _))) rfl ⟨rfl, below2 _ _ _⟩
  · rw [fail_kept ⟨l, ce⟩ e h0]
    have t1 : (ce == 0) = false := by simpa using h0
    unfold cV cC
    go_enter Try.func75, Try.ntmps75
    go_wp2_with fail
    exact bodyPost_ret (results_cell 4 45 ⟨w.heap.size + 1, 0, none⟩ _ rfl rfl (load_C (heap_new2 _ _ _))) rfl ⟨rfl, below2 _ _ _⟩
set_option maxHeartbeats 2000000 in
theorem rdone_calls (c : C) (w : World) :
    Calls Try.prog 73 #[cV c] w fun r w' => r = .returned (.int .i64 (doneC c)) ∧ Below w.heap.size w w' := by
  obtain ⟨l, ce⟩ := c
  by_cases h0 : ce = 0
  · subst h0
    by_cases h1 : l = []
    · subst h1
      rw [show doneC ⟨[], 0⟩ = 0 from by simp [doneC]]
      unfold cV cC
      rw [ba_nil]
      go_enter Try.func73, Try.ntmps73
      go_wp2_with fail
      go_ret
      exact ⟨rfl, (Below.refl _ _).alloc (Nat.le_refl _) _⟩
    · rw [show doneC ⟨l, 0⟩ = 2 from by simp [doneC, h1]]
      have ht : (ba l).toList.isEmpty = false := by rw [bs_toList, bs_ba]; simpa using h1
      unfold cV cC
      generalize ba l = s at *
      go_enter Try.func73, Try.ntmps73
      go_wp2_with fail
      go_ret
      exact ⟨rfl, (Below.refl _ _).alloc (Nat.le_refl _) _⟩
  · rw [show doneC ⟨l, ce⟩ = ce from by simp [doneC, h0]]
    have t1 : (ce == 0) = false := by simpa using h0
    unfold cV cC
    go_enter Try.func73, Try.ntmps73
    go_wp2_with fail
    go_ret
    exact ⟨rfl, (Below.refl _ _).alloc (Nat.le_refl _) _⟩
def zC : Array Value := #[.string ⟨#[]⟩, .int .i64 0]
theorem IC' (a b : Value) : (Try.prog.info? 45).map (·.size) = some (#[a, b] : Array Value).size := by rw [IC]; rfl
theorem oneC (s : ByteArray) (e : Int) : (#[.string s, .int .i64 e] : Array Value).all (·.oneCell') = true := by simp [Value.oneCell']
/-- a store of a whole C into a block that was laid ahead -/
theorem setRow_below {w w' : World} {g : Nat} {cs : Array Value} (h : Below w.heap.size w w') (hg : w.heap.size ≤ g) : Below w.heap.size w (w'.setRow g cs) :=
  ⟨h.os, h.tape, h.output, by simpa [World.setRow] using h.size, fun k hk => (setRow_other _ _ _ _ (by omega)).trans (h.block k hk)⟩
set_option maxHeartbeats 4000000 in
theorem rraw_calls (c : C) (n : Int) (w : World) (hl : c.b.length ≤ 9223372036854775807) (hn : n ≤ 9223372036854775807) :
    Calls Try.prog 88 #[cV c, .int .i64 n] w fun r w' => r = .returned (.tuple #[.string (ba (rawC c n).1), cV (rawC c n).2]) ∧ Below w.heap.size w w' := by
  by_cases hneg : n < 0
  · rw [raw_neg c n hneg, ba_nil]
    have HF := Lib.hid (fun w => rfail_calls c 3 w)
    generalize failC c 3 = d at *
    unfold cV cC at *
    go_enter Try.func88, Try.ntmps88
    go_wp2_with fail
    refine (HF.out _).mono ?_
    rintro r w1 ⟨rfl, hb1⟩
    have y1 : w1.heap[w.heap.size + 1]? = some (.cells zC 45 (0, 0)) := (hb1.block _ (by simp)).trans (heap_new2 _ _ _)
    have HB := Lib.hid (below_up (below2 _ _ _) hb1)
    clear hb1
    have Y1 := Lib.hid y1
    clear y1
    go_wp2_with (first | (refine wpList_store_row rfl 45 _ _ rfl (w.heap.size + 1) #[.string (ba d.b), .int .i64 d.e] rfl rfl _ _ Y1.out (IC' _ _) rfl (oneC _ _) ?_))
    exact bodyPost_ret (results_tmp_cell 4 5 45 ⟨w.heap.size + 1, 0, none⟩ _ rfl rfl (load_C (setRow_heap _ _ _ _ _ _ Y1.out))) rfl ⟨rfl, setRow_below HB.out (by omega)⟩
  · obtain ⟨m, rfl⟩ := Int.eq_ofNat_of_zero_le (Int.not_lt.1 hneg)
    obtain ⟨l, ce⟩ := c
    by_cases h0 : ce = 0
    · subst h0
      simp only at hl
      have hsz : (ba l).size = l.length := rfl
      by_cases hlen : m ≤ l.length
      · rw [raw_ok l m hlen]
        unfold cV cC
        rw [← take_extract, ← drop_extract l m (ba l).size rfl]
        have t1 : decide (((ba l).size : Int) < (m : Int)) = false := by rw [hsz]; simp; omega
        have t2 : decide ((ba l).size < m) = false := by rw [hsz]; simp; omega
        have t3 : m ≤ (ba l).size := by rw [hsz]; exact hlen
        clear hsz hlen
        generalize ba l = s at *
        go_enter Try.func88, Try.ntmps88
        go_wp2_with fail
        go_region
        all_goals go_wp2_with fail
        exact bodyPost_ret (results_tmp_cell 4 5 45 ⟨w.heap.size + 1, 0, none⟩ _ rfl rfl (load_C (heap_new2 _ _ _))) rfl ⟨rfl, (below2 _ _ _).drew⟩
      · rw [raw_short l m (by omega), ba_nil]
        have HF := Lib.hid (fun w => rfail_calls ⟨l, 0⟩ 1 w)
        rw [fail_some l 1 (by decide)] at HF
        unfold cV cC at HF
        simp only [ba_nil] at HF
        have t1 : decide (((ba l).size : Int) < (m : Int)) = true := by rw [hsz]; simp; omega
        have t2 : decide ((ba l).size < m) = true := by rw [hsz]; simp; omega
        clear hsz hlen
        unfold cV cC
        simp only [ba_nil]
        generalize ba l = s at *
        go_enter Try.func88, Try.ntmps88
        go_wp2_with fail
        refine (HF.out _).mono ?_
        rintro r w1 ⟨rfl, hb1⟩
        have y1 : w1.heap[w.heap.size + 1]? = some (.cells zC 45 (0, 0)) := (hb1.block _ (by simp)).trans (heap_new2 _ _ _)
        have HB := Lib.hid (below_up (below2 _ _ _) hb1)
        clear hb1
        have Y1 := Lib.hid y1
        clear y1
        go_wp2_with (first | (refine wpList_store_row rfl 45 _ _ rfl (w.heap.size + 1) #[.string ⟨#[]⟩, .int .i64 1] rfl rfl _ _ Y1.out (IC' _ _) rfl (oneC _ _) ?_))
        exact bodyPost_ret (results_tmp_cell 4 5 45 ⟨w.heap.size + 1, 0, none⟩ _ rfl rfl (load_C (setRow_heap _ _ _ _ _ _ Y1.out))) rfl ⟨rfl, setRow_below HB.out (by omega)⟩
    · have t1 : (ce != 0) = true := by simpa using h0
      rw [raw_err l ce m h0, ba_nil]
      unfold cV cC
      go_enter Try.func88, Try.ntmps88
      go_wp2_with fail
      go_region
      all_goals go_wp2_with fail
      exact bodyPost_ret (results_tmp_cell 4 5 45 ⟨w.heap.size + 1, 0, none⟩ _ rfl rfl (load_C (heap_new2 _ _ _))) rfl ⟨rfl, (below2 _ _ _).drew⟩
end Go.Proofs.Ytcaocnlchfbeaaa.Cur

/- The walks of the document's cursor (a value): Num and Text. -/
namespace Go.Proofs.Ytcaocnlchfbeaaa.Cur
open Go.RowKit Go.Proofs.Ytcaocnlchfbeaaa.Mk
theorem set_two {w1 : World} {g : Nat} {t : TypeId} {x y : Value} (h : w1.heap[g]? = some (.cells #[x, y] t (0, 0))) (a b : Value) :
    ((w1.setCell ⟨g, 0, none⟩ a).setCell ⟨g, 1, none⟩ b).heap[g]? = some (.cells #[a, b] t (0, 0)) := by
  simp [World.setCell, Array.getElem?_modify, h]
set_option maxHeartbeats 4000000 in
theorem rnum_calls (c : C) (m : Nat) (w : World) (hl : c.b.length ≤ 9223372036854775807) :
    Calls Try.prog 61 #[cV c, .int .u64 m] w fun r w' => r = .returned (.tuple #[.int .u64 (numC c m).1, cV (numC c m).2]) ∧ Below w.heap.size w w' := by
  obtain ⟨l, ce⟩ := c
  simp only at hl
  by_cases h0 : ce = 0
  · subst h0
    have HT := Lib.hid (fun w => Num.rtake_calls (ba l) w hl)
    rw [bs_ba] at HT
    have hlt := Num.takeR_lt l
    have hbad := num_bad l m
    have hbig := num_big l m
    have hok := num_ok l m
    generalize Num.takeR l = x at *
    obtain ⟨x, n, e⟩ := x
    simp only at hlt hbad hbig hok
    unfold Num.takeV at HT
    simp only at HT
    by_cases he : e = 0
    · subst he
      by_cases hm : m < x
      · rw [hbig rfl hm]
        have t1 : decide ((m : Int) < (x : Int)) = true := by simpa using hm
        have t2 : decide (m < x) = true := by simpa using hm
        have HF := Lib.hid (fun w => rfail_calls ⟨l, 0⟩ 3 w)
        rw [fail_some l 3 (by decide)] at HF
        unfold cV cC at HF ⊢
        simp only [ba_nil] at HF ⊢
        clear hbad hbig hok hlt hm
        go_enter Try.func61, Try.ntmps61
        go_wp2_with fail
        refine (HT.out _).mono ?_
        rintro r w1 ⟨rfl, hb1⟩
        have hb1' := below_up (below2 _ _ _) hb1
        have y0 : w1.heap[w.heap.size]? = _ := (hb1.block _ (by simp; omega)).trans (heap_new1 _ _ _)
        have c0 : w1.cell? ⟨w.heap.size, 0, none⟩ = some (.string (ba l)) := by rw [cell_of_row _ _ _ _ _ _ y0]; rfl
        have c1 : w1.cell? ⟨w.heap.size, 1, none⟩ = some (.int .i64 0) := by rw [cell_of_row _ _ _ _ _ _ y0]; rfl
        have Y1 := Lib.hid (show w1.heap[w.heap.size + 1]? = some (.cells zC 45 (0, 0)) from (hb1.block _ (by simp)).trans (heap_new2 _ _ _))
        have HB1 := Lib.hid hb1'
        clear hb1 hb1' y0
        go_wp2_with fail
        refine (HF.out _).mono ?_
        rintro r w2 ⟨rfl, hb2⟩
        have hlt1 : w.heap.size + 1 < w1.heap.size := (Array.getElem?_eq_some_iff.1 Y1.out).1
        have Y2 := Lib.hid ((hb2.block _ hlt1).trans Y1.out)
        have HB2 := Lib.hid (below_up HB1.out hb2)
        clear hb2 hlt1
        go_wp2_with (first | (refine wpList_store_row rfl 45 _ _ rfl (w.heap.size + 1) #[.string ⟨#[]⟩, .int .i64 3] rfl rfl _ _ Y2.out (IC' _ _) rfl (oneC _ _) ?_))
        exact bodyPost_ret (results_tmp_cell 4 5 45 ⟨w.heap.size + 1, 0, none⟩ _ rfl rfl (load_C (setRow_heap _ _ _ _ _ _ Y2.out))) rfl ⟨rfl, setRow_below HB2.out (by omega)⟩
      · rw [hok rfl hm]
        have t1 : decide ((m : Int) < (x : Int)) = false := by simpa using hm
        have t2 : decide (m < x) = false := by simpa using hm
        have hn : n ≤ l.length := hlt.2.2.1
        have t3 : n ≤ (ba l).size := hn
        unfold cV cC
        rw [← drop_extract l n (ba l).size rfl]
        clear hbad hbig hok hlt hm hn
        generalize ba l = s at *
        go_enter Try.func61, Try.ntmps61
        go_wp2_with fail
        refine (HT.out _).mono ?_
        rintro r w1 ⟨rfl, hb1⟩
        have hb1' := below_up (below2 _ _ _) hb1
        have y0 : w1.heap[w.heap.size]? = _ := (hb1.block _ (by simp; omega)).trans (heap_new1 _ _ _)
        have c0 : w1.cell? ⟨w.heap.size, 0, none⟩ = some (.string s) := by rw [cell_of_row _ _ _ _ _ _ y0]; rfl
        have c1 : w1.cell? ⟨w.heap.size, 1, none⟩ = some (.int .i64 0) := by rw [cell_of_row _ _ _ _ _ _ y0]; rfl
        have Y1 := Lib.hid (show w1.heap[w.heap.size + 1]? = some (.cells zC 45 (0, 0)) from (hb1.block _ (by simp)).trans (heap_new2 _ _ _))
        have HB1 := Lib.hid hb1'
        clear hb1 hb1' y0
        go_wp2_with fail
        have d0 : w1.cell? ⟨w.heap.size + 1, 0, none⟩ = some (.string ⟨#[]⟩) := by rw [cell_of_row _ _ _ _ _ _ Y1.out]; rfl
        have d1 : w1.cell? ⟨w.heap.size + 1, 1, none⟩ = some (.int .i64 0) := by rw [cell_of_row _ _ _ _ _ _ Y1.out]; rfl
        have f0 : w1.frozen? ⟨w.heap.size + 1, 0, none⟩ = false := by simp [World.frozen?, Y1.out]
        have f1 : w1.frozen? ⟨w.heap.size + 1, 1, none⟩ = false := by simp [World.frozen?, Y1.out]
        go_region
        all_goals go_wp2_with fail
        have g1 : ∀ a b : Value, ((w1.setCell ⟨w.heap.size + 1, 0, none⟩ a).setCell ⟨w.heap.size + 1, 1, none⟩ b).drew.heap[w.heap.size + 1]? = some (.cells #[a, b] 45 (0, 0)) := fun a b => set_two Y1.out a b
        exact bodyPost_ret (results_tmp_cell 4 5 45 ⟨w.heap.size + 1, 0, none⟩ _ rfl rfl (load_C (g1 _ _))) rfl ⟨rfl, ((HB1.out.setCell (p := ⟨w.heap.size + 1, 0, none⟩) (by simp) _).setCell (p := ⟨w.heap.size + 1, 1, none⟩) (by simp) _).drew⟩
    · rw [hbad he]
      have t1 : ((e : Int) != 0) = true := by simpa using he
      have t2 : ((e : Int) == 0) = false := by simpa using he
      have he2 : (e : Int) ≠ 0 := by omega
      have HF := Lib.hid (fun w => rfail_calls ⟨l, 0⟩ e w)
      rw [fail_some l e he2] at HF
      unfold cV cC at HF ⊢
      simp only [ba_nil] at HF ⊢
      clear hbad hbig hok he he2
      go_enter Try.func61, Try.ntmps61
      go_wp2_with fail
      refine (HT.out _).mono ?_
      rintro r w1 ⟨rfl, hb1⟩
      have hb1' := below_up (below2 _ _ _) hb1
      have y0 : w1.heap[w.heap.size]? = _ := (hb1.block _ (by simp; omega)).trans (heap_new1 _ _ _)
      have c0 : w1.cell? ⟨w.heap.size, 0, none⟩ = some (.string (ba l)) := by rw [cell_of_row _ _ _ _ _ _ y0]; rfl
      have c1 : w1.cell? ⟨w.heap.size, 1, none⟩ = some (.int .i64 0) := by rw [cell_of_row _ _ _ _ _ _ y0]; rfl
      have Y1 := Lib.hid (show w1.heap[w.heap.size + 1]? = some (.cells zC 45 (0, 0)) from (hb1.block _ (by simp)).trans (heap_new2 _ _ _))
      have HB1 := Lib.hid hb1'
      clear hb1 hb1' y0
      go_wp2_with fail
      refine (HF.out _).mono ?_
      rintro r w2 ⟨rfl, hb2⟩
      have hlt1 : w.heap.size + 1 < w1.heap.size := (Array.getElem?_eq_some_iff.1 Y1.out).1
      have Y2 := Lib.hid ((hb2.block _ hlt1).trans Y1.out)
      have HB2 := Lib.hid (below_up HB1.out hb2)
      clear hb2 hlt1
      go_wp2_with (first | (refine wpList_store_row rfl 45 _ _ rfl (w.heap.size + 1) #[.string ⟨#[]⟩, .int .i64 e] rfl rfl _ _ Y2.out (IC' _ _) rfl (oneC _ _) ?_))
      exact bodyPost_ret (results_tmp_cell 4 5 45 ⟨w.heap.size + 1, 0, none⟩ _ rfl rfl (load_C (setRow_heap _ _ _ _ _ _ Y2.out))) rfl ⟨rfl, setRow_below HB2.out (by omega)⟩
  · have t1 : (ce != 0) = true := by simpa using h0
    rw [num_err ⟨l, ce⟩ m h0]
    unfold cV cC
    go_enter Try.func61, Try.ntmps61
    go_wp2_with fail
    go_region
    all_goals go_wp2_with fail
    exact bodyPost_ret (results_tmp_cell 4 5 45 ⟨w.heap.size + 1, 0, none⟩ _ rfl rfl (load_C (heap_new2 _ _ _))) rfl ⟨rfl, (below2 _ _ _).drew⟩
set_option maxHeartbeats 4000000 in
theorem rtext_calls (c : C) (n : Int) (w : World) (hl : c.b.length ≤ 9223372036854775807) (hn : n ≤ 9223372036854775807) (hn0 : -9223372036854775808 ≤ n) :
    Calls Try.prog 87 #[cV c, .int .i64 n] w fun r w' => r = .returned (.tuple #[.string (ba (textC c n).1), cV (textC c n).2]) ∧ Below w.heap.size w w' := by
  have HN := Lib.hid (fun w => rnum_calls c (max n 0).toNat w hl)
  have hm : ((max n 0).toNat : Int) = max n 0 := Int.toNat_of_nonneg (by omega)
  rw [hm] at HN
  have hle := num_u64 c (max n 0).toNat (by omega)
  have hlen := num_len c (max n 0).toNat
  unfold textC
  clear hm
  generalize numC c (max n 0).toNat = x at *
  obtain ⟨k, d⟩ := x
  simp only at HN hle hlen ⊢
  have HR := Lib.hid (fun w => rraw_calls d k w (by omega) (by omega))
  generalize rawC d k = y at *
  unfold cV cC at *
  by_cases h0 : n < 0
  · have e : max n 0 = 0 := by omega
    rw [e] at HN
    clear e
    go_enter Try.func87, Try.ntmps87
    go_wp2_with fail
    refine (HN.out _).mono ?_
    rintro r w1 ⟨rfl, hb1⟩
    have Y1 := Lib.hid (show w1.heap[w.heap.size + 1]? = some (.cells zC 45 (0, 0)) from (hb1.block _ (by simp)).trans (heap_new2 _ _ _))
    have HB1 := Lib.hid (below_up (below2 _ _ _) hb1)
    clear hb1
    go_wp2_with fail
    refine (HR.out _).mono ?_
    rintro r w2 ⟨rfl, hb2⟩
    have hlt1 : w.heap.size + 1 < w1.heap.size := (Array.getElem?_eq_some_iff.1 Y1.out).1
    have Y2 := Lib.hid (((hb2.block _ (by simp; omega)).trans (Below.heap_alloc _ _ _ hlt1)).trans Y1.out)
    have HB2 := Lib.hid (below_up (HB1.out.alloc HB1.out.size _) hb2)
    clear hb2 hlt1
    go_wp2_with (first | (refine wpList_store_row rfl 45 _ _ rfl (w.heap.size + 1) #[.string (ba y.2.b), .int .i64 y.2.e] rfl rfl _ _ Y2.out (IC' _ _) rfl (oneC _ _) ?_))
    exact bodyPost_ret (results_tmp_cell 4 5 45 ⟨w.heap.size + 1, 0, none⟩ _ rfl rfl (load_C (setRow_heap _ _ _ _ _ _ Y2.out))) rfl ⟨rfl, setRow_below HB2.out (by omega)⟩
  · have e : max n 0 = n := by omega
    rw [e] at HN
    clear e
    go_enter Try.func87, Try.ntmps87
    go_wp2_with fail
    refine (HN.out _).mono ?_
    rintro r w1 ⟨rfl, hb1⟩
    have Y1 := Lib.hid (show w1.heap[w.heap.size + 1]? = some (.cells zC 45 (0, 0)) from (hb1.block _ (by simp)).trans (heap_new2 _ _ _))
    have HB1 := Lib.hid (below_up (below2 _ _ _) hb1)
    clear hb1
    go_wp2_with fail
    refine (HR.out _).mono ?_
    rintro r w2 ⟨rfl, hb2⟩
    have hlt1 : w.heap.size + 1 < w1.heap.size := (Array.getElem?_eq_some_iff.1 Y1.out).1
    have Y2 := Lib.hid (((hb2.block _ (by simp; omega)).trans (Below.heap_alloc _ _ _ hlt1)).trans Y1.out)
    have HB2 := Lib.hid (below_up (HB1.out.alloc HB1.out.size _) hb2)
    clear hb2 hlt1
    go_wp2_with (first | (refine wpList_store_row rfl 45 _ _ rfl (w.heap.size + 1) #[.string (ba y.2.b), .int .i64 y.2.e] rfl rfl _ _ Y2.out (IC' _ _) rfl (oneC _ _) ?_))
    exact bodyPost_ret (results_tmp_cell 4 5 45 ⟨w.heap.size + 1, 0, none⟩ _ rfl rfl (load_C (setRow_heap _ _ _ _ _ _ Y2.out))) rfl ⟨rfl, setRow_below HB2.out (by omega)⟩
end Go.Proofs.Ytcaocnlchfbeaaa.Cur

/- The walk of the document's cursor (a value): Hash. -/
namespace Go.Proofs.Ytcaocnlchfbeaaa.Cur
open Go.RowKit Go.Proofs.Ytcaocnlchfbeaaa.Mk
theorem loadAt_C {w : World} {g : Nat} {a b : Value} {fr : Nat × Nat} {t : TypeId} (h : w.heap[g]? = some (.cells #[a, b] t fr)) : (Instr.loadAt 45 (.pointer (some ⟨g, 0, none⟩))).run Try.prog w = .ok (.agg #[a, b]) w := by
  simp only [Instr.loadAt, Instr.sureAddr, Sem.run_bind, Sem.run_pure, Result.andThen_ok, load_C h]
/-- k bytes of s over zeros -/
def part (s : List UInt8) (k : Nat) : List UInt8 := s.take k ++ List.replicate (32 - k) 0
theorem part_len (s : List UInt8) (k : Nat) (hs : s.length ≤ 32) (hk : k ≤ s.length) : (part s k).length = 32 := by
  unfold part
  rw [List.length_append, List.length_take, List.length_replicate]
  omega
theorem part_set (s : List UInt8) (k : Nat) (hs : s.length ≤ 32) (h : k < s.length) : (hc (part s k)).set k (.int .u8 (s[k].toNat : Int)) = hc (part s (k + 1)) := by
  have e : (part s k).set k s[k] = part s (k + 1) := by
    unfold part
    have e2 : List.replicate (32 - k) (0 : UInt8) = 0 :: List.replicate (32 - (k + 1)) 0 := by
      rw [show 32 - k = (32 - (k + 1)) + 1 by omega, List.replicate_succ]
    have e3 : (s.take k).length = k := by rw [List.length_take]; omega
    rw [List.take_succ_eq_append_getElem h, e2, List.set_append_right _ _ (by omega), e3, Nat.sub_self]
    simp only [List.set_cons_zero, List.append_assoc, List.cons_append, List.nil_append]
  rw [← e]
  unfold hc
  rw [List.map_set]
  rfl
set_option maxHeartbeats 4000000 in
set_option maxRecDepth 100000 in
theorem rhash_calls (c : C) (w : World) (hl : c.b.length ≤ 9223372036854775807) :
    Calls Try.prog 63 #[cV c] w fun r w' => r = .returned (.tuple #[hv (hashC c).1, cV (hashC c).2]) ∧ Below w.heap.size w w' := by
  have HR := Lib.hid (fun w => rraw_calls c 32 w hl (by omega))
  have hrl := raw32_len c
  have hlen2 : (hashC c).1.length = 32 := hash_len c
  have hh : hashC c = ((rawC c 32).1 ++ List.replicate (32 - (rawC c 32).1.length) 0, (rawC c 32).2) := rfl
  rw [hh] at hlen2 ⊢
  generalize rawC c 32 = x at *
  obtain ⟨s, d⟩ := x
  clear hh
  unfold cV cC at *
  go_enter Try.func63, Try.ntmps63
  go_wp2_with fail
  refine (HR.out _).mono ?_
  rintro r w1 ⟨rfl, hb1⟩
  have HB1 := Lib.hid hb1
  clear hb1
  go_wp2_with fail
  generalize hW : World.alloc (World.alloc w1 _) _ = W1
  have q0 : Hid (W1.heap[w1.heap.size]? = some (.cells #[.string (ba d.b), .int .i64 d.e] 45 (0, 0)) ∧ W1.heap[w1.heap.size + 1]? = some (.cells (hc (part s 0)).toArray 35 (0, 0)) ∧
      W1.heap[w.heap.size + 1]? = some (.cells (hc (List.replicate 32 0)).toArray 35 (0, 0)) ∧ W1.heap[w.heap.size + 2]? = some (.cells zC 45 (0, 0)) ∧ Below w.heap.size w W1 ∧ w.heap.size + 3 ≤ w1.heap.size) := by
    have hb1 := HB1.out
    have hs1 : w.heap.size + 3 ≤ w1.heap.size := by have := hb1.size; simp at this; omega
    rw [← hW]
    refine Lib.hid ⟨heap_new1 _ _ _, heap_new2 _ _ _, ?_, ?_, ?_, hs1⟩
    · refine (Below.heap_alloc _ _ _ (by simp <;> omega)).trans ((Below.heap_alloc _ _ _ (by omega)).trans ((hb1.block _ (by simp <;> omega)).trans ?_))
      exact (Below.heap_alloc _ _ _ (by simp)).trans (heap_new2 _ _ _)
    · refine (Below.heap_alloc _ _ _ (by simp <;> omega)).trans ((Below.heap_alloc _ _ _ (by omega)).trans ((hb1.block _ (by simp)).trans ?_))
      have h3 := heap_new ((w.alloc (.cells #[.string (ba c.b), .int .i64 c.e] 45)).alloc (.cells (hc (List.replicate 32 0)).toArray 35)) (.cells zC 45)
      rw [World.size_alloc, World.size_alloc] at h3
      exact h3
    · exact ((below_up ((below2 _ _ _).alloc (by simp <;> omega) _) hb1).alloc (by omega) _).alloc (by simp <;> omega) _
  clear hW HB1
  have hlen : (ba s).size = s.length := rfl
  have Hlen := Lib.hid hlen
  have HL2 := Lib.hid hlen2
  clear hlen hlen2
  go_loopw [7] (fun s7 wr => ∃ k : Nat, k ≤ s.length ∧ s7 = .int .i64 k ∧ Hid (wr.heap[w1.heap.size]? = some (.cells #[.string (ba d.b), .int .i64 d.e] 45 (0, 0)) ∧ wr.heap[w1.heap.size + 1]? = some (.cells (hc (part s k)).toArray 35 (0, 0)) ∧
      wr.heap[w.heap.size + 1]? = some (.cells (hc (List.replicate 32 0)).toArray 35 (0, 0)) ∧ wr.heap[w.heap.size + 2]? = some (.cells zC 45 (0, 0)) ∧ Below w.heap.size w wr ∧ w.heap.size + 3 ≤ w1.heap.size)) (fun s7 _ => s.length - (intOf s7).toNat)
  case atStart => exact ⟨0, by omega, rfl, q0⟩
  case round =>
    obtain ⟨k, hk, rfl, hq⟩ := hrel
    by_cases hkl : k < s.length
    · obtain ⟨h1, h2, h3, h4, h5, h6⟩ := hq.out
      have hsz : (ba s).size = s.length := Hlen.out
      have hks : k < (ba s).size := by rw [hsz]; exact hkl
      have hpl := part_len s k hrl hk
      have hset := part_set s k hrl hkl
      obtain ⟨z, hz⟩ : ∃ z, (hc (part s k))[k]? = some z := ⟨_, List.getElem?_eq_getElem (by rw [hc_len]; omega)⟩
      have d0 : wr.cell? ⟨w1.heap.size + 1, k, none⟩ = some z := by rw [cell_of_row _ _ _ _ _ _ h2, List.getElem?_toArray]; exact hz
      have f0 : wr.frozen? ⟨w1.heap.size + 1, k, none⟩ = false := by simp [World.frozen?, h2]
      have hnew := Lib.hid (show (wr.setCell ⟨w1.heap.size + 1, k, none⟩ (.int .u8 (s[k].toNat : Int))).heap[w1.heap.size]? = _ ∧ (wr.setCell ⟨w1.heap.size + 1, k, none⟩ (.int .u8 (s[k].toNat : Int))).heap[w1.heap.size + 1]? = some (.cells (hc (part s (k + 1))).toArray 35 (0, 0)) ∧
        (wr.setCell ⟨w1.heap.size + 1, k, none⟩ (.int .u8 (s[k].toNat : Int))).heap[w.heap.size + 1]? = _ ∧ (wr.setCell ⟨w1.heap.size + 1, k, none⟩ (.int .u8 (s[k].toNat : Int))).heap[w.heap.size + 2]? = _ ∧ Below w.heap.size w (wr.setCell ⟨w1.heap.size + 1, k, none⟩ (.int .u8 (s[k].toNat : Int))) ∧ w.heap.size + 3 ≤ w1.heap.size from
        ⟨(Below.heap_setCell _ _ _ _ (by simp)).trans h1, by rw [← hset]; simp [World.setCell, Array.getElem?_modify, h2]; rfl, (Below.heap_setCell _ _ _ _ (by simp <;> omega)).trans h3, (Below.heap_setCell _ _ _ _ (by simp <;> omega)).trans h4, h5.setCell (p := ⟨w1.heap.size + 1, k, none⟩) (by simp <;> omega) _, h6⟩)
      have hx : (ba s)[k] = s[k] := rfl
      have i1 : ¬ (k : Int) < 0 := by omega
      have hk32 : k < 32 := by omega
      clear h1 h2 h3 h4 h5 h6 hset hpl hz hq hsz
      go_wp2_with fail
      go_roundw
      case rel => exact ⟨k + 1, by omega, by go_num, hnew⟩
      case measure => simp [intOf] <;> omega
    · obtain rfl : k = s.length := by omega
      have hp : part s s.length = s ++ List.replicate (32 - s.length) 0 := by unfold part; rw [List.take_of_length_le (Nat.le_refl _)]
      rw [hp] at hq
      clear hp
      have hx1 : (s ++ List.replicate (32 - s.length) 0).length = 32 := HL2.out
      generalize hX : s ++ List.replicate (32 - s.length) 0 = x at *
      have HX := Lib.hid hX
      clear hX
      have i3 := IHa hx1
      have Hx1 := Lib.hid hx1
      clear hx1
      have hlen := Hlen.out
      have hq2 := hq
      obtain ⟨h1, h2, h3, h4, h5, h6⟩ := hq.out
      have K2 : wr.drew.heap = wr.heap := rfl
      have LA := Lib.hid (run_loadAt_row (P := Try.prog) wr.drew (w1.heap.size + 1) 35 35 _ _ _ h2 UH rfl i3)
      have SA := Lib.hid (run_storeAt_row (P := Try.prog) (w := wr.drew) (ty := 35) (cells := (hc x).toArray) h3 i3 (by simp [hc_len, Hx1.out]) (hc_one _))
      have LC := Lib.hid (loadAt_C (w := wr.drew) h1)
      have h1' : (wr.drew.setRow (w.heap.size + 1) (hc x).toArray).heap[w1.heap.size]? = some (.cells #[.string (ba d.b), .int .i64 d.e] 45 (0, 0)) := (setRow_other _ _ _ _ (by omega)).trans h1
      have LC2 := Lib.hid (loadAt_C h1')
      have h4' : (wr.drew.setRow (w.heap.size + 1) (hc x).toArray).heap[w.heap.size + 2]? = some (.cells zC 45 (0, 0)) := (setRow_other _ _ _ _ (by omega)).trans h4
      have SC := Lib.hid (run_storeAt_row (P := Try.prog) (ty := 45) (cells := #[.string (ba d.b), .int .i64 d.e]) h4' (IC' _ _) rfl (oneC _ _))
      have RA := Lib.hid (run_loadVar_row (P := Try.prog) ((wr.drew.setRow (w.heap.size + 1) (hc x).toArray).setRow (w.heap.size + 2) #[.string (ba d.b), .int .i64 d.e]) (w.heap.size + 1) 35 35 _ _ _ ((setRow_other _ _ _ _ (by omega)).trans (setRow_heap _ _ _ _ _ _ h3)) UH rfl i3)
      have RC := Lib.hid (load_C (setRow_heap (wr.drew.setRow (w.heap.size + 1) (hc x).toArray) (w.heap.size + 2) zC #[.string (ba d.b), .int .i64 d.e] _ _ h4'))
      have RB := Lib.hid (setRow_below (g := w.heap.size + 2) (cs := #[.string (ba d.b), .int .i64 d.e]) (setRow_below (g := w.heap.size + 1) (cs := (hc x).toArray) h5.drew (by omega)) (by omega))
      clear K2 h1 h2 h3 h4 h5 h6 hq h1' h4'
      go_wp2_with fail
      refine wp_region_any (by kernel_rfl) ?_
      change wpAny _ _ _ _ _ _ _ (World.drew _)
      refine wpAny_ready (rs := [0, 1]) (by kernel_rfl) (by simp) ?_
      refine AllReady.cons rfl (fun K hK => ?_) (AllReady.cons rfl (fun K hK => ?_) AllReady.nil)
      · refine step_load rfl _ _ rfl _ rfl _ LA.out ?_
        refine hK _ _ ?_
        clear hK K
        refine wpAny_ready (rs := [1, 2]) (by kernel_rfl) (by simp) ?_
        refine AllReady.cons rfl (fun K hK => ?_) (AllReady.cons rfl (fun K hK => ?_) AllReady.nil)
        · refine step_load rfl _ _ rfl _ rfl _ LC.out ?_
          refine hK _ _ ?_
          clear hK K
          refine wpAny_ready (rs := [2]) (by kernel_rfl) (by simp) ?_
          refine AllReady.cons rfl (fun K hK => ?_) AllReady.nil
          refine step_store rfl _ _ _ rfl _ rfl _ rfl _ SA.out ?_
          refine hK _ _ ?_
          clear hK K
          refine wpAny_ready (rs := [3]) (by kernel_rfl) (by simp) ?_
          refine AllReady.cons rfl (fun K hK => ?_) AllReady.nil
          refine step_store rfl _ _ _ rfl _ rfl _ rfl _ SC.out ?_
          refine hK _ _ ?_
          clear hK K
          refine wpAny_done (by kernel_rfl) ?_ _
          go_wp2_with fail
          exact bodyPost_ret (results_cell_cell 2 3 35 45 ⟨w.heap.size + 1, 0, none⟩ ⟨w.heap.size + 2, 0, none⟩ _ _ rfl rfl rfl RA.out RC.out) rfl ⟨by rw [HX.out]; rfl, RB.out⟩
        · refine step_store rfl _ _ _ rfl _ rfl _ rfl _ SA.out ?_
          refine hK _ _ ?_
          clear hK K
          refine wpAny_ready (rs := [1]) (by kernel_rfl) (by simp) ?_
          refine AllReady.cons rfl (fun K hK => ?_) AllReady.nil
          refine step_load rfl _ _ rfl _ rfl _ LC2.out ?_
          refine hK _ _ ?_
          clear hK K
          refine wpAny_ready (rs := [3]) (by kernel_rfl) (by simp) ?_
          refine AllReady.cons rfl (fun K hK => ?_) AllReady.nil
          refine step_store rfl _ _ _ rfl _ rfl _ rfl _ SC.out ?_
          refine hK _ _ ?_
          clear hK K
          refine wpAny_done (by kernel_rfl) ?_ _
          go_wp2_with fail
          exact bodyPost_ret (results_cell_cell 2 3 35 45 ⟨w.heap.size + 1, 0, none⟩ ⟨w.heap.size + 2, 0, none⟩ _ _ rfl rfl rfl RA.out RC.out) rfl ⟨by rw [HX.out]; rfl, RB.out⟩
      · refine step_load rfl _ _ rfl _ rfl _ LC.out ?_
        refine hK _ _ ?_
        clear hK K
        refine wpAny_ready (rs := [0]) (by kernel_rfl) (by simp) ?_
        refine AllReady.cons rfl (fun K hK => ?_) AllReady.nil
        refine step_load rfl _ _ rfl _ rfl _ LA.out ?_
        refine hK _ _ ?_
        clear hK K
        refine wpAny_ready (rs := [2]) (by kernel_rfl) (by simp) ?_
        refine AllReady.cons rfl (fun K hK => ?_) AllReady.nil
        refine step_store rfl _ _ _ rfl _ rfl _ rfl _ SA.out ?_
        refine hK _ _ ?_
        clear hK K
        refine wpAny_ready (rs := [3]) (by kernel_rfl) (by simp) ?_
        refine AllReady.cons rfl (fun K hK => ?_) AllReady.nil
        refine step_store rfl _ _ _ rfl _ rfl _ rfl _ SC.out ?_
        refine hK _ _ ?_
        clear hK K
        refine wpAny_done (by kernel_rfl) ?_ _
        go_wp2_with fail
        exact bodyPost_ret (results_cell_cell 2 3 35 45 ⟨w.heap.size + 1, 0, none⟩ ⟨w.heap.size + 2, 0, none⟩ _ _ rfl rfl rfl RA.out RC.out) rfl ⟨by rw [HX.out]; rfl, RB.out⟩
end Go.Proofs.Ytcaocnlchfbeaaa.Cur
